/- The walk of Schedule in the program. -/
import Derived.Test.YticallgbmmahjaaTupA
import Derived.Test.YticallgbmmahjaaRFR
import Derived.Test.YticallgbmmahjaaCpy
import Derived.Test.YticallgbmmahjaaUsg
import Derived.Test.YticallgbmmahjaaAppZ
import Derived.Test.YticallgbmmahjaaBest
import Derived.Test.YticallgbmmahjaaQ12
namespace Go.Proofs.Yticallgbmmahjaa
open Go.RowKit Go.Shelf
attribute [local go_sem] Oper.semAt_some

/-- The usage never exceeds the capacity. -/
def feas (ts : List Tk) (c : Int) (x : List Int) : Bool := decide (mxL (usL ts x) ≤ c)
theorem tups_vals : ∀ (ds : List Int) (x : List Int), x ∈ tups ds → ∀ v ∈ x, 0 ≤ v ∧ v ≤ 5
  | [], x, h, v, hv => by simp [tups] at h; subst h; cases hv
  | d :: ds, x, h, v, hv => by
    simp only [tups, List.mem_flatMap, List.mem_map] at h
    obtain ⟨u, hu, t, ht, rfl⟩ := h
    rcases List.mem_cons.1 hv with rfl | hv
    · have := domK_mem d 6 v hu; omega
    · exact tups_vals ds t ht v hv
theorem tups_ok {ts : List Tk} (hv : vTks ts = true) {x : List Int} (hx : x ∈ tups (startsL ts)) : okTS ts x = true := by
  refine okTS_iff.2 ⟨hv, by rw [tups_len _ _ hx]; simp [startsL], allR_of fun j hj => ?_⟩
  have := tups_vals _ _ hx _ (at0_mem hj)
  simpa [inR] using this
theorem tups_small : ∀ ds : List Int, (tups ds).length ≤ 6 ^ ds.length
  | [] => by simp [tups]
  | d :: ds => by
    have h := tups_small ds
    have hd := domL_len d
    have e : (tups (d :: ds)).length = (domL d).length * (tups ds).length := by simp [tups, List.length_flatMap, List.map_const', List.sum_replicate_nat]
    rw [e, List.length_cons, Nat.pow_succ, Nat.mul_comm (6 ^ ds.length)]
    exact Nat.mul_le_mul hd h
theorem usL_i64 {ts : List Tk} {x : List Int} (h : okTS ts x = true) : ∀ i, i < (usL ts x).length → I64 (at0 (usL ts x) i) := fun i hi => by
  rw [usL_len] at hi
  rw [usL_at _ _ hi]
  have h1 := us_bd h i ts.length (Nat.le_refl _)
  have h4 := (vTks_len (okTS_iff.1 h).1).2
  unfold I64; omega
/-- The blocks in which the list may lie. -/
def schS (B z : Nat) (k : Nat) : Prop := (k < z ∨ z + 6 ≤ k) ∧ k ≠ B + 1
/-- What holds between two rounds. -/
structure schI (ts : List Tk) (c : Int) (B : Nat) (w1 : World) (z : Nat) (pre : List (List Int)) (own : Nat → Prop) (W : World) : Prop where
  box : ∃ lv, W.cell? ⟨B + 1, 0, none⟩ = some lv ∧ AppRS (schS B z) W lv (pre.filter (feas ts c)) ∧ ∀ g, lv.ownBlock = some g → own g
  frz : W.frozen? ⟨B + 1, 0, none⟩ = false
  ownb : own (B + 1)
  ext : Ext w1 W
  own : ∀ k, own k → k < W.heap.size ∧ w1.heap.size ≤ k
theorem schI_stays {ts : List Tk} {c : Int} {B : Nat} {w1 : World} {z : Nat} (hz : B + 1 < z ∧ w1.heap.size ≤ z) : Stays z 6 (schI ts c B w1 z) := by
  intro s own W1 W2 h hk
  obtain ⟨lv, h1, h2, h3⟩ := h.box
  have hb : B + 1 < W1.heap.size := (h.own _ h.ownb).1
  refine ⟨⟨lv, (hk.cell (p := ⟨B + 1, 0, none⟩) hb (.inl hz.1)).trans h1, h2.keep hk (fun _ h => h.1), h3⟩, (hk.frz (p := ⟨B + 1, 0, none⟩) hb (.inl hz.1)).trans h.frz, h.ownb, ?_, fun k hk' => ⟨Nat.lt_of_lt_of_le (h.own k hk').1 hk.size, (h.own k hk').2⟩⟩
  exact Below.trans h.ext (hk.below h.ext.size (fun k hk' => .inl (by omega)))
theorem schI.no {ts : List Tk} {c : Int} {B : Nat} {w1 : World} {z : Nat} {pre : List (List Int)} {x : List Int} {own : Nat → Prop} {W W' : World} (h : schI ts c B w1 z pre own W) (hx : Ext W W') (hf : feas ts c x = false) : schI ts c B w1 z (pre ++ [x]) own W' := by
  obtain ⟨lv, h1, h2, h3⟩ := h.box
  have hb : B + 1 < W.heap.size := (h.own _ h.ownb).1
  refine ⟨⟨lv, (hx.cells _ _ hb).trans h1, ?_, h3⟩, (hx.frz _ _ hb).trans h.frz, h.ownb, h.ext.trans hx, fun k hk' => ⟨Nat.lt_of_lt_of_le (h.own k hk').1 hx.size, (h.own k hk').2⟩⟩
  rw [List.filter_append]
  simpa [hf] using h2.ext hx
theorem AppRS.blk {S : Nat → Prop} {w : World} {v : Value} {rs : List (List Int)} (h : AppRS S w v rs) : ∀ g, v.ownBlock = some g → S g ∧ g < w.heap.size := by
  obtain ⟨cells, h1, hv, -⟩ := h
  exact fun g hg => ⟨hv g hg, (World.ownsRow.lt h1 g hg).2⟩
theorem schI.yes {ts : List Tk} {c : Int} {B : Nat} {w1 : World} {z : Nat} {pre : List (List Int)} {x : List Int} {own : Nat → Prop} {W W2 W3 : World} {lv lv' : Value} (h : schI ts c B w1 z pre own W) (hx : Ext W W2) (hf : feas ts c x = true)
    (hlo : ∀ g, lv.ownBlock = some g → own g) (hnb : lv.ownBlock ≠ some (B + 1)) (ha : AppRS (schS B z) W3 lv' (pre.filter (feas ts c) ++ [x])) (hg : W2.grownBy W3 lv.ownBlock) (ho : ∀ g, lv'.ownBlock = some g → lv.ownBlock = some g ∨ W2.heap.size ≤ g)
    (hb3 : W3.cell? ⟨B + 1, 0, none⟩ = some lv) :
    ∃ own', Go.Proofs.Yticallgbmmahjaa.Own own own' W (W3.setCell ⟨B + 1, 0, none⟩ lv') ∧ schI ts c B w1 z (pre ++ [x]) own' (W3.setCell ⟨B + 1, 0, none⟩ lv') := by
  have hbo := h.own _ h.ownb
  have hs2 := hx.size
  have hs3 := hg.size
  have hss : (W3.setCell ⟨B + 1, 0, none⟩ lv').heap.size = W3.heap.size := by simp [World.setCell]
  refine ⟨fun k => own k ∨ lv'.ownBlock = some k, ⟨?_, fun k hk => hk.elim .inl fun hk => (ho k hk).elim (fun h' => .inl (hlo k h')) (fun h' => .inr (by omega))⟩, ?_, ?_, .inl h.ownb, ?_, ?_⟩
  · exact (((hx.keep _).then (Keep.of_grown hg) (fun k _ hn e => hn (hlo k e))).set (fun _ hn => hn h.ownb) _)
  · refine ⟨lv', World.cell?_setCell_same' _ _ _ (by rw [hb3]; rfl), ?_, fun g hg' => .inr hg'⟩
    rw [List.filter_append, show [x].filter (feas ts c) = [x] by simp [hf]]
    exact ha.keep ((Keep.refl (fun k => k ≠ B + 1) W3).set (fun _ hn => hn rfl) _) (fun k hk => hk.2)
  · rw [World.frozen?_setCell, World.frozen?_of_block (w := W2) (hg.block _ (by show B + 1 < _; omega) (fun e => hnb e.symm))]
    exact (hx.frz _ _ hbo.1).trans h.frz
  · exact (Below.trans (h.ext.trans hx) (⟨hg.os, hg.tape, hg.output, hg.size, fun k hk => hg.block k (by omega) (fun e => by have := (h.own k (hlo k e.symm)).2; have := h.ext.size; omega)⟩ : Below w1.heap.size W2 W3)).setCell (by show w1.heap.size ≤ B + 1; exact hbo.2) _
  · intro k hk
    rw [hss]
    rcases hk with hk | hk
    · have := h.own k hk; exact ⟨by omega, this.2⟩
    · refine ⟨(ha.blk k hk).2, (ho k hk).elim (fun h' => (h.own k (hlo k h')).2) (fun h' => by have := h.ext.size; omega)⟩
theorem startsL_len (ts : List Tk) : (startsL ts).length = ts.length := by simp [startsL]
set_option maxHeartbeats 1000000 in
theorem cost_any (v v' : Value) (ts : List Tk) (xs : List Int) (b : Nat) (w : World) (hb : w.cell? ⟨b, 0, none⟩ = some v) (hT : STasks w v ts) (hS : SInts w v' xs) (hok : okTS ts xs = true) :
    Calls Try.prog 35 #[v', .pointer (some ⟨b, 0, none⟩)] w (Ret (.int .i64 (mk ts xs ts.length)) w) := by
  have hT0 := hide hT
  have hS0 := hide hS
  obtain ⟨A, cp, rfl, -⟩ := hT.form
  obtain ⟨A', cp', rfl, -⟩ := hS.form
  clear hT hS
  go_enter Try.func35, Try.ntmps35
  go_wp2_with fail
  refine (makespanI_any _ _ ts xs _ hT0.out hS0.out hok).mono ?_
  rintro e w2 ⟨rfl, hx⟩
  go_wp2
  go_ret
  exact Ret.mk rfl hx
/-- The first feasible list of the least makespan. -/
def schO (ts : List Tk) (c : Int) : Option (List Int) := bestF (fun x => mk ts x ts.length) ((tups (startsL ts)).filter (feas ts c))
set_option maxRecDepth 100000 in
set_option maxHeartbeats 4000000 in
theorem ScheduleI_ok (v : Value) (ts : List Tk) (c : Int) (w : World) (hT : STasks w v ts) (hv : vTks ts = true) (hc : inR c 0 9 = true) :
    Calls Try.prog 13 #[v, .int .i64 c] w (TwoRes ((schO ts c).getD []) (schO ts c).isSome w) := by
  have hT0 := hide hT
  obtain ⟨A, cp, rfl, -, -⟩ := hT.form
  obtain ⟨l1, l4⟩ := vTks_len hv
  have HV := hide hv
  have HC := hide (show (vTks ts && inR c 0 9) = true by rw [hv, hc]; rfl)
  have HDR := hide (show ∀ i, i < (startsL ts).length → 0 ≤ at0 (startsL ts) i ∧ at0 (startsL ts) i ≤ 9223372036854775807 from fun i hi => by
    rw [startsL_len] at hi
    rw [startsL_at ts hi]
    have := vTks_at hv hi
    omega)
  have HSL := hide (startsL_len ts)
  have hx0 := ((Ext.refl w).alloc (.cells #[.slice A ts.length cp] 23)).alloc (.cells #[.int .i64 c] 3)
  clear hT hv hc
  refine calls_marks Try.func13 rfl ?_
  simp only [Try.ntmps13, List.size_toArray, List.length_cons, List.length_nil, Nat.reduceAdd, Nat.reduceSub, Array.replicate_succ, Array.replicate_zero, List.push_toArray, List.append_toArray, List.nil_append, List.cons_append]
  go_wp2_with fail
  refine (ValidTasksI_any _ ts c _ (hT0.out.ext hx0)).mono ?_
  rintro e w1 ⟨rfl, hx1⟩
  rw [HC.out]
  have f0 : w1.cell? ⟨w.heap.size, 0, none⟩ = some (.slice A ts.length cp) := (hx1.cells _ _ (by simp <;> omega)).trans (by go_simp)
  have f1 : w1.cell? ⟨w.heap.size + 1, 0, none⟩ = some (.int .i64 c) := (hx1.cells _ _ (by simp <;> omega)).trans (by go_simp)
  have hbw : w.heap.size + 1 < w1.heap.size := Nat.lt_of_lt_of_le (by simp) hx1.size
  have hbw0 : w.heap.size < w1.heap.size := by omega
  have Hx1 := hide (hx0.trans hx1)
  clear hx0 hx1
  go_wp2_with fail
  have hxa := ((Ext.refl w1).alloc (.cells #[] 24)).alloc (.cells #[.slice (some ⟨w1.heap.size, 0, none⟩) 0 0] 43)
  refine (startsOf_any _ ts _ (hT0.out.ext (Hx1.out.trans hxa)) (by omega)).mono ?_
  rintro e w2 ⟨As, cs, bs, ms, fs, rfl, hcs, hds, hbs, hos, hx2⟩
  obtain ⟨rfl, hr2, hm2, hf2⟩ := hos (by have := HSL.out; omega)
  have hS2 := hide (SInts.own hcs hds (fun _ => ⟨rfl, hr2, hm2, hf2⟩) (fun i hi => by have := HDR.out i hi; unfold I64; omega))
  have hsl : 0 < (startsL ts).length := by have := HSL.out; omega
  have hsl4 : (startsL ts).length ≤ 100 := by have := HSL.out; omega
  go_wp2_with fail
  refine (tuples_any _ _ _ _).mono ?_
  rintro e w3 ⟨rfl, rfl⟩
  go_wp2_with fail
  have hz2 : w1.heap.size + 2 ≤ w2.heap.size := by have := hx2.size; simpa using this
  have hbs' : w1.heap.size + 2 ≤ bs := by simpa using hbs
  have hx12 := hxa.trans hx2
  have hx13 := hide (hx12.trans ((Ext.refl w2).alloc (.cells #[.slice (some ⟨bs, 0, none⟩) (startsL ts).length cs] 24)))
  have b0 : w2.cell? ⟨w1.heap.size + 1, 0, none⟩ = some (.slice (some ⟨w1.heap.size, 0, none⟩) 0 0) := (hx2.cells _ _ (by simp)).trans (by go_simp)
  have z0 : w2.frozen? ⟨w1.heap.size + 1, 0, none⟩ = false := (hx2.frz _ _ (by simp)).trans (by go_simp)
  have ha0 : AppRS (schS w1.heap.size (w2.heap.size + 1)) w2 (.slice (some ⟨w1.heap.size, 0, none⟩) 0 0) [] := ((AppRS.empty _ w1 rfl ⟨by omega, by omega⟩).ext ((Ext.refl _).alloc _)).ext hx2
  have HA0 := hide ha0
  clear ha0 hx12 hxa hx2 hr2 hf2
  have hstay : Stays (w2.alloc (.cells #[.slice (some ⟨bs, 0, none⟩) (startsL ts).length cs] 24)).heap.size 6 (schI ts c w1.heap.size w1 (w2.heap.size + 1)) := by rw [World.size_alloc]; exact schI_stays (by omega)
  refine wpIn_wide.1 (wpIn_tups (n := 3) (F := Fence.wide) rfl (by omega) (gf := 60) (lb := #[.pointer (some ⟨w2.heap.size, 0, none⟩)]) rfl trivial (enters_of Try.func60 (by kernel_rfl) rfl)
    (tuples_at 2 bs 0 cs (startsL ts) w2 hsl hsl4 HDR.out hS2.out) (Ext.refl _) rfl
    (schI ts c w1.heap.size w1 (w2.heap.size + 1)) (fun _ _ _ _ => False) hstay (fun _ _ _ _ _ h _ => h) (fun _ _ _ h => fun k hk => (h.own k hk).1)
    (fun k => k = w1.heap.size ∨ k = w1.heap.size + 1) (fun k h h' => by have h1 : k = w2.heap.size ∨ k = bs := h; have h2 : k = w1.heap.size ∨ k = w1.heap.size + 1 := h'; omega) (fun k h => by have h2 : k = w1.heap.size ∨ k = w1.heap.size + 1 := h; rw [World.size_alloc]; omega) ?start (fun v => { tmps := #[.slice A ts.length cp, .int .i64 c, .pointer (some ⟨w.heap.size, 0, none⟩), .pointer (some ⟨w.heap.size + 1, 0, none⟩), .slice none 0 0, .bool false, .pointer (some ⟨w1.heap.size + 1, 0, none⟩), v, .slice A ts.length cp, .int .i64 c, .bool true, .bool false, .slice (some ⟨w1.heap.size, 0, none⟩) 0 0, .slice A ts.length cp, .slice (some ⟨bs, 0, none⟩) (startsL ts).length cs, .func (.func 60) #[] #[.pointer (some ⟨w2.heap.size, 0, none⟩)], v, undef, undef, undef, undef, undef, undef, undef, undef, undef, undef, undef, undef, undef, undef, undef, undef], defers := [] }) ?assign ?body ?done ?stop)
  case start =>
    exact ⟨⟨_, (((Ext.refl w2).alloc _).cells _ _ (by omega)).trans b0, HA0.out.ext ((Ext.refl w2).alloc _), fun g hg => .inl (Option.some.inj hg).symm⟩, (((Ext.refl w2).alloc _).frz _ _ (by omega)).trans z0, .inr rfl, hx13.out,
      fun k hk => by have h2 : k = w1.heap.size ∨ k = w1.heap.size + 1 := hk; rw [World.size_alloc]; omega⟩
  case assign =>
    intro l x W K hK
    gi_wp2
    exact hK
  case body =>
    intro l pre x b own W hI hpre ht hz
    have HI := hide hI
    have HPRE := hide hpre
    have HTA := hide ht
    have g0 := (hI.ext.cells _ _ hbw0).trans f0
    have g1 := (hI.ext.cells _ _ hbw).trans f1
    have hbW0 := Nat.lt_of_lt_of_le hbw0 hI.ext.size
    have hbW1 := Nat.lt_of_lt_of_le hbw hI.ext.size
    have hxmem : x ∈ tups (startsL ts) := hpre.subset (by simp)
    have hok := hide (tups_ok HV.out hxmem)
    have hTW := hide (hT0.out.ext (Hx1.out.trans hI.ext))
    have hXW := hide ht.1
    have HUI := hide (usL_i64 hok.out)
    have HUB := hide (show (usL ts x).length * 8 ≤ 140737488355328 by rw [usL_len]; omega)
    have HUP := hide (show 0 < (usL ts x).length by rw [usL_len]; omega)
    have hm : Try.prog.follows .mixedOrders = true := by kernel_rfl
    have HM := hide hm
    clear hI hpre ht hxmem f0 f1 b0 z0
    gi_wp2
    refine wpIn_mono (Q := fun e a' w' => e = .normal ∧ ∃ u, a' = { tmps := #[.slice A ts.length cp, .int .i64 c, .pointer (some ⟨w.heap.size, 0, none⟩), .pointer (some ⟨w.heap.size + 1, 0, none⟩), .slice none 0 0, .bool false, .pointer (some ⟨w1.heap.size + 1, 0, none⟩), .slice (some ⟨b, 0, none⟩) x.length x.length, .slice A ts.length cp, .int .i64 c, .bool true, .bool false, .slice (some ⟨w1.heap.size, 0, none⟩) 0 0, .slice A ts.length cp, .slice (some ⟨bs, 0, none⟩) (startsL ts).length cs, .func (.func 60) #[] #[.pointer (some ⟨w2.heap.size, 0, none⟩)], .slice (some ⟨b, 0, none⟩) x.length x.length, .slice A ts.length cp, .slice (some ⟨b, 0, none⟩) x.length x.length, u, .int .i64 (mxL (usL ts x)), .int .i64 c, .bool (feas ts c x), undef, undef, undef, undef, undef, undef, undef, undef, undef, undef], defers := [] } ∧ Ext W w') ?reg6 ?_
    case reg6 =>
      gi_region_with_o (first
        | (refine ⟨trivial, ?_⟩; gi_at_call 24; refine (CallsIn.inRound l (callsIn_wide.2 (usageI_any _ _ ts x _ (hTW.out.ext (by first | exact ((Ext.refl W).drew) | exact Ext.refl W)) (hXW.out.ext (by first | exact ((Ext.refl W).drew) | exact Ext.refl W)) hok.out))).mono ?_; rintro e W1 ⟨bu, hbu, rfl, hru, hxu⟩; have k0 := (hxu.cells _ 0 hbW0).trans g0; have k1 := (hxu.cells _ 0 hbW1).trans g1)
        | (refine ⟨trivial, ?_⟩; gi_at_call 32; refine (CallsIn.inRound l (callsIn_wide.2 (Max_any _ (usL ts x) _ (SInts.of_row hru HUB.out HUI.out) HUP.out))).mono ?_; rintro e W2 ⟨rfl, rfl⟩))
      all_goals exact ⟨rfl, _, rfl, ((Ext.refl W).drew).trans hxu⟩
    rintro e a' W' ⟨rfl, u, rfl, hxw⟩
    have HXW := hide hxw
    have hI' := HI.out.ext.trans hxw
    have k0 := (hxw.cells _ 0 hbW0).trans g0
    by_cases hfe : feas ts c x = true
    · have HFE := hide hfe
      rw [hfe]
      clear hfe g0 g1 hI' hxw k0
      obtain ⟨lv, q1, q2, q3⟩ := HI.out.box
      have hbb : w1.heap.size + 1 < W.heap.size := (HI.out.own _ HI.out.ownb).1
      have c0 := (HXW.out.cells _ _ hbb).trans q1
      have z0 := (HXW.out.frz _ _ hbb).trans HI.out.frz
      have Q2 := hide (q2.ext HXW.out)
      have Q3 := hide q3
      have QN := hide (show lv.ownBlock ≠ some (w1.heap.size + 1) from fun e => (q2.blk _ e).1.2 rfl)
      have hbbW := Nat.lt_of_lt_of_le hbb HXW.out.size
      have HTL := hide HTA.out.2.2.2
      have HZ7 := hide (show w2.heap.size + 1 + 6 ≤ W.heap.size by rw [World.size_alloc] at hz; exact hz)
      have HLEN := hide (show (pre.filter (feas ts c)).length ≤ 10000 from Nat.le_trans (List.length_filter_le _ _) (by
        have := HPRE.out.length_le
        have h2 := tups_small (startsL ts)
        have h3 := HSL.out
        have h4 : 6 ^ (startsL ts).length ≤ 6 ^ 4 := Nat.pow_le_pow_right (by omega) (by omega)
        simp at this
        omega))
      obtain ⟨Alv, clv, hlv, -⟩ := q2.form
      subst hlv
      clear q1 q2 q3
      gi_wp2
      refine wpIn_region_any (by kernel_rfl) (any_round (by kernel_rfl) (by rintro ⟨a, w, h⟩; exact h) _ _ _ _ ?_)
      change wpAny _ _ _ _ _ _ _ (World.drew _)
      refine wpAny_take (i := 1) (v := ?_) rfl (by kernel_rfl) (by kernel_rfl) (by kernel_rfl) (fun _ _ _ h => h) (Or.inl ⟨by rfl, ?hy⟩) ?_
      case hy => intro w; go_simp; with_reducible rfl
      refine wpAny_ready (rs := [0, 2]) (by kernel_rfl) (by simp) ?_
      refine AllReady.cons rfl (fun K hK => ?_) (AllReady.cons rfl (fun K hK => ?_) AllReady.nil)
      · go_simp
        refine hK _ _ ?_; clear hK K
        refine wpAny_ready (rs := [2]) (by kernel_rfl) (by simp) ?_
        refine AllReady.cons rfl (fun K hK => ?_) AllReady.nil
        go_simp
        go_at_call 33
        refine (copied_any _ x _ (hXW.out.ext (HXW.out.trans ((Ext.refl W').drew)))).mono ?_
        rintro e W2 ⟨A5, c5, b5, m5, f5, rfl, hc5, -, hb5, ho5, hx5⟩
        obtain ⟨rfl, hw5⟩ := RowW.own hc5 ho5 HTL.out
        have HW5 := hide hw5
        have HX5 := hide (((Ext.refl W').drew).trans hx5)
        have c5' := (HX5.out.cells _ _ hbbW).trans c0
        have z5' := (HX5.out.frz _ _ hbbW).trans z0
        have hbb5 := Nat.lt_of_lt_of_le hbbW HX5.out.size
        have HB5 := hide hb5
        clear ho5 hw5 hx5 hc5 hb5
        refine hK _ _ ?_; clear hK K
        refine wpAny_ready (rs := [3]) (by kernel_rfl) (by simp) ?_
        refine AllReady.cons rfl (fun K hK => ?_) AllReady.nil
        go_simp
        refine hK _ _ ?_; clear hK K
        refine wpAny_ready (rs := [4]) (by kernel_rfl) (by simp) ?_
        refine AllReady.cons rfl (fun K hK => ?_) AllReady.nil
        refine step_appRS _ rfl _ _ rfl (schS w1.heap.size (w2.heap.size + 1)) (.slice Alv (pre.filter (feas ts c)).length clv) (pre.filter (feas ts c)) x (.slice (some ⟨b5, 0, none⟩) x.length c5) W2.heap.size 1 rfl rfl ((Q2.out.ext HX5.out).ext ((Ext.refl _).alloc _)) (by go_simp) ?_ ?_ ?_ ?_ ?_
        · obtain ⟨g, cap, m, f, e1, e2, e3, e4, e5⟩ := HW5.out
          exact ⟨g, cap, m, f, e1, e2, e3, ((Ext.refl W2).alloc _).row e4, e5⟩
        · intro g hg; have hg1 : some b5 = some g := hg; have hg2 := Option.some.inj hg1; subst hg2; have h5 : W'.heap.size ≤ b5 := HB5.out; have h6 := HXW.out.size; have h7 := HZ7.out; exact ⟨Or.inr (by omega), by omega⟩
        · have := HLEN.out; omega
        · intro k hk; rw [World.size_alloc] at hk; have h5 := HX5.out.size; have h6 := HXW.out.size; have h7 := HZ7.out; exact ⟨Or.inr (by omega), by omega⟩
        intro lv' W3 hA3 hg3 ho3
        have c3 : W3.cell? ⟨w1.heap.size + 1, 0, none⟩ = some (.slice Alv (pre.filter (feas ts c)).length clv) := (World.cell?_of_block (w := W2.alloc (.cells #[.slice (some ⟨b5, 0, none⟩) x.length c5] 24)) (hg3.block _ (by simp; omega) (fun e => QN.out e.symm))).trans (((((Ext.refl W2).alloc _).cells _ _ hbb5)).trans c5')
        have z3 : W3.frozen? ⟨w1.heap.size + 1, 0, none⟩ = false := (World.frozen?_of_block (w := W2.alloc (.cells #[.slice (some ⟨b5, 0, none⟩) x.length c5] 24)) (hg3.block _ (by simp; omega) (fun e => QN.out e.symm))).trans (((((Ext.refl W2).alloc _).frz _ _ hbb5)).trans z5')
        have HYES := hide (HI.out.yes (lv' := lv') (HXW.out.trans (HX5.out.trans ((Ext.refl W2).alloc _))) HFE.out Q3.out QN.out hA3 hg3 ho3 c3)
        obtain ⟨Av', cv', hvv, -⟩ := hA3.form
        rw [show (pre.filter (feas ts c) ++ [x]).length = (pre.filter (feas ts c)).length + 1 by simp] at hvv
        subst hvv
        clear hA3 hg3 ho3
        refine hK _ _ ?_; clear hK K
        refine wpAny_ready (rs := [5]) (by kernel_rfl) (by simp) ?_
        refine AllReady.cons rfl (fun K hK => ?_) AllReady.nil
        go_simp
        refine hK _ _ ?_; clear hK K
        refine wpAny_done (by kernel_rfl) ?_ _
        gi_wp2
        exact HYES.out
      · go_simp
        go_at_call 33
        refine (copied_any _ x _ (hXW.out.ext (HXW.out.trans ((Ext.refl W').drew)))).mono ?_
        rintro e W2 ⟨A5, c5, b5, m5, f5, rfl, hc5, -, hb5, ho5, hx5⟩
        obtain ⟨rfl, hw5⟩ := RowW.own hc5 ho5 HTL.out
        have HW5 := hide hw5
        have HX5 := hide (((Ext.refl W').drew).trans hx5)
        have c5' := (HX5.out.cells _ _ hbbW).trans c0
        have z5' := (HX5.out.frz _ _ hbbW).trans z0
        have hbb5 := Nat.lt_of_lt_of_le hbbW HX5.out.size
        have HB5 := hide hb5
        clear ho5 hw5 hx5 hc5 hb5
        refine hK _ _ ?_; clear hK K
        refine wpAny_ready (rs := [0, 3]) (by kernel_rfl) (by simp) ?_
        refine AllReady.cons rfl (fun K hK => ?_) (AllReady.cons rfl (fun K hK => ?_) AllReady.nil)
        · go_simp
          refine hK _ _ ?_; clear hK K
          refine wpAny_ready (rs := [3]) (by kernel_rfl) (by simp) ?_
          refine AllReady.cons rfl (fun K hK => ?_) AllReady.nil
          go_simp
          refine hK _ _ ?_; clear hK K
          refine wpAny_ready (rs := [4]) (by kernel_rfl) (by simp) ?_
          refine AllReady.cons rfl (fun K hK => ?_) AllReady.nil
          refine step_appRS _ rfl _ _ rfl (schS w1.heap.size (w2.heap.size + 1)) (.slice Alv (pre.filter (feas ts c)).length clv) (pre.filter (feas ts c)) x (.slice (some ⟨b5, 0, none⟩) x.length c5) W2.heap.size 1 rfl rfl ((Q2.out.ext HX5.out).ext ((Ext.refl _).alloc _)) (by go_simp) ?_ ?_ ?_ ?_ ?_
          · obtain ⟨g, cap, m, f, e1, e2, e3, e4, e5⟩ := HW5.out
            exact ⟨g, cap, m, f, e1, e2, e3, ((Ext.refl W2).alloc _).row e4, e5⟩
          · intro g hg; have hg1 : some b5 = some g := hg; have hg2 := Option.some.inj hg1; subst hg2; have h5 : W'.heap.size ≤ b5 := HB5.out; have h6 := HXW.out.size; have h7 := HZ7.out; exact ⟨Or.inr (by omega), by omega⟩
          · have := HLEN.out; omega
          · intro k hk; rw [World.size_alloc] at hk; have h5 := HX5.out.size; have h6 := HXW.out.size; have h7 := HZ7.out; exact ⟨Or.inr (by omega), by omega⟩
          intro lv' W3 hA3 hg3 ho3
          have c3 : W3.cell? ⟨w1.heap.size + 1, 0, none⟩ = some (.slice Alv (pre.filter (feas ts c)).length clv) := (World.cell?_of_block (w := W2.alloc (.cells #[.slice (some ⟨b5, 0, none⟩) x.length c5] 24)) (hg3.block _ (by simp; omega) (fun e => QN.out e.symm))).trans (((((Ext.refl W2).alloc _).cells _ _ hbb5)).trans c5')
          have z3 : W3.frozen? ⟨w1.heap.size + 1, 0, none⟩ = false := (World.frozen?_of_block (w := W2.alloc (.cells #[.slice (some ⟨b5, 0, none⟩) x.length c5] 24)) (hg3.block _ (by simp; omega) (fun e => QN.out e.symm))).trans (((((Ext.refl W2).alloc _).frz _ _ hbb5)).trans z5')
          have HYES := hide (HI.out.yes (lv' := lv') (HXW.out.trans (HX5.out.trans ((Ext.refl W2).alloc _))) HFE.out Q3.out QN.out hA3 hg3 ho3 c3)
          obtain ⟨Av', cv', hvv, -⟩ := hA3.form
          rw [show (pre.filter (feas ts c) ++ [x]).length = (pre.filter (feas ts c)).length + 1 by simp] at hvv
          subst hvv
          clear hA3 hg3 ho3
          refine hK _ _ ?_; clear hK K
          refine wpAny_ready (rs := [5]) (by kernel_rfl) (by simp) ?_
          refine AllReady.cons rfl (fun K hK => ?_) AllReady.nil
          go_simp
          refine hK _ _ ?_; clear hK K
          refine wpAny_done (by kernel_rfl) ?_ _
          gi_wp2
          exact HYES.out
        · go_simp
          refine hK _ _ ?_; clear hK K
          refine wpAny_ready (rs := [0]) (by kernel_rfl) (by simp) ?_
          refine AllReady.cons rfl (fun K hK => ?_) AllReady.nil
          go_simp
          refine hK _ _ ?_; clear hK K
          refine wpAny_ready (rs := [4]) (by kernel_rfl) (by simp) ?_
          refine AllReady.cons rfl (fun K hK => ?_) AllReady.nil
          refine step_appRS _ rfl _ _ rfl (schS w1.heap.size (w2.heap.size + 1)) (.slice Alv (pre.filter (feas ts c)).length clv) (pre.filter (feas ts c)) x (.slice (some ⟨b5, 0, none⟩) x.length c5) W2.heap.size 1 rfl rfl ((Q2.out.ext HX5.out).ext ((Ext.refl _).alloc _)) (by go_simp) ?_ ?_ ?_ ?_ ?_
          · obtain ⟨g, cap, m, f, e1, e2, e3, e4, e5⟩ := HW5.out
            exact ⟨g, cap, m, f, e1, e2, e3, ((Ext.refl W2).alloc _).row e4, e5⟩
          · intro g hg; have hg1 : some b5 = some g := hg; have hg2 := Option.some.inj hg1; subst hg2; have h5 : W'.heap.size ≤ b5 := HB5.out; have h6 := HXW.out.size; have h7 := HZ7.out; exact ⟨Or.inr (by omega), by omega⟩
          · have := HLEN.out; omega
          · intro k hk; rw [World.size_alloc] at hk; have h5 := HX5.out.size; have h6 := HXW.out.size; have h7 := HZ7.out; exact ⟨Or.inr (by omega), by omega⟩
          intro lv' W3 hA3 hg3 ho3
          have c3 : W3.cell? ⟨w1.heap.size + 1, 0, none⟩ = some (.slice Alv (pre.filter (feas ts c)).length clv) := (World.cell?_of_block (w := W2.alloc (.cells #[.slice (some ⟨b5, 0, none⟩) x.length c5] 24)) (hg3.block _ (by simp; omega) (fun e => QN.out e.symm))).trans (((((Ext.refl W2).alloc _).cells _ _ hbb5)).trans c5')
          have z3 : W3.frozen? ⟨w1.heap.size + 1, 0, none⟩ = false := (World.frozen?_of_block (w := W2.alloc (.cells #[.slice (some ⟨b5, 0, none⟩) x.length c5] 24)) (hg3.block _ (by simp; omega) (fun e => QN.out e.symm))).trans (((((Ext.refl W2).alloc _).frz _ _ hbb5)).trans z5')
          have HYES := hide (HI.out.yes (lv' := lv') (HXW.out.trans (HX5.out.trans ((Ext.refl W2).alloc _))) HFE.out Q3.out QN.out hA3 hg3 ho3 c3)
          obtain ⟨Av', cv', hvv, -⟩ := hA3.form
          rw [show (pre.filter (feas ts c) ++ [x]).length = (pre.filter (feas ts c)).length + 1 by simp] at hvv
          subst hvv
          clear hA3 hg3 ho3
          refine hK _ _ ?_; clear hK K
          refine wpAny_ready (rs := [5]) (by kernel_rfl) (by simp) ?_
          refine AllReady.cons rfl (fun K hK => ?_) AllReady.nil
          go_simp
          refine hK _ _ ?_; clear hK K
          refine wpAny_done (by kernel_rfl) ?_ _
          gi_wp2
          exact HYES.out
    · have HFE := hide hfe
      rw [Bool.eq_false_iff.2 hfe]
      clear hfe g0 g1 hI' hxw k0
      gi_wp2
      exact ⟨own, Own.same (HXW.out.keep _), HI.out.no HXW.out (Bool.eq_false_iff.2 HFE.out)⟩
  case done =>
    intro D own W hD hnD hI hK
    have hDl : D < W.heap.size := (Array.getElem?_eq_some_iff.1 hK).1
    have HI := hide hI
    have g0 := (hI.ext.cells _ _ hbw0).trans f0
    obtain ⟨lv, q1, q2, q3⟩ := hI.box
    obtain ⟨Alv, clv, rfl, -⟩ := q2.form
    have HMEM := hide (show ∀ k, k < ((tups (startsL ts)).filter (feas ts c)).length → rw0 ((tups (startsL ts)).filter (feas ts c)) k ∈ tups (startsL ts) from fun k hk => by
      have h1 : rw0 ((tups (startsL ts)).filter (feas ts c)) k ∈ (tups (startsL ts)).filter (feas ts c) := by rw [rw0, getD_lt _ _ hk]; exact List.getElem_mem hk
      exact (List.mem_filter.1 h1).1)
    have HSM := hide (show ((tups (startsL ts)).filter (feas ts c)).length ≤ 10000 from Nat.le_trans (List.length_filter_le _ _) (by
        have h2 := tups_small (startsL ts)
        have h3 := HSL.out
        have h4 : 6 ^ (startsL ts).length ≤ 6 ^ 4 := Nat.pow_le_pow_right (by omega) (by omega)
        omega))
    have HLN := hide (show ∀ k, k < ((tups (startsL ts)).filter (feas ts c)).length → (rw0 ((tups (startsL ts)).filter (feas ts c)) k).length = ts.length from fun k hk => by rw [tups_len _ _ (HMEM.out k hk)]; exact HSL.out)
    have HROWS := hide (q2.rows (by have := HSM.out; omega) (fun i hi => by rw [HLN.out i hi]; omega) (fun i hi j hj => by
      have := tups_vals _ _ (HMEM.out i hi) _ (at0_mem hj); unfold I64; omega))
    have hTW := hide (hT0.out.ext (Hx1.out.trans hI.ext))
    have HWX := hide (Hx1.out.trans hI.ext)
    have HKD := hide hK
    have hDw : w.heap.size ≤ D := by rw [World.size_alloc] at hD; omega
    have HQ := hide (show schO ts c = bestF (fun x => mk ts x ts.length) ((tups (startsL ts)).filter (feas ts c)) from rfl)
    clear hI q2 q3 f0 f1 b0 z0 hK hD hnD
    go_wp2_with fail
    refine (best_any _ _ 35 #[.pointer (some ⟨w.heap.size, 0, none⟩)] (fun x => mk ts x ts.length) _ HROWS.out (fun k hk => by rw [HLN.out k hk]; omega) (fun args W => callFunc_body Try.func35 (by kernel_rfl) (by kernel_rfl) args W)
      (hide (fun k hk v' W' hx hS => cost_any _ v' ts _ w.heap.size W' ((hx.cells _ _ (Nat.lt_of_lt_of_le hbw0 HI.out.ext.size)).trans g0) (hTW.out.ext hx) hS (tups_ok HV.out (HMEM.out k hk))))).mono ?_
    rintro e W2 ⟨v2, rfl, hres⟩
    have hbl : W2.heap[D]? = some (.deferred (some [])) := by
      obtain ⟨_, _, _, _, _, _, _, _, _, _, hx⟩ := hres
      exact (hx.block D hDl).trans HKD.out
    rw [← HQ.out] at hres ⊢
    have HR := hide ((hres.base HWX.out).put hDw hbl (.deferred none))
    obtain ⟨A5, c5, b5, m5, f5, hv5, -⟩ := hres
    injection hv5 with hv5
    subst hv5
    have HBL := hide hbl
    clear hbl
    go_wp2
    refine ⟨by simp, .inl ⟨_, _, rfl, run_takeDeferred HBL.out, ?_⟩⟩
    exact ⟨.tuple #[.slice A5 ((schO ts c).getD []).length c5, .bool (schO ts c).isSome], by simp only [results, Try.results13]; go_simp, ⟨_, rfl, HR.out⟩⟩
  case stop =>
    rintro D c pre own W _ _ _ h _
    exact h.elim
/-- What Schedule gives. -/
def schX (ts : List Tk) (c : Int) : Option (List Int) := if vTks ts && inR c 0 9 then schO ts c else none
set_option maxHeartbeats 2000000 in
theorem ScheduleI_any (v : Value) (ts : List Tk) (c : Int) (w : World) (hT : STasks w v ts) :
    Calls Try.prog 13 #[v, .int .i64 c] w (TwoRes ((schX ts c).getD []) (schX ts c).isSome w) := by
  by_cases hv : (vTks ts && inR c 0 9) = true
  · have h := hv
    rw [Bool.and_eq_true] at h
    unfold schX
    rw [if_pos hv]
    exact ScheduleI_ok v ts c w hT h.1 h.2
  · have HC := hide (Bool.eq_false_iff.2 hv)
    have HX := hide (show schX ts c = none by rw [schX, if_neg hv])
    have hT0 := hide hT
    obtain ⟨A, cp, rfl, -, -⟩ := hT.form
    have hx0 := ((Ext.refl w).alloc (.cells #[.slice A ts.length cp] 23)).alloc (.cells #[.int .i64 c] 3)
    clear hT hv
    go_enter Try.func13, Try.ntmps13
    go_wp2_with fail
    refine (ValidTasksI_any _ ts c _ (hT0.out.ext hx0)).mono ?_
    rintro e w1 ⟨rfl, hx1⟩
    rw [HC.out]
    have HE := hide (show TwoRes ((schX ts c).getD []) (schX ts c).isSome w (.returned (.tuple #[.slice none 0 0, .bool false])) w1 by rw [HX.out]; exact ⟨_, rfl, OwnRes.nil_ rfl (hx0.trans hx1)⟩)
    clear hx0 hx1
    go_wp2
    go_ret2
    exact HE.out
end Go.Proofs.Yticallgbmmahjaa
