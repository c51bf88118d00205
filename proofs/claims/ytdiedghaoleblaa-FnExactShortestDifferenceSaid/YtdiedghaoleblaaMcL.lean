/- The live states, in the program. -/
import Derived.Test.YtdiedghaoleblaaQ29
import Derived.Test.YtdiedghaoleblaaSep
import Derived.Test.YtdiedghaoleblaaCpA
namespace Go.Proofs.Ytdiedghaoleblaa
open Go.RowKit

/-- The successors of s. -/
def rowL (m : Mc) (s : Nat) : List Int := (List.range 6).map (fun v => (mT m s v : Int))
theorem rowL_len (m : Mc) (s : Nat) : (rowL m s).length = 6 := by simp [rowL]
theorem rowL_at (m : Mc) (s : Nat) {v : Nat} (hv : v < 6) : at0 (rowL m s) v = mT m s v := by
  unfold at0
  rw [getD_lt _ _ (by rw [rowL_len]; exact hv)]
  simp [rowL]
theorem rowL_sints {w : World} {m : Mc} {s b3 off3 c3 : Nat} (hm : MOk m) (hs : s < m.nx.length) (h2 : b3 < w.heap.size) (h4 : 6 ≤ c3) (h3 : ∀ v, v < 6 → w.cell? ⟨b3, off3 + v, none⟩ = some (.int .i64 (mT m s v))) : SInts w (.slice (some ⟨b3, off3, none⟩) 6 c3) (rowL m s) := by
  refine ⟨_, c3, by rw [rowL_len], by rw [rowL_len]; exact h4, by rw [rowL_len]; omega, fun i hi => ?_, fun _ => ⟨b3, off3, rfl, h2, fun i hi => ?_⟩⟩
  · rw [rowL_len] at hi
    rw [rowL_at m s hi]
    have := hm.lt hs hi
    have := hm.le
    unfold I64; omega
  · rw [rowL_len] at hi
    rw [rowL_at m s hi]
    exact h3 i hi
/-- A row of bools at the head of a block: the first n cells read as L. -/
def RdB (w : World) (g n cap : Nat) (L : Nat → Bool) : Prop := n ≤ cap ∧ ∃ f, w.rowIs g 4 cap f ∧ ∀ i, i < n → f i = .bool (L i)
theorem RdB.ext {w w' : World} {g n cap : Nat} {L : Nat → Bool} (h : RdB w g n cap L) (hx : Ext w w') : RdB w' g n cap L := ⟨h.1, h.2.choose, hx.row h.2.choose_spec.1, h.2.choose_spec.2⟩
theorem RdB.cell {w : World} {g n cap : Nat} {L : Nat → Bool} (h : RdB w g n cap L) {i : Nat} (hi : i < n) : w.cell? ⟨g, i, none⟩ = some (.bool (L i)) ∧ w.frozen? ⟨g, i, none⟩ = false ∧ g < w.heap.size := by
  obtain ⟨hc, f, h1, h2⟩ := h
  exact ⟨by rw [h1.cell (by omega), h2 i hi], h1.frozen i, h1.lt⟩
theorem RdB.set {w : World} {g n cap : Nat} {L : Nat → Bool} (h : RdB w g n cap L) (i : Nat) (x : Bool) : RdB (w.setCell ⟨g, i, none⟩ (.bool x)) g n cap (fun j => if j = i then x else L j) := by
  obtain ⟨hc, f, h1, h2⟩ := h
  refine ⟨hc, _, h1.set i _, fun j hj => ?_⟩
  show (if j = i then Value.bool x else f j) = .bool (if j = i then x else L j)
  by_cases e : j = i
  · rw [if_pos e, if_pos e]
  · rw [if_neg e, if_neg e, h2 j hj]
/-- A new row of bools came. -/
def NewB (n : Nat) (L : Nat → Bool) (w : World) (e : Ending) (w' : World) : Prop := ∃ g cap, w.heap.size ≤ g ∧ e = .returned (.slice (some ⟨g, 0, none⟩) n cap) ∧ RdB w' g n cap L ∧ Ext w w'
set_option maxRecDepth 100000 in
set_option maxHeartbeats 2000000 in
theorem CloneB_any (b off n c : Nat) (L : Nat → Bool) (w : World) (hn : 0 < n) (hn1 : n ≤ 1000000) (hr : ∀ i, i < n → w.cell? ⟨b, off + i, none⟩ = some (.bool (L i))) (hb : b < w.heap.size) :
    Calls Try.prog 88 #[.slice (some ⟨b, off, none⟩) n c] w (NewB n L w) := by
  have HR := hide hr
  clear hr
  have hnil := fun (W : World) => Lib.run_eql_slice_nil (P := Try.prog) W 52 4 (some ⟨b, off, none⟩) n c 0 0 Try.underlying52
  obtain ⟨i, hi, hz, hsz, hby⟩ := Try.infoBp
  have hown : (w.alloc (.cells #[] 4)).ownsRow w.heap.size 4 1 (.slice (some ⟨w.heap.size, 0, none⟩) 0 0) 0 [] := World.ownsRow_lit (size := 1) (e := 4) w #[] 0 (Nat.le_refl _) (by unfold maxLen; omega) rfl
  have HOWN := hide hown
  have HI := hide hi
  clear hown hi
  go_enter Try.func88, Try.ntmps88
  go_wp2_with (at_builtin; go_must (refine wpList_append_own _ rfl _ _ 52 rfl w.heap.size 4 i (.bool false) 1 1 Try.underlying52 HI.out hz hsz hby rfl (by omega) _ 0 [] rfl HOWN.out ⟨b, off, none⟩ n c ((List.range n).map fun j => .bool (L j)) rfl (by simp) ?_ ?_ (by unfold maxLen; omega) (by omega) (by simp) ?_))
  · intro j u hj
    rw [List.getElem?_map] at hj
    obtain ⟨y, hy1, hy2⟩ := Option.map_eq_some_iff.1 hj
    have hjl : j < n := by have := (List.getElem?_eq_some_iff.1 hy1).1; simpa using this
    have hyj : y = j := by have := (List.getElem?_eq_some_iff.1 hy1).2; simpa using this.symm
    subst hyj
    have hadd : (⟨b, off, none⟩ : Addr).add y = ⟨b, off + y, none⟩ := by unfold Addr.add; split <;> simp_all
    rw [hadd, (((Ext.refl w).alloc _).cells _ _ hb).trans (HR.out y hjl), ← hy2]
  · intro u hu
    obtain ⟨y, _, rfl⟩ := List.mem_map.1 hu
    rfl
  · intro v' w' h1 h2 _
    have hx : Ext w w' := Below.trans ((Ext.refl w).alloc _) ⟨h2.os, h2.tape, h2.output, h2.size, fun k hk => h2.block k (by simp; omega) (by simp [Value.ownBlock]; omega)⟩
    have HX := hide hx
    clear h2 hx
    rcases h1.2 with ⟨-, h0⟩ | ⟨g, cap, cur, e1, hg, hh, hnc, hm, hcs, htk⟩
    · omega
    · subst e1
      have HE := hide (show NewB n L w (.returned (.slice (some ⟨g, 0, none⟩) n cap)) w' from by
        refine ⟨g, cap, hg, rfl, ⟨by omega, fun j => cur.getD j (.bool false), ⟨cur, hh, by omega, fun i hi => by show _ = some (cur.getD i _); rw [Array.getD_eq_getD_getElem?, Array.getElem?_eq_getElem (by omega)]; rfl⟩, fun i hi => ?_⟩, HX.out⟩
        have e1 : (cur.toList.take (n * 1))[i]? = ((List.range n).map fun j => Value.bool (L j))[i]? := by rw [htk]
        rw [List.getElem?_take, if_pos (by omega), Array.getElem?_toList] at e1
        show cur.getD i _ = _
        rw [Array.getD_eq_getD_getElem?, e1]
        simp [hi])
      clear h1 hh htk hcs
      go_wp2
      go_ret
      exact HE.out
/-- How many states are marked. -/
def cntB (n : Nat) (L : Nat → Bool) : Nat := ((List.range n).filter L).length
theorem cntB_le (n : Nat) (L : Nat → Bool) : cntB n L ≤ n := by
  have := List.length_filter_le L (List.range n)
  simpa [cntB] using this
theorem cntB_set {n : Nat} {L : Nat → Bool} {s : Nat} (hs : s < n) (h : L s = false) : cntB n L < cntB n (fun j => if j = s then true else L j) := by
  refine (filter_grow _ _ _ (fun x _ hx => ?_)).2 ⟨s, List.mem_range.2 hs, h, by simp⟩
  by_cases e : x = s <;> simp [e, hx]
/-- What is known of the marks in the midst of a round that began with L0. -/
structure LvSt (m : Mc) (L0 : Nat → Bool) (s : Nat) (ch : Bool) (L : Nat → Bool) : Prop where
  fin : ∀ x, x < m.nx.length → mF m x = true → L x = true
  lv : ∀ x, x < m.nx.length → L x = true → Live m x
  grow : ch = true → cntB m.nx.length L0 < cntB m.nx.length L
  same : ch = false → L = L0 ∧ ∀ x, x < s → L x = true ∨ ∀ v, v < 6 → L (mT m x v) = false
theorem LvSt.done {m : Mc} {L0 L : Nat → Bool} (hm : MOk m) (h : LvSt m L0 m.nx.length false L) : ∀ x, x < m.nx.length → (L x = true ↔ Live m x) := by
  intro x hx
  refine ⟨h.lv x hx, fun hl => ?_⟩
  cases hq : L x with
  | true => rfl
  | false =>
    refine absurd hl (dead_of hm (fun x => L x = false) (fun s hs hd => ?_) (fun s hs hd v hv => ?_) hx hq)
    · cases hf : mF m s with
      | false => rfl
      | true => rw [h.fin s hs hf] at hd; cases hd
    · rcases (h.same rfl).2 s hs with h1 | h1
      · rw [h1] at hd; cases hd
      · exact h1 v hv
theorem LvSt.skip {m : Mc} {L0 L : Nat → Bool} {s : Nat} {ch : Bool} (h : LvSt m L0 s ch L) (hs : L s = true ∨ ∀ v, v < 6 → L (mT m s v) = false) : LvSt m L0 (s + 1) ch L :=
  ⟨h.fin, h.lv, h.grow, fun hc => ⟨(h.same hc).1, fun x hx => by
    by_cases e : x = s
    · subst e; exact hs
    · exact (h.same hc).2 x (by omega)⟩⟩
theorem LvSt.mark {m : Mc} {L0 L : Nat → Bool} {s v : Nat} {ch : Bool} (hm : MOk m) (h : LvSt m L0 s ch L) (hs : s < m.nx.length) (hn : L s = false) (hv : v < 6) (ht : L (mT m s v) = true) : LvSt m L0 (s + 1) true (fun j => if j = s then true else L j) :=
  ⟨fun x hx hf => by by_cases e : x = s <;> simp [e, h.fin x hx hf], fun x hx hl => by
    by_cases e : x = s
    · subst e; exact Live.step hv (h.lv _ (hm.lt hx hv) ht)
    · simp [e] at hl; exact h.lv x hx hl, fun _ => by
    have h1 := cntB_set (L := L) hs hn
    cases hc : ch with
    | true => have := h.grow hc; omega
    | false => rw [← (h.same hc).1]; exact h1, fun hc => by cases hc⟩
theorem live1_any (x bo g n cap : Nat) (L : Nat → Bool) (w : World) (h0 : w.cell? ⟨bo, 0, none⟩ = some (.slice (some ⟨g, 0, none⟩) n cap)) (hb : RdB w g n cap L) (hx : x < n) :
    Calls Try.prog 89 #[.int .i64 x, .pointer (some ⟨bo, 0, none⟩)] w (Ret (.bool (L x)) w) := by
  have c0 := (hb.cell hx).1
  have hxI : (x : Int) < n := by omega
  clear hb
  go_enter Try.func89, Try.ntmps89
  go_wp2
  go_ret
  exact Ret.same rfl
set_option maxHeartbeats 8000000 in
theorem live_any (vn vf : Value) (m : Mc) (w : World) (hM : RdM w vn vf m) : Calls Try.prog 68 #[.agg #[vn, vf]] w fun e w' => ∃ L : Nat → Bool, (∀ x, x < m.nx.length → (L x = true ↔ Live m x)) ∧ NewB m.nx.length L w e w' := by
  have HM := hide hM
  obtain ⟨b, off, c, b2, off2, c2, rfl, rfl, hb, hb2, hc, hc2, hR, hF, hm⟩ := hM
  have HMM := hide hm
  have HR := hide hR
  have HF := hide hF
  have hn := hm.le
  have hpos := hm.pos
  clear hm hR hF
  have hx0 := (Ext.refl w).alloc (.cells #[.slice (some ⟨b, off, none⟩) m.nx.length c, .slice (some ⟨b2, off2, none⟩) m.nx.length c2] 54)
  have HX0 := hide hx0
  go_enter Try.func68, Try.ntmps68
  go_wp2_with fail
  refine (CloneB_any b2 off2 m.nx.length c2 (mF m) _ (by omega) (by omega) (fun i hi => (hx0.cells _ _ hb2).trans (HF.out i hi)) (Nat.lt_of_lt_of_le hb2 hx0.size)).mono ?_
  rintro e w1 ⟨g, cap, hg, rfl, hB, hx1⟩
  have HB := hide hB
  have HX1 := hide (hx0.trans hx1)
  have hws : w.heap.size < w1.heap.size := by have := hx1.size; simp at this; omega
  have m0 : w1.cell? ⟨w.heap.size, 0, none⟩ = some (.slice (some ⟨b, off, none⟩) m.nx.length c) := (hx1.cells w.heap.size 0 (by simp)).trans (by go_simp)
  have hgW : g < w1.heap.size := (hB.cell (i := 0) (by omega)).2.2
  simp only [World.size_alloc] at hg
  clear hx0 hx1 hB
  obtain ⟨bo, hbo⟩ : ∃ bo, bo = w1.heap.size := ⟨_, rfl⟩
  have HBO := hide hbo
  go_wp2
  go_loopg [4] (m.nx.length - cntB m.nx.length (mF m) + 1) (fun gk chv wr => ∃ (ch : Bool) (L : Nat → Bool), chv = .bool ch ∧ Ext w wr ∧ wr.cell? ⟨w1.heap.size, 0, none⟩ = some (.slice (some ⟨g, 0, none⟩) m.nx.length cap) ∧ wr.cell? ⟨w.heap.size, 0, none⟩ = some (.slice (some ⟨b, off, none⟩) m.nx.length c) ∧ RdB wr g m.nx.length cap L ∧ w1.heap.size < wr.heap.size ∧ gk = m.nx.length - cntB m.nx.length L + (if ch then 1 else 0) ∧ (∀ x, x < m.nx.length → mF m x = true → L x = true) ∧ (∀ x, x < m.nx.length → L x = true → Live m x) ∧ (ch = false → ∀ x, x < m.nx.length → (L x = true ↔ Live m x)))
  case atStart =>
    refine ⟨true, mF m, rfl, HX1.out.alloc _, ?_, ?_, HB.out.ext ((Ext.refl _).alloc _), by simp, ?_, fun x hx h => h, fun x hx h => Live.fin h, fun h => by cases h⟩
    · go_simp
    · exact (((Ext.refl w1).alloc _).cells _ _ hws).trans m0
    · rfl
  case round =>
    obtain ⟨ch, L, rfl, hxr, n0, m0, hB, hw1, hgk, hfin, hlv, hdone⟩ := hrel
    obtain ⟨W0, rfl⟩ : ∃ W0, W0 = wr := ⟨wr, rfl⟩
    have HXR := hide hxr
    have HB := hide hB
    have HGK := hide hgk
    have HFIN := hide hfin
    have HLV := hide hlv
    have HDONE := hide hdone
    clear hxr hB hgk hfin hlv hdone
    have hwsW : w.heap.size < W0.heap.size := by omega
    cases ch with
    | false =>
      go_wp2
      go_ret
      exact ⟨L, HDONE.out trivial, g, cap, by omega, rfl, HB.out, HXR.out⟩
    | true =>
      go_wp2
      go_loopw [4, 14] (fun chv i wi => ∃ (ch : Bool) (s : Nat) (L' : Nat → Bool), chv = .bool ch ∧ i = .int .i64 s ∧ s ≤ m.nx.length ∧ LvSt m L s ch L' ∧ Ext w wi ∧ wi.cell? ⟨w1.heap.size, 0, none⟩ = some (.slice (some ⟨g, 0, none⟩) m.nx.length cap) ∧ wi.cell? ⟨w.heap.size, 0, none⟩ = some (.slice (some ⟨b, off, none⟩) m.nx.length c) ∧ RdB wi g m.nx.length cap L' ∧ w1.heap.size < wi.heap.size) (fun _ i _ => m.nx.length - (intOf i).toNat)
      case atStart => exact ⟨false, 0, L, rfl, rfl, by omega, ⟨HFIN.out, HLV.out, fun h => (by cases h), fun _ => ⟨rfl, fun x hx => by omega⟩⟩, HXR.out, n0, m0, HB.out, hw1⟩
      case round =>
        obtain ⟨ch, s, L', rfl, rfl, hs, hL, hxi, n0, m0, hB, hw1⟩ := hrel
        obtain ⟨W1, rfl⟩ : ∃ W1, W1 = wr := ⟨wr, rfl⟩
        have HL := hide hL
        have HXI := hide hxi
        have HB := hide hB
        by_cases hlt : s < m.nx.length
        · have hsI : (s : Int) < m.nx.length := by omega
          obtain ⟨bs, os, cs, fs, hbs, h6, hrs⟩ := HR.out s hlt
          have fs := (hxi.cells _ _ hb).trans fs
          have HS := hide (rowL_sints (w := W1) HMM.out hlt (Nat.lt_of_lt_of_le hbs hxi.size) h6 (fun v hv => (hxi.cells _ _ hbs).trans (hrs v hv)))
          obtain ⟨c0, z0, hgW1⟩ := hB.cell hlt
          clear hL hxi hB hrs
          cases hq : L' s with
          | true =>
            rw [hq] at c0
            have HQ := hide hq
            clear hq
            go_wp2
            go_roundw
            case rel => exact ⟨ch, s + 1, L', rfl, by go_num, by omega, HL.out.skip (.inl HQ.out), HXI.out, n0, m0, HB.out, hw1⟩
            case measure => simp [intOf]; omega
          | false =>
            rw [hq] at c0
            have HQ := hide hq
            clear hq
            go_wp2_with fail
            refine (ContainsFuncI_any _ (rowL m s) 89 _ (fun i => L' (mT m s i)) _ HS.out (callFunc_body Try.func89 (by decide) rfl) (hide fun i hi W hW => ?_)).mono ?_
            · rw [rowL_len] at hi
              rw [rowL_at m s hi]
              exact live1_any (mT m s i) w1.heap.size g m.nx.length cap L' W ((hW.cells _ _ hw1).trans n0) (HB.out.ext hW) (HMM.out.lt hlt hi)
            rw [rowL_len]
            rintro e w5 ⟨rfl, hx5⟩
            have n0 := (hx5.cells _ _ hw1).trans n0
            have m0 := (hx5.cells _ _ (by omega : w.heap.size < W1.heap.size)).trans m0
            have HB5 := hide (HB.out.ext hx5)
            have HX5 := hide (HXI.out.trans hx5)
            have hw5 := Nat.lt_of_lt_of_le hw1 hx5.size
            obtain ⟨c0, z0, hgW5⟩ := HB5.out.cell hlt
            clear hx5
            cases hq : anyB (fun i => L' (mT m s i)) 6 with
            | false =>
              have HA := hide (anyB_false.1 hq)
              clear hq
              go_wp2
              go_roundw
              case rel => exact ⟨ch, s + 1, L', rfl, by go_num, by omega, HL.out.skip (.inr HA.out), HX5.out, n0, m0, HB5.out, hw5⟩
              case measure => simp [intOf]; omega
            | true =>
              have HA := hide (anyB_iff.1 hq)
              clear hq
              have hng : g ≠ w1.heap.size := by omega
              have hng2 : g ≠ w.heap.size := by omega
              go_wp2
              go_roundw
              case rel =>
                obtain ⟨v, hv, hva⟩ := HA.out
                exact ⟨true, s + 1, _, rfl, by go_num, by omega, HL.out.mark HMM.out hlt HQ.out hv hva, HX5.out.set (by simp; omega) _, by go_simp, by go_simp, HB5.out.set s true, by simpa [World.setCell] using hw5⟩
              case measure => simp [intOf]; omega
        · obtain rfl : s = m.nx.length := by omega
          clear hL hxi hB
          go_wp2
          go_roundg (m.nx.length - cntB m.nx.length L' + (if ch then 1 else 0))
          case measure =>
            have h1 := HGK.out
            simp only [if_true] at h1
            have h2 := cntB_le m.nx.length L'
            have h3 := cntB_le m.nx.length L
            cases hc : ch with
            | true => have := HL.out.grow hc; simp; omega
            | false => have := (HL.out.same hc).1; rw [this]; simp; omega
          case rel => exact ⟨ch, L', rfl, HXI.out, n0, m0, HB.out, hw1, rfl, HL.out.fin, HL.out.lv, fun hc => LvSt.done HMM.out (hc ▸ HL.out)⟩
end Go.Proofs.Ytdiedghaoleblaa
