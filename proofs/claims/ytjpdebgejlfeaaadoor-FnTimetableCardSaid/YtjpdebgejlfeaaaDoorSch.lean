/- The walk of Schedule in the program. -/
import Derived.Test.YtjpdebgejlfeaaaDoorTupA
import Derived.Test.YtjpdebgejlfeaaaDoorRFR
import Derived.Test.YtjpdebgejlfeaaaDoorCpy
import Derived.Test.YtjpdebgejlfeaaaDoorUsg
import Derived.Test.YtjpdebgejlfeaaaDoorAppZ
import Derived.Test.YtjpdebgejlfeaaaDoorBest
import Derived.Test.YtjpdebgejlfeaaaDoorQ12
namespace Go.Proofs.YtjpdebgejlfeaaaDoor
open Go.RowKit Go.Shelf
attribute [local go_sem] Oper.semAt_some

/-- The usage never exceeds the capacity. -/
def feas (ts : List Tk) (c : Int) (x : List Int) : Bool := decide (mxL (usL ts x) ≤ c)
theorem tups_vals : ∀ (ds : List Int) (x : List Int), x ∈ tups ds → ∀ v ∈ x, 0 ≤ v ∧ v ≤ 5
  | [], x, h, v, hv => by simp [tups] at h; subst h; cases hv
  | d :: ds, x, h, v, hv => by
    simp only [tups, List.mem_flatMap, List.mem_map] at h
    obtain ⟨u, hu, t, ht, rfl⟩ := h
    rcases List.mem_cons.1 hv with rfl | hv
    · have := domK_mem d 6 v hu; omega
    · exact tups_vals ds t ht v hv
theorem tups_ok {ts : List Tk} (hv : vTks ts = true) {x : List Int} (hx : x ∈ tups (startsL ts)) : okTS ts x = true := by
  refine okTS_iff.2 ⟨hv, by rw [tups_len _ _ hx]; simp [startsL], allR_of fun j hj => ?_⟩
  have := tups_vals _ _ hx _ (at0_mem hj)
  simpa [inR] using this
theorem tups_small : ∀ ds : List Int, (tups ds).length ≤ 6 ^ ds.length
  | [] => by simp [tups]
  | d :: ds => by
    have h := tups_small ds
    have hd := domL_len d
    have e : (tups (d :: ds)).length = (domL d).length * (tups ds).length := by simp [tups, List.length_flatMap, List.map_const', List.sum_replicate_nat]
    rw [e, List.length_cons, Nat.pow_succ, Nat.mul_comm (6 ^ ds.length)]
    exact Nat.mul_le_mul hd h
theorem usL_i64 {ts : List Tk} {x : List Int} (h : okTS ts x = true) : ∀ i, i < (usL ts x).length → I64 (at0 (usL ts x) i) := fun i hi => by
  rw [usL_len] at hi
  rw [usL_at _ _ hi]
  have h1 := us_bd h i ts.length (Nat.le_refl _)
  have h4 := (vTks_len (okTS_iff.1 h).1).2
  unfold I64; omega
/-- The blocks in which the list may lie. -/
def schS (B z : Nat) (k : Nat) : Prop := (k < z ∨ z + 6 ≤ k) ∧ k ≠ B + 1
/-- What holds between two rounds. -/
structure schI (ts : List Tk) (c : Int) (B : Nat) (w1 : World) (z : Nat) (pre : List (List Int)) (own : Nat → Prop) (W : World) : Prop where
  box : ∃ lv, W.cell? ⟨B + 1, 0, none⟩ = some lv ∧ AppRS (schS B z) W lv (pre.filter (feas ts c)) ∧ ∀ g, lv.ownBlock = some g → own g
  frz : W.frozen? ⟨B + 1, 0, none⟩ = false
  ownb : own (B + 1)
  ext : Ext w1 W
  own : ∀ k, own k → k < W.heap.size ∧ w1.heap.size ≤ k
theorem schI_stays {ts : List Tk} {c : Int} {B : Nat} {w1 : World} {z : Nat} (hz : B + 1 < z ∧ w1.heap.size ≤ z) : Stays z 6 (schI ts c B w1 z) := by
  intro s own W1 W2 h hk
  obtain ⟨lv, h1, h2, h3⟩ := h.box
  have hb : B + 1 < W1.heap.size := (h.own _ h.ownb).1
  refine ⟨⟨lv, (hk.cell (p := ⟨B + 1, 0, none⟩) hb (.inl hz.1)).trans h1, h2.keep hk (fun _ h => h.1), h3⟩, (hk.frz (p := ⟨B + 1, 0, none⟩) hb (.inl hz.1)).trans h.frz, h.ownb, ?_, fun k hk' => ⟨Nat.lt_of_lt_of_le (h.own k hk').1 hk.size, (h.own k hk').2⟩⟩
  exact Below.trans h.ext (hk.below h.ext.size (fun k hk' => .inl (by omega)))
theorem schI.no {ts : List Tk} {c : Int} {B : Nat} {w1 : World} {z : Nat} {pre : List (List Int)} {x : List Int} {own : Nat → Prop} {W W' : World} (h : schI ts c B w1 z pre own W) (hx : Ext W W') (hf : feas ts c x = false) : schI ts c B w1 z (pre ++ [x]) own W' := by
  obtain ⟨lv, h1, h2, h3⟩ := h.box
  have hb : B + 1 < W.heap.size := (h.own _ h.ownb).1
  refine ⟨⟨lv, (hx.cells _ _ hb).trans h1, ?_, h3⟩, (hx.frz _ _ hb).trans h.frz, h.ownb, h.ext.trans hx, fun k hk' => ⟨Nat.lt_of_lt_of_le (h.own k hk').1 hx.size, (h.own k hk').2⟩⟩
  rw [List.filter_append]
  simpa [hf] using h2.ext hx
theorem AppRS.blk {S : Nat → Prop} {w : World} {v : Value} {rs : List (List Int)} (h : AppRS S w v rs) : ∀ g, v.ownBlock = some g → S g ∧ g < w.heap.size := by
  obtain ⟨cells, h1, hv, -⟩ := h
  exact fun g hg => ⟨hv g hg, (World.ownsRow.lt h1 g hg).2⟩
theorem schI.yes {ts : List Tk} {c : Int} {B : Nat} {w1 : World} {z : Nat} {pre : List (List Int)} {x : List Int} {own : Nat → Prop} {W W2 W3 : World} {lv lv' : Value} (h : schI ts c B w1 z pre own W) (hx : Ext W W2) (hf : feas ts c x = true)
    (hlo : ∀ g, lv.ownBlock = some g → own g) (hnb : lv.ownBlock ≠ some (B + 1)) (ha : AppRS (schS B z) W3 lv' (pre.filter (feas ts c) ++ [x])) (hg : W2.grownBy W3 lv.ownBlock) (ho : ∀ g, lv'.ownBlock = some g → lv.ownBlock = some g ∨ W2.heap.size ≤ g)
    (hb3 : W3.cell? ⟨B + 1, 0, none⟩ = some lv) :
    ∃ own', Go.Proofs.YtjpdebgejlfeaaaDoor.Own own own' W (W3.setCell ⟨B + 1, 0, none⟩ lv') ∧ schI ts c B w1 z (pre ++ [x]) own' (W3.setCell ⟨B + 1, 0, none⟩ lv') := by
  have hbo := h.own _ h.ownb
  have hs2 := hx.size
  have hs3 := hg.size
  have hss : (W3.setCell ⟨B + 1, 0, none⟩ lv').heap.size = W3.heap.size := by simp [World.setCell]
  refine ⟨fun k => own k ∨ lv'.ownBlock = some k, ⟨?_, fun k hk => hk.elim .inl fun hk => (ho k hk).elim (fun h' => .inl (hlo k h')) (fun h' => .inr (by omega))⟩, ?_, ?_, .inl h.ownb, ?_, ?_⟩
  · exact (((hx.keep _).then (Keep.of_grown hg) (fun k _ hn e => hn (hlo k e))).set (fun _ hn => hn h.ownb) _)
  · refine ⟨lv', World.cell?_setCell_same' _ _ _ (by rw [hb3]; rfl), ?_, fun g hg' => .inr hg'⟩
    rw [List.filter_append, show [x].filter (feas ts c) = [x] by simp [hf]]
    exact ha.keep ((Keep.refl (fun k => k ≠ B + 1) W3).set (fun _ hn => hn rfl) _) (fun k hk => hk.2)
  · rw [World.frozen?_setCell, World.frozen?_of_block (w := W2) (hg.block _ (by show B + 1 < _; omega) (fun e => hnb e.symm))]
    exact (hx.frz _ _ hbo.1).trans h.frz
  · exact (Below.trans (h.ext.trans hx) (⟨hg.os, hg.tape, hg.output, hg.size, fun k hk => hg.block k (by omega) (fun e => by have := (h.own k (hlo k e.symm)).2; have := h.ext.size; omega)⟩ : Below w1.heap.size W2 W3)).setCell (by show w1.heap.size ≤ B + 1; exact hbo.2) _
  · intro k hk
    rw [hss]
    rcases hk with hk | hk
    · have := h.own k hk; exact ⟨by omega, this.2⟩
    · refine ⟨(ha.blk k hk).2, (ho k hk).elim (fun h' => (h.own k (hlo k h')).2) (fun h' => by have := h.ext.size; omega)⟩
theorem startsL_len (ts : List Tk) : (startsL ts).length = ts.length := by simp [startsL]
/-- The first feasible list of the least makespan. -/
def schO (ts : List Tk) (c : Int) : Option (List Int) := bestF (fun x => mk ts x ts.length) ((tups (startsL ts)).filter (feas ts c))
/-- What Schedule gives. -/
def schX (ts : List Tk) (c : Int) : Option (List Int) := if vTks ts && inR c 0 9 then schO ts c else none
end Go.Proofs.YtjpdebgejlfeaaaDoor
