/- append of one row of ints to a slice of rows that the call itself has made. -/
import Derived.Test.YtkjbefokgmiehaaDoorCpA
import Derived.Test.YtkjbefokgmiehaaDoorAutV
import Derived.Deep.RegionLaw
namespace Go.Proofs.YtkjbefokgmiehaaDoor
open Go.RowKit

/-- v is a slice at the head of a block of ints of its own; its first cells read as xs. -/
def RowV (B0 : Nat) (w : World) (v : Value) (xs : List Int) : Prop :=
  ∃ g cap f, v = .slice (some ⟨g, 0, none⟩) xs.length cap ∧ B0 ≤ g ∧ xs.length ≤ cap ∧ w.rowIs g 3 cap f ∧ ∀ i, i < xs.length → f i = vI (at0 xs i)
theorem RowV.ext {B0 : Nat} {w w' : World} {v : Value} {xs : List Int} (h : RowV B0 w v xs) (hx : Ext w w') : RowV B0 w' v xs := by
  obtain ⟨g, cap, f, h1, h2, h3, h4, h5⟩ := h
  exact ⟨g, cap, f, h1, h2, h3, hx.row h4, h5⟩
theorem RowV.mono {B0 B1 : Nat} {w : World} {v : Value} {xs : List Int} (h : RowV B0 w v xs) (hB : B1 ≤ B0) : RowV B1 w v xs := by
  obtain ⟨g, cap, f, h1, h2, h3, h4, h5⟩ := h
  exact ⟨g, cap, f, h1, by omega, h3, h4, h5⟩
theorem RowV.setOther {B0 : Nat} {w : World} {v : Value} {xs : List Int} (h : RowV B0 w v xs) {p : Addr} (hp : p.block < B0) (u : Value) : RowV B0 (w.setCell p u) v xs := by
  obtain ⟨g, cap, f, h1, h2, h3, h4, h5⟩ := h
  exact ⟨g, cap, f, h1, h2, h3, h4.setOther (by omega) u, h5⟩
theorem RowV.one {B0 : Nat} {w : World} {v : Value} {xs : List Int} (h : RowV B0 w v xs) : v.oneCell' = true := by
  obtain ⟨g, cap, f, rfl, -⟩ := h
  rfl
theorem RowV.ints {B0 : Nat} {w : World} {v : Value} {xs : List Int} (h : RowV B0 w v xs) (hc : xs.length * 8 ≤ 140737488355328) (hb : ∀ i, i < xs.length → I64 (at0 xs i)) : SInts w v xs := by
  obtain ⟨g, cap, f, rfl, -, h3, h4, h5⟩ := h
  refine ⟨_, _, rfl, h3, hc, hb, fun _ => ⟨g, 0, rfl, h4.lt, fun i hi => ?_⟩⟩
  rw [Nat.zero_add, h4.cell (by omega), h5 i hi]
  rfl
theorem RowV.of_new {xs : List Int} {w : World} {e : Ending} {w' : World} (h : NewInts xs w e w') : ∃ v, e = .returned v ∧ RowV w.heap.size w' v xs ∧ Ext w w' := by
  obtain ⟨b, hb, he, hr, hx⟩ := h
  exact ⟨_, he, ⟨b, _, _, rfl, hb, Nat.le_refl _, hr, fun i hi => by rw [icell, if_pos hi]; rfl⟩, hx⟩
theorem RowV.of_app {base : Nat} {w : World} {v : Value} {xs : List Int} (h : AppI base w v xs) (hp : 0 < xs.length) : RowV base w v xs := by
  rcases h.2 with ⟨h1, h2⟩ | ⟨g, cap, cur, h1, hg, hh, hnc, hm, hcs, htk⟩
  · omega
  · refine ⟨g, cap, fun j => cur.getD j (.int .i64 0), h1, hg, hnc, ⟨cur, hh, by omega, fun i hi => ?_⟩, fun i hi => ?_⟩
    · show _ = some (cur.getD i _)
      rw [Array.getD_eq_getD_getElem?, Array.getElem?_eq_getElem (by omega)]; rfl
    · have e1 : (cur.toList.take (xs.length * 1))[i]? = (xs.map vI)[i]? := by rw [htk]
      rw [List.getElem?_take, if_pos (by omega)] at e1
      have e2 : cur[i]? = some (vI (at0 xs i)) := by
        rw [← Array.getElem?_toList, e1, List.getElem?_map, List.getElem?_eq_getElem hi]
        unfold at0
        rw [getD_lt _ _ hi]; rfl
      show cur.getD i _ = _
      rw [Array.getD_eq_getD_getElem?, e2]; rfl

/-- v is nil, or a slice of the call's own from block base on; its cells are slices that read as the rows rs. -/
def AppR (base : Nat) (w : World) (v : Value) (rs : List (List Int)) : Prop :=
  ∃ cells, w.ownsRow base 30 1 v rs.length cells ∧ ∀ i, i < rs.length → ∃ cv, cells[i]? = some cv ∧ RowV base w cv (rw0 rs i)
theorem AppR.nil_ (base : Nat) (w : World) : AppR base w (.slice none 0 0) [] := ⟨[], World.ownsRow_nil w base _ _, fun i hi => absurd hi (by simp)⟩
theorem AppR.form {base : Nat} {w : World} {v : Value} {rs : List (List Int)} (h : AppR base w v rs) : ∃ A c, v = .slice A rs.length c ∧ rs.length ≤ c := by
  obtain ⟨cells, h, -⟩ := h
  rcases h.2 with ⟨h1, h2⟩ | ⟨g, cap, cur, h1, -, -, h2, -⟩
  · exact ⟨none, 0, by rw [h1, h2], by omega⟩
  · exact ⟨_, _, h1, h2⟩
theorem AppR.one {base : Nat} {w : World} {v : Value} {rs : List (List Int)} (h : AppR base w v rs) : v.oneCell' = true := by
  obtain ⟨A, c, rfl, -⟩ := h.form
  rfl
theorem AppR.ext {base : Nat} {w w' : World} {v : Value} {rs : List (List Int)} (h : AppR base w v rs) (hx : Ext w w') : AppR base w' v rs := by
  obtain ⟨cells, h1, h2⟩ := h
  refine ⟨cells, World.ownsRow.kept (row := none) h1 ⟨hx.os, hx.tape, hx.output, hx.size, fun k hk _ => hx.block k hk⟩ (by
    cases hv : v.ownBlock with
    | none => exact .inl rfl
    | some k => exact .inr (by simp)), fun i hi => ?_⟩
  obtain ⟨cv, h3, h4⟩ := h2 i hi
  exact ⟨cv, h3, h4.ext hx⟩
theorem AppR.mono {b1 b2 : Nat} {w : World} {v : Value} {rs : List (List Int)} (h : AppR b2 w v rs) (hb : b1 ≤ b2) : AppR b1 w v rs := by
  obtain ⟨cells, h1, h2⟩ := h
  refine ⟨cells, ⟨h1.1, ?_⟩, fun i hi => ?_⟩
  · rcases h1.2 with hn | ⟨g, cap, cur, e, hg, rest⟩
    · exact .inl hn
    · exact .inr ⟨g, cap, cur, e, by omega, rest⟩
  · obtain ⟨cv, h3, h4⟩ := h2 i hi
    exact ⟨cv, h3, h4.mono hb⟩
/-- A store into an elder block. -/
theorem AppR.setFar {base : Nat} {w : World} {v : Value} {rs : List (List Int)} (h : AppR base w v rs) {p : Addr} (hp : p.block < base) (u : Value) : AppR base (w.setCell p u) v rs := by
  obtain ⟨cells, h1, h2⟩ := h
  refine ⟨cells, ⟨h1.1, ?_⟩, fun i hi => ?_⟩
  · rcases h1.2 with hn | ⟨g, cap, cur, e, hb, hgg, rest⟩
    · exact .inl hn
    · exact .inr ⟨g, cap, cur, e, hb, (Deep.blk_setCell_other w p u g (by omega)).trans hgg, rest⟩
  · obtain ⟨cv, h3, h4⟩ := h2 i hi
    exact ⟨cv, h3, h4.setOther hp u⟩
theorem AppR.rows {base : Nat} {w : World} {v : Value} {rs : List (List Int)} (h : AppR base w v rs) (hc : rs.length * 24 ≤ 140737488355328)
    (hl : ∀ i, i < rs.length → (rw0 rs i).length * 8 ≤ 140737488355328) (hi : ∀ i, i < rs.length → ∀ j, j < (rw0 rs i).length → I64 (at0 (rw0 rs i) j)) : SRows w v rs := by
  obtain ⟨cells, h1, h2⟩ := h
  rcases h1.2 with ⟨e1, e2⟩ | ⟨g, cap, cur, e1, hg, hh, hnc, hm, hcs, htk⟩
  · exact ⟨none, 0, by rw [e1, e2], by omega, hc, fun hp => absurd hp (by omega)⟩
  · refine ⟨_, _, e1, hnc, hc, fun _ => ⟨g, 0, rfl, (Array.getElem?_eq_some_iff.1 hh).1, fun i hi' => ?_⟩⟩
    obtain ⟨cv, h3, h4⟩ := h2 i hi'
    refine ⟨cv, ?_, h4.ints (hl i hi') (hi i hi')⟩
    have e3 : (cur.toList.take (rs.length * 1))[i]? = cells[i]? := by rw [htk]
    rw [List.getElem?_take, if_pos (by omega), h3, Array.getElem?_toList] at e3
    simp [World.cell?, hh, e3]
theorem Tryd.infoSp : ∃ i, Tryd.prog.info? 30 = some i ∧ i.zero = some (.slice none 0 0) ∧ i.size = 1 ∧ i.bytes = 24 := by
  obtain ⟨i, h1, h2⟩ := Option.map_eq_some_iff.1 Tryd.infoS
  simp only [Prod.mk.injEq] at h2
  exact ⟨i, h1, h2.1, h2.2.1, h2.2.2⟩
end Go.Proofs.YtkjbefokgmiehaaDoor
