/- A slice of bytes that came in. -/
import Derived.Test.YtofnihagfjdocaaOpens
import Derived.Test.YtofnihagfjdocaaRd
namespace Go.Proofs.Ytofnihagfjdocaa
open Go.ChangeShapes Go.WideShapes Go.ChangeAt Go.RowKit

theorem U8_of_wf {n : Int} (h : (Lit.int .u8 n).wf = true) : 0 ≤ n ∧ n ≤ 255 := by
  simp [Lit.wf, IntKind.min, IntKind.max, IntKind.signed, IntKind.bits] at h
  exact ⟨by omega, by omega⟩
section
variable {P : Program} {H : Type} {enc : TypeId × Value → H} {W : World}
/-- A slice of bytes that came in is a slice of bytes. -/
theorem bytes_of_trod {t e : TypeId} {v : Value} {d : DataW H} {p : List MemPlace} (ht : P.underlying t = some (.slice e)) (he : P.underlying e = some (.int .u8)) (hC : P.cellsOf e = 1) (hby : P.bytesOf e = 1) {r : Reach} {base : Nat}
    (hv : Value.okWide P W r base t v) (h : DataW.Trod enc P W 0 (fun _ => true) true t v d p)
    (hsz : ∀ elems spare, d = .slice elems spare → (elems.length + spare.length) * P.bytesOf e ≤ reachBytes) : ∃ n, SBytes W v n ∧ n ≤ 140737488351232 := by
  obtain ⟨A, len, cap, rfl⟩ := okWide_slice ht hv
  obtain ⟨fuel, hf⟩ := h
  rcases open_ints ht he hC hf with ⟨hcs, _⟩ | ⟨a, len', cap', zs, hcs, _, hl, hm, hzl, hx, hc, hwf⟩
  · simp [Value.cells] at hcs
    obtain ⟨rfl, rfl, rfl⟩ := hcs
    exact ⟨0, ⟨none, 0, rfl, Nat.le_refl _, by omega, fun h => absurd h (by simp)⟩, by omega⟩
  · simp [Value.cells] at hcs
    obtain ⟨rfl, rfl, rfl⟩ := hcs
    simp only [if_true] at hzl
    have hd := hsz _ _ (by have := congrArg Prod.fst hx; exact this)
    simp only [lits, List.length_map, List.length_take, List.length_drop, hby] at hd
    have hreach : reachBytes = 140737488351232 := rfl
    refine ⟨len, ⟨some a, cap, rfl, hl, by omega, fun hp => ?_⟩, by omega⟩
    have c0 := hc 0 (by omega)
    obtain ⟨b, off, spot⟩ := a
    have hspot : spot = none := by simpa [Addr.add] using World.cell?_spot c0
    subst hspot
    have hadd : ∀ j, (⟨b, off, none⟩ : Addr).add j = ⟨b, off + j, none⟩ := fun j => by unfold Addr.add; split <;> simp_all
    refine ⟨b, off, rfl, block_lt_of_cell (by simpa [Addr.add] using c0), fun i hi => ?_⟩
    have hci := hc i (by omega)
    rw [hadd] at hci
    have hw : (Lit.int .u8 (zs.getD i 0)).wf = true := by rw [getD_lt _ _ (by omega)]; exact hwf _ (List.getElem_mem _)
    exact ⟨_, (U8_of_wf hw).1, (U8_of_wf hw).2, hci⟩
end
end Go.Proofs.Ytofnihagfjdocaa
