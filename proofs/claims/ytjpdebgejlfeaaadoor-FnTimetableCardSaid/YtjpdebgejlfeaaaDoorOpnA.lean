/- How arguments that came in are read: slices of tasks and of ints, as the memory words of the walks have them. -/
import Derived.Test.YtjpdebgejlfeaaaDoorBase
import Derived.ProofKit
import Derived.Deep.Slices
import Derived.Deep.Fields
import Derived.ChangeSame
import Derived.Test.YtjpdebgejlfeaaaDoorRdA
namespace Go.Proofs.YtjpdebgejlfeaaaDoor
open Go.RowKit Go.ChangeShapes Go.WideShapes Go.Deep

def cellI : Option Value → Int
  | some (.int _ n) => n
  | _ => 0
theorem I64_of_wf {n : Int} (h : (Lit.int .i64 n).wf = true) : I64 n := by
  simp [Lit.wf, IntKind.min, IntKind.max, IntKind.signed, IntKind.bits] at h
  exact ⟨by omega, by omega⟩

section
variable {H : Type} {enc : TypeId × Value → H} {P : Program} {W : World}
/-- A slice of structs of three ints that came in reads as a list of tasks. -/
theorem tasks_of_trod {t e : TypeId} {f0 f1 f2 : Field} {ti : TypeId} {v : Value} {d : DataW H} {p : List MemPlace} (ht : P.underlying t = some (.slice e)) (he : P.underlying e = some (.struct #[f0, f1, f2]))
    (hone : oneCellFields P #[f0, f1, f2] = true) (hC : P.cellsOf e = 3) (t0 : f0.type = ti) (t1 : f1.type = ti) (t2 : f2.type = ti) (hti : P.underlying ti = some (.int .i64)) (hby : P.bytesOf e = 24) {r : Reach} {base : Nat}
    (hv : Value.okWide P W r base t v) (h : DataW.Trod enc P W 0 (fun _ => true) true t v d p)
    (hsz : ∀ elems spare, d = .slice elems spare → (elems.length + spare.length) * P.bytesOf e ≤ reachBytes) : ∃ ts, STasks W v ts := by
  obtain ⟨A, len, cap, rfl⟩ := okWide_slice ht hv
  obtain ⟨fuel, hf⟩ := h
  rcases open_slice ht hf with ⟨hcs, _⟩ | ⟨a, len', cap', m, n, D, Pl, hcs, _, hl, hm, hmm, hx, hi⟩
  · simp [Value.cells] at hcs
    obtain ⟨rfl, rfl, rfl⟩ := hcs
    exact ⟨[], none, 0, rfl, Nat.le_refl _, by simp, fun i hi => absurd hi (by simp), fun h => absurd h (by simp)⟩
  · simp [Value.cells] at hcs
    obtain ⟨rfl, rfl, rfl⟩ := hcs
    simp only [if_true] at hmm
    subst hmm
    have hcells : ∀ i, i < m → ∃ n0 n1 n2 : Int, W.cell? (a.add (i * 3)) = some (.int .i64 n0) ∧ W.cell? (a.add (i * 3 + 1)) = some (.int .i64 n1) ∧ W.cell? (a.add (i * 3 + 2)) = some (.int .i64 n2) ∧ I64 n0 ∧ I64 n1 ∧ I64 n2 := by
      intro i him
      obtain ⟨cs, hcc, htr⟩ := hi i him
      rw [hC] at hcc
      obtain ⟨ys, n', _, _, _, _, hfl⟩ := DataW.trod_struct he htr
      obtain ⟨_, hcl, hat⟩ := World.cells?_some hcc
      match cs, hcl with
      | [v0, v1, v2], _ =>
      have c0 := hat 0 (by omega)
      have c1 := hat 1 (by omega)
      have c2 := hat 2 (by omega)
      rw [Go.Deep.add_add] at c0 c1 c2
      obtain ⟨o0, k0⟩ := hone_of hone 0 f0 rfl
      obtain ⟨o1, k1⟩ := hone_of hone 1 f1 rfl
      obtain ⟨o2, k2⟩ := hone_of hone 2 f2 rfl
      have r0 := hfl 0 f0 rfl
      have r1 := hfl 1 f1 rfl
      have r2 := hfl 2 f2 rfl
      rw [o0, k0] at r0
      rw [o1, k1] at r1
      rw [o2, k2] at r2
      have l3 : ys.length = 3 := by simp_all
      match ys, l3 with
      | [y0, y1, y2], _ =>
      rw [t0] at r0
      rw [t1] at r1
      rw [t2] at r2
      obtain ⟨n0, e0, _, w0⟩ := DataW.trod_int hti r0
      obtain ⟨n1, e1, _, w1⟩ := DataW.trod_int hti r1
      obtain ⟨n2, e2, _, w2⟩ := DataW.trod_int hti r2
      simp at e0 e1 e2
      subst e0 e1 e2
      exact ⟨n0, n1, n2, c0, c1, c2, I64_of_wf w0, I64_of_wf w1, I64_of_wf w2⟩
    let ts : List Tk := (List.range len).map fun i => ⟨cellI (W.cell? (a.add (i * 3))), cellI (W.cell? (a.add (i * 3 + 1))), cellI (W.cell? (a.add (i * 3 + 2)))⟩
    have hts : ts.length = len := by simp [ts]
    have hat : ∀ i, i < len → tk0 ts i = ⟨cellI (W.cell? (a.add (i * 3))), cellI (W.cell? (a.add (i * 3 + 1))), cellI (W.cell? (a.add (i * 3 + 2)))⟩ := by
      intro i hi'
      unfold tk0
      rw [getD_lt _ _ (by rw [hts]; exact hi')]
      simp [ts]
    have hd := hsz _ _ (by have := congrArg Prod.fst hx; exact this)
    simp only [List.length_map, List.length_range, hby] at hd
    have hreach : reachBytes = 140737488351232 := rfl
    refine ⟨ts, some a, m, by rw [hts], by rw [hts]; exact hl, by rw [hts]; omega, fun i hi' => ?_, fun hp => ?_⟩
    · rw [hts] at hi'
      obtain ⟨n0, n1, n2, c0, c1, c2, w0, w1, w2⟩ := hcells i (by omega)
      unfold tkS tkD tkM
      rw [hat i hi', c0, c1, c2]
      exact ⟨w0, w1, w2⟩
    · rw [hts] at hp ⊢
      obtain ⟨n0, n1, n2, c0, -⟩ := hcells 0 (by omega)
      obtain ⟨b, off, spot⟩ := a
      have hspot : spot = none := by simpa [Addr.add] using World.cell?_spot c0
      subst hspot
      have hadd : ∀ j, (⟨b, off, none⟩ : Addr).add j = ⟨b, off + j, none⟩ := fun j => by unfold Addr.add; split <;> simp_all
      refine ⟨b, off, rfl, block_lt_of_cell (by simpa [Addr.add] using c0), fun i hi' => ?_⟩
      obtain ⟨n0, n1, n2, c0, c1, c2, w0, w1, w2⟩ := hcells i (by omega)
      unfold tkS tkD tkM
      rw [hat i hi', c0, c1, c2]
      rw [hadd] at c0 c1 c2
      exact ⟨c0, c1, c2⟩
/-- A slice of ints that came in reads as a list of integers. -/
theorem ints_of_trod {t e : TypeId} {v : Value} {d : DataW H} {p : List MemPlace} (ht : P.underlying t = some (.slice e)) (he : P.underlying e = some (.int .i64)) (hC : P.cellsOf e = 1) (hby : P.bytesOf e = 8) {r : Reach} {base : Nat}
    (hv : Value.okWide P W r base t v) (h : DataW.Trod enc P W 0 (fun _ => true) true t v d p)
    (hsz : ∀ elems spare, d = .slice elems spare → (elems.length + spare.length) * P.bytesOf e ≤ reachBytes) : ∃ xs, SInts W v xs := by
  obtain ⟨A, len, cap, rfl⟩ := okWide_slice ht hv
  obtain ⟨fuel, hf⟩ := h
  rcases open_ints ht he hC hf with ⟨hcs, _⟩ | ⟨a, len', cap', zs, hcs, _, hl, hm, hzl, hx, hc, hwf⟩
  · simp [Value.cells] at hcs
    obtain ⟨rfl, rfl, rfl⟩ := hcs
    exact ⟨[], none, 0, rfl, Nat.le_refl _, by simp, fun i hi => absurd hi (by simp), fun h => absurd h (by simp)⟩
  · simp [Value.cells] at hcs
    obtain ⟨rfl, rfl, rfl⟩ := hcs
    simp only [if_true] at hzl
    have hd := hsz _ _ (by have := congrArg Prod.fst hx; exact this)
    simp only [lits, List.length_map, List.length_take, List.length_drop, hby] at hd
    have hreach : reachBytes = 140737488351232 := rfl
    have htl : (zs.take len).length = len := by rw [List.length_take]; omega
    have hat : ∀ i, i < len → at0 (zs.take len) i = zs.getD i 0 := by
      intro i hi
      unfold at0
      rw [getD_lt _ _ (by rw [htl]; exact hi), getD_lt _ _ (by omega), List.getElem_take]
    refine ⟨zs.take len, some a, cap, by rw [htl], by rw [htl]; exact hl, by rw [htl]; omega, fun i hi => ?_, fun hp => ?_⟩
    · rw [htl] at hi
      rw [hat i hi, getD_lt _ _ (by omega)]
      exact I64_of_wf (hwf _ (List.getElem_mem _))
    · rw [htl] at hp ⊢
      have c0 := hc 0 (by omega)
      obtain ⟨b, off, spot⟩ := a
      have hspot : spot = none := by simpa [Addr.add] using World.cell?_spot c0
      subst hspot
      have hadd : ∀ j, (⟨b, off, none⟩ : Addr).add j = ⟨b, off + j, none⟩ := fun j => by unfold Addr.add; split <;> simp_all
      refine ⟨b, off, rfl, block_lt_of_cell (by simpa [Addr.add] using c0), fun i hi => ?_⟩
      rw [hat i hi, ← hadd]
      exact hc i (by omega)
end
end Go.Proofs.YtjpdebgejlfeaaaDoor
/- A slice of bytes that came in. -/
namespace Go.Proofs.YtjpdebgejlfeaaaDoor
open Go.ChangeShapes Go.WideShapes Go.ChangeAt Go.RowKit

theorem U8_of_wf {n : Int} (h : (Lit.int .u8 n).wf = true) : 0 ≤ n ∧ n ≤ 255 := by
  simp [Lit.wf, IntKind.min, IntKind.max, IntKind.signed, IntKind.bits] at h
  exact ⟨by omega, by omega⟩
section
variable {P : Program} {H : Type} {enc : TypeId × Value → H} {W : World}
/-- A slice of bytes that came in is a slice of bytes. -/
theorem bytes_of_trod {t e : TypeId} {v : Value} {d : DataW H} {p : List MemPlace} (ht : P.underlying t = some (.slice e)) (he : P.underlying e = some (.int .u8)) (hC : P.cellsOf e = 1) (hby : P.bytesOf e = 1) {r : Reach} {base : Nat}
    (hv : Value.okWide P W r base t v) (h : DataW.Trod enc P W 0 (fun _ => true) true t v d p)
    (hsz : ∀ elems spare, d = .slice elems spare → (elems.length + spare.length) * P.bytesOf e ≤ reachBytes) : ∃ n, SBytes W v n ∧ n ≤ 140737488351232 := by
  obtain ⟨A, len, cap, rfl⟩ := okWide_slice ht hv
  obtain ⟨fuel, hf⟩ := h
  rcases open_ints ht he hC hf with ⟨hcs, _⟩ | ⟨a, len', cap', zs, hcs, _, hl, hm, hzl, hx, hc, hwf⟩
  · simp [Value.cells] at hcs
    obtain ⟨rfl, rfl, rfl⟩ := hcs
    exact ⟨0, ⟨none, 0, rfl, Nat.le_refl _, by omega, fun h => absurd h (by simp)⟩, by omega⟩
  · simp [Value.cells] at hcs
    obtain ⟨rfl, rfl, rfl⟩ := hcs
    simp only [if_true] at hzl
    have hd := hsz _ _ (by have := congrArg Prod.fst hx; exact this)
    simp only [lits, List.length_map, List.length_take, List.length_drop, hby] at hd
    have hreach : reachBytes = 140737488351232 := rfl
    refine ⟨len, ⟨some a, cap, rfl, hl, by omega, fun hp => ?_⟩, by omega⟩
    have c0 := hc 0 (by omega)
    obtain ⟨b, off, spot⟩ := a
    have hspot : spot = none := by simpa [Addr.add] using World.cell?_spot c0
    subst hspot
    have hadd : ∀ j, (⟨b, off, none⟩ : Addr).add j = ⟨b, off + j, none⟩ := fun j => by unfold Addr.add; split <;> simp_all
    refine ⟨b, off, rfl, block_lt_of_cell (by simpa [Addr.add] using c0), fun i hi => ?_⟩
    have hci := hc i (by omega)
    rw [hadd] at hci
    have hw : (Lit.int .u8 (zs.getD i 0)).wf = true := by rw [getD_lt _ _ (by omega)]; exact hwf _ (List.getElem_mem _)
    exact ⟨_, (U8_of_wf hw).1, (U8_of_wf hw).2, hci⟩
end
end Go.Proofs.YtjpdebgejlfeaaaDoor
