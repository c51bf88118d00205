/- How removals that came in are read. -/
import Derived.Test.YtpnlambndbfenaaOpensR
import Derived.Test.YtpnlambndbfenaaRmv
namespace Go.Proofs.Ytpnlambndbfenaa
open Go.RowKit Go.ChangeShapes Go.WideShapes Go.Deep Go.Joins

section
variable {H : Type} {enc : TypeId × Value → H} {P : Program} {W : World}
/-- A slice of removals that came in. -/
theorem rms_of_trod {t e : TypeId} {f0 f1 : Field} {ti : TypeId} {v : Value} {d : DataW H} {p : List MemPlace} (ht : P.underlying t = some (.slice e)) (he : P.underlying e = some (.struct #[f0, f1]))
    (hone : oneCellFields P #[f0, f1] = true) (hC : P.cellsOf e = 2) (t0 : f0.type = ti) (t1 : f1.type = ti) (hti : P.underlying ti = some (.int .i64)) (hby : P.bytesOf e = 16) {r : Reach} {base : Nat}
    (hv : Value.okWide P W r base t v) (h : DataW.Trod enc P W 0 (fun _ => true) true t v d p)
    (hsz : ∀ elems spare, d = .slice elems spare → (elems.length + spare.length) * P.bytesOf e ≤ reachBytes) : ∃ rs, SRm W v rs := by
  obtain ⟨A, len, cap, rfl⟩ := okWide_slice ht hv
  obtain ⟨fuel, hf⟩ := h
  rcases open_slice ht hf with ⟨hcs, _⟩ | ⟨a, len', cap', m, n, D, Pl, hcs, _, hl, hm, hmm, hx, hi⟩
  · simp [Value.cells] at hcs
    obtain ⟨rfl, rfl, rfl⟩ := hcs
    exact ⟨[], none, 0, rfl, Nat.le_refl _, by simp, fun h => absurd h (by simp)⟩
  · simp [Value.cells] at hcs
    obtain ⟨rfl, rfl, rfl⟩ := hcs
    simp only [if_true] at hmm
    subst hmm
    have hcells : ∀ i, i < m → ∃ n0 n1 : Int, W.cell? (a.add (i * 2)) = some (.int .i64 n0) ∧ W.cell? (a.add (i * 2 + 1)) = some (.int .i64 n1) := by
      intro i him
      obtain ⟨cs, hcc, htr⟩ := hi i him
      rw [hC] at hcc
      obtain ⟨ys, n', _, _, _, _, hfl⟩ := DataW.trod_struct he htr
      obtain ⟨_, hcl, hat⟩ := World.cells?_some hcc
      match cs, hcl with
      | [v0, v1], _ =>
      have c0 := hat 0 (by omega)
      have c1 := hat 1 (by omega)
      rw [Go.Deep.add_add] at c0 c1
      obtain ⟨o0, k0⟩ := hone_of hone 0 f0 rfl
      obtain ⟨o1, k1⟩ := hone_of hone 1 f1 rfl
      have r0 := hfl 0 f0 rfl
      have r1 := hfl 1 f1 rfl
      rw [o0, k0] at r0
      rw [o1, k1] at r1
      have l3 : ys.length = 2 := by simp_all
      match ys, l3 with
      | [y0, y1], _ =>
      rw [t0] at r0
      rw [t1] at r1
      obtain ⟨n0, e0, _, w0⟩ := DataW.trod_int hti r0
      obtain ⟨n1, e1, _, w1⟩ := DataW.trod_int hti r1
      simp at e0 e1
      subst e0 e1
      exact ⟨n0, n1, c0, c1⟩
    let ts : List Rm := (List.range len).map fun i => ⟨cellI (W.cell? (a.add (i * 2))), cellI (W.cell? (a.add (i * 2 + 1)))⟩
    have hts : ts.length = len := by simp [ts]
    have hat : ∀ i, i < len → rm0 ts i = ⟨cellI (W.cell? (a.add (i * 2))), cellI (W.cell? (a.add (i * 2 + 1)))⟩ := by
      intro i hi'
      unfold rm0
      rw [getD_lt _ _ (by rw [hts]; exact hi')]
      simp [ts]
    have hd := hsz _ _ (by have := congrArg Prod.fst hx; exact this)
    simp only [List.length_map, List.length_range, hby] at hd
    have hreach : reachBytes = 140737488351232 := rfl
    refine ⟨ts, some a, m, by rw [hts], by rw [hts]; exact hl, by rw [hts]; omega, fun hp => ?_⟩
    rw [hts] at hp ⊢
    obtain ⟨n0, n1, c0, -⟩ := hcells 0 (by omega)
    obtain ⟨b, off, spot⟩ := a
    have hspot : spot = none := by simpa [Addr.add] using World.cell?_spot c0
    subst hspot
    have hadd : ∀ j, (⟨b, off, none⟩ : Addr).add j = ⟨b, off + j, none⟩ := fun j => by unfold Addr.add; split <;> simp_all
    refine ⟨b, off, rfl, block_lt_of_cell (by simpa [Addr.add] using c0), fun i hi' => ?_⟩
    obtain ⟨n0, n1, c0, c1⟩ := hcells i (by omega)
    unfold rmX rmV
    rw [hat i hi', c0, c1]
    rw [hadd] at c0 c1
    exact ⟨c0, c1⟩
/-- A removal that came in. -/
theorem rm_of_trod {t ti : TypeId} {f0 f1 : Field} {v : Value} {d : DataW H} {p : List MemPlace} (hs : P.underlying t = some (.struct #[f0, f1])) (hone : oneCellFields P #[f0, f1] = true) (hC : P.cellsOf t = 2) (t0 : f0.type = ti) (t1 : f1.type = ti) (hti : P.underlying ti = some (.int .i64))
    {r : Reach} {base : Nat} (hv : Value.okWide P W r base t v) (h : DataW.Trod enc P W 0 (fun _ => true) true t v d p) : ∃ x : Rm, v = rmW x := by
  obtain ⟨v0, v1, y0, y1, n, rfl, rfl, rfl, h0, h1⟩ := open_agg2 hs hone hC hv h
  rw [t0] at h0
  rw [t1] at h1
  obtain ⟨n0, e0, -, -⟩ := DataW.trod_int hti h0
  obtain ⟨n1, e1, -, -⟩ := DataW.trod_int hti h1
  simp at e0 e1
  subst e0 e1
  exact ⟨⟨n0, n1⟩, rfl⟩
end
end Go.Proofs.Ytpnlambndbfenaa
