/- How literals that came in are read. -/
import Derived.Test.YtepmaclbeggpfaaGreatOpensR
import Derived.Test.YtepmaclbeggpfaaGreatLits
import Derived.Test.YtepmaclbeggpfaaGreatClsL
namespace Go.Proofs.YtepmaclbeggpfaaGreat
open Go.RowKit Go.ChangeShapes Go.WideShapes Go.Deep Go.Joins

def cellB : Option Value → Bool
  | some (.bool b) => b
  | _ => false
section
variable {H : Type} {enc : TypeId × Value → H} {P : Program} {W : World}
/-- A slice of literals that came in. -/
theorem lits_of_trod {t e : TypeId} {f0 f1 f2 : Field} {ti tb : TypeId} {v : Value} {d : DataW H} {p : List MemPlace} (ht : P.underlying t = some (.slice e)) (he : P.underlying e = some (.struct #[f0, f1, f2]))
    (hone : oneCellFields P #[f0, f1, f2] = true) (hC : P.cellsOf e = 3) (t0 : f0.type = ti) (t1 : f1.type = ti) (t2 : f2.type = tb) (hti : P.underlying ti = some (.int .i64)) (htb : P.underlying tb = some .bool) (hby : P.bytesOf e = 24) {r : Reach} {base : Nat}
    (hv : Value.okWide P W r base t v) (h : DataW.Trod enc P W 0 (fun _ => true) true t v d p)
    (hsz : ∀ elems spare, d = .slice elems spare → (elems.length + spare.length) * P.bytesOf e ≤ reachBytes) : ∃ rs, SLt W v rs := by
  obtain ⟨A, len, cap, rfl⟩ := okWide_slice ht hv
  obtain ⟨fuel, hf⟩ := h
  rcases open_slice ht hf with ⟨hcs, _⟩ | ⟨a, len', cap', m, n, D, Pl, hcs, _, hl, hm, hmm, hx, hi⟩
  · simp [Value.cells] at hcs
    obtain ⟨rfl, rfl, rfl⟩ := hcs
    exact ⟨[], none, 0, rfl, Nat.le_refl _, by simp, fun h => absurd h (by simp)⟩
  · simp [Value.cells] at hcs
    obtain ⟨rfl, rfl, rfl⟩ := hcs
    simp only [if_true] at hmm
    subst hmm
    have hcells : ∀ i, i < m → ∃ (n0 n1 : Int) (n2 : Bool), W.cell? (a.add (i * 3)) = some (.int .i64 n0) ∧ W.cell? (a.add (i * 3 + 1)) = some (.int .i64 n1) ∧ W.cell? (a.add (i * 3 + 2)) = some (.bool n2) := by
      intro i him
      obtain ⟨cs, hcc, htr⟩ := hi i him
      rw [hC] at hcc
      obtain ⟨ys, n', _, _, _, _, hfl⟩ := DataW.trod_struct he htr
      obtain ⟨_, hcl, hat⟩ := World.cells?_some hcc
      match cs, hcl with
      | [v0, v1, v2], _ =>
      have c0 := hat 0 (by omega)
      have c1 := hat 1 (by omega)
      have c2 := hat 2 (by omega)
      rw [Go.Deep.add_add] at c0 c1 c2
      obtain ⟨o0, k0⟩ := hone_of hone 0 f0 rfl
      obtain ⟨o1, k1⟩ := hone_of hone 1 f1 rfl
      obtain ⟨o2, k2⟩ := hone_of hone 2 f2 rfl
      have r0 := hfl 0 f0 rfl
      have r1 := hfl 1 f1 rfl
      have r2 := hfl 2 f2 rfl
      rw [o0, k0] at r0
      rw [o1, k1] at r1
      rw [o2, k2] at r2
      have l3 : ys.length = 3 := by simp_all
      match ys, l3 with
      | [y0, y1, y2], _ =>
      rw [t0] at r0
      rw [t1] at r1
      rw [t2] at r2
      obtain ⟨n0, e0, _, w0⟩ := DataW.trod_int hti r0
      obtain ⟨n1, e1, _, w1⟩ := DataW.trod_int hti r1
      obtain ⟨n2, e2, -⟩ := DataW.trod_bool htb r2
      simp at e0 e1 e2
      subst e0 e1 e2
      exact ⟨n0, n1, n2, c0, c1, c2⟩
    let ts : List Lt := (List.range len).map fun i => ⟨cellI (W.cell? (a.add (i * 3))), cellI (W.cell? (a.add (i * 3 + 1))), cellB (W.cell? (a.add (i * 3 + 2)))⟩
    have hts : ts.length = len := by simp [ts]
    have hat : ∀ i, i < len → lt0 ts i = ⟨cellI (W.cell? (a.add (i * 3))), cellI (W.cell? (a.add (i * 3 + 1))), cellB (W.cell? (a.add (i * 3 + 2)))⟩ := by
      intro i hi'
      unfold lt0
      rw [getD_lt _ _ (by rw [hts]; exact hi')]
      simp [ts]
    have hd := hsz _ _ (by have := congrArg Prod.fst hx; exact this)
    simp only [List.length_map, List.length_range, hby] at hd
    have hreach : reachBytes = 140737488351232 := rfl
    refine ⟨ts, some a, m, by rw [hts], by rw [hts]; exact hl, by rw [hts]; omega, fun hp => ?_⟩
    rw [hts] at hp ⊢
    obtain ⟨n0, n1, n2, c0, -⟩ := hcells 0 (by omega)
    obtain ⟨b, off, spot⟩ := a
    have hspot : spot = none := by simpa [Addr.add] using World.cell?_spot c0
    subst hspot
    have hadd : ∀ j, (⟨b, off, none⟩ : Addr).add j = ⟨b, off + j, none⟩ := fun j => by unfold Addr.add; split <;> simp_all
    refine ⟨b, off, rfl, block_lt_of_cell (by simpa [Addr.add] using c0), fun i hi' => ?_⟩
    obtain ⟨n0, n1, n2, c0, c1, c2⟩ := hcells i (by omega)
    unfold ltX ltV ltN
    rw [hat i hi', c0, c1, c2]
    rw [hadd] at c0 c1 c2
    exact ⟨c0, c1, c2⟩
theorem lits_cells {t e : TypeId} {f0 f1 f2 : Field} {ti tb : TypeId} {rv : Value} {fuel : Nat} {x : DataW H × List MemPlace} (ht : P.underlying t = some (.slice e)) (he : P.underlying e = some (.struct #[f0, f1, f2]))
    (hone : oneCellFields P #[f0, f1, f2] = true) (hC : P.cellsOf e = 3) (t0 : f0.type = ti) (t1 : f1.type = ti) (t2 : f2.type = tb) (hti : P.underlying ti = some (.int .i64)) (htb : P.underlying tb = some .bool) (hby : P.bytesOf e = 24)
    (hf : DataW.trod enc P W 0 (fun _ => true) true fuel t [rv] = some x) (hw : ∀ n ∈ x.1.weights P t, n ≤ reachBytes) : ∃ rs, SLt W rv rs := by
  rcases open_slice ht hf with ⟨hcs, _⟩ | ⟨a, len, cap, m, n, D, Pl, hcs, _, hl, hm, hmm, hx, hi⟩
  · simp at hcs
    subst hcs
    exact ⟨[], none, 0, rfl, Nat.le_refl _, by simp, fun h => absurd h (by simp)⟩
  · simp at hcs
    subst hcs
    simp only [if_true] at hmm
    subst hmm
    have hcells : ∀ i, i < m → ∃ (n0 n1 : Int) (n2 : Bool), W.cell? (a.add (i * 3)) = some (.int .i64 n0) ∧ W.cell? (a.add (i * 3 + 1)) = some (.int .i64 n1) ∧ W.cell? (a.add (i * 3 + 2)) = some (.bool n2) := by
      intro i him
      obtain ⟨cs, hcc, htr⟩ := hi i him
      rw [hC] at hcc
      obtain ⟨ys, n', _, _, _, _, hfl⟩ := DataW.trod_struct he htr
      obtain ⟨_, hcl, hat⟩ := World.cells?_some hcc
      match cs, hcl with
      | [v0, v1, v2], _ =>
      have c0 := hat 0 (by omega)
      have c1 := hat 1 (by omega)
      have c2 := hat 2 (by omega)
      rw [Go.Deep.add_add] at c0 c1 c2
      obtain ⟨o0, k0⟩ := hone_of hone 0 f0 rfl
      obtain ⟨o1, k1⟩ := hone_of hone 1 f1 rfl
      obtain ⟨o2, k2⟩ := hone_of hone 2 f2 rfl
      have r0 := hfl 0 f0 rfl
      have r1 := hfl 1 f1 rfl
      have r2 := hfl 2 f2 rfl
      rw [o0, k0] at r0
      rw [o1, k1] at r1
      rw [o2, k2] at r2
      have l3 : ys.length = 3 := by simp_all
      match ys, l3 with
      | [y0, y1, y2], _ =>
      rw [t0] at r0
      rw [t1] at r1
      rw [t2] at r2
      obtain ⟨n0, e0, _, w0⟩ := DataW.trod_int hti r0
      obtain ⟨n1, e1, _, w1⟩ := DataW.trod_int hti r1
      obtain ⟨n2, e2, -⟩ := DataW.trod_bool htb r2
      simp at e0 e1 e2
      subst e0 e1 e2
      exact ⟨n0, n1, n2, c0, c1, c2⟩
    let ts : List Lt := (List.range len).map fun i => ⟨cellI (W.cell? (a.add (i * 3))), cellI (W.cell? (a.add (i * 3 + 1))), cellB (W.cell? (a.add (i * 3 + 2)))⟩
    have hts : ts.length = len := by simp [ts]
    have hat : ∀ i, i < len → lt0 ts i = ⟨cellI (W.cell? (a.add (i * 3))), cellI (W.cell? (a.add (i * 3 + 1))), cellB (W.cell? (a.add (i * 3 + 2)))⟩ := by
      intro i hi'
      unfold lt0
      rw [getD_lt _ _ (by rw [hts]; exact hi')]
      simp [ts]
    have hd := hw (len * 24 + (m - len) * 24) (by rw [hx]; simp [DataW.weights, ht, hby]; left; omega)
    have hreach : reachBytes = 140737488351232 := rfl
    refine ⟨ts, some a, m, by rw [hts], by rw [hts]; exact hl, by rw [hts]; omega, fun hp => ?_⟩
    rw [hts] at hp ⊢
    obtain ⟨n0, n1, n2, c0, -⟩ := hcells 0 (by omega)
    obtain ⟨b, off, spot⟩ := a
    have hspot : spot = none := by simpa [Addr.add] using World.cell?_spot c0
    subst hspot
    have hadd : ∀ j, (⟨b, off, none⟩ : Addr).add j = ⟨b, off + j, none⟩ := fun j => by unfold Addr.add; split <;> simp_all
    refine ⟨b, off, rfl, block_lt_of_cell (by simpa [Addr.add] using c0), fun i hi' => ?_⟩
    obtain ⟨n0, n1, n2, c0, c1, c2⟩ := hcells i (by omega)
    unfold ltX ltV ltN
    rw [hat i hi', c0, c1, c2]
    rw [hadd] at c0 c1 c2
    exact ⟨c0, c1, c2⟩
theorem clss_cells {t e ei ti tb : TypeId} {f0 f1 f2 : Field} {rv : Value} {fuel : Nat} {x : DataW H × List MemPlace} (ht : P.underlying t = some (.slice e)) (he : P.underlying e = some (.slice ei)) (hei : P.underlying ei = some (.struct #[f0, f1, f2])) (hone : oneCellFields P #[f0, f1, f2] = true) (t0 : f0.type = ti) (t1 : f1.type = ti) (t2 : f2.type = tb) (hti : P.underlying ti = some (.int .i64)) (htb : P.underlying tb = some .bool) (hC : P.cellsOf e = 1) (hby : P.bytesOf e = 24) (hCi : P.cellsOf ei = 3) (hbyi : P.bytesOf ei = 24)
    (hf : DataW.trod enc P W 0 (fun _ => true) true fuel t [rv] = some x) (hw : ∀ n ∈ x.1.weights P t, n ≤ reachBytes) : ∃ rs, SCls W rv rs := by
  rcases open_slice ht hf with ⟨hcs, _⟩ | ⟨a, len, cap, m, n, D, Pl, hcs, _, hl, hm, hmm, hx, hi⟩
  · simp at hcs
    subst hcs
    exact ⟨[], none, 0, rfl, Nat.le_refl _, by simp, fun h => absurd h (by simp)⟩
  · simp at hcs
    subst hcs
    simp only [if_true] at hmm
    subst hmm
    have hd := hw (len * 24 + (m - len) * 24) (by rw [hx]; simp [DataW.weights, ht, hby]; left; omega)
    have hreach : reachBytes = 140737488351232 := rfl
    have hrow : ∀ i, ∃ xs, i < len → ∃ rv, W.cell? (a.add i) = some rv ∧ SLt W rv xs := by
      intro i
      by_cases hil : i < len
      · obtain ⟨cs, hcc, htr⟩ := hi i (by omega)
        rw [hC] at hcc
        obtain ⟨_, hcl, hat⟩ := World.cells?_some hcc
        match cs, hcl with
        | [v0], _ =>
          have c0 := hat 0 (by omega)
          rw [Nat.mul_one, Go.Deep.add_add] at c0
          obtain ⟨xs, hxs⟩ := lits_cells he hei hone hCi t0 t1 t2 hti htb hbyi htr (fun n hn => hw n (by
            rw [hx]
            simp only [DataW.weights, ht, List.mem_cons, List.mem_append]
            exact .inr (.inl (weightsAll_mem (List.mem_map.2 ⟨i, List.mem_range.2 hil, rfl⟩) hn))))
          exact ⟨xs, fun _ => ⟨v0, by simpa using c0, hxs⟩⟩
      · exact ⟨[], fun h => absurd h hil⟩
    obtain ⟨f, hfr⟩ := Classical.axiomOfChoice hrow
    let rs : List (List Lt) := (List.range len).map f
    have hrs : rs.length = len := by simp [rs]
    have hat : ∀ i, i < len → cl0 rs i = f i := by
      intro i hi'
      unfold cl0
      rw [getD_lt _ _ (by rw [hrs]; exact hi')]
      simp [rs]
    refine ⟨rs, some a, m, by rw [hrs], by rw [hrs]; exact hl, by rw [hrs]; omega, fun hp => ?_⟩
    rw [hrs] at hp ⊢
    obtain ⟨rv0, c0, -⟩ := hfr 0 hp
    obtain ⟨b, off, spot⟩ := a
    have hspot : spot = none := by simpa [Addr.add] using World.cell?_spot c0
    subst hspot
    have hadd : ∀ j, (⟨b, off, none⟩ : Addr).add j = ⟨b, off + j, none⟩ := fun j => by unfold Addr.add; split <;> simp_all
    refine ⟨b, off, rfl, block_lt_of_cell (by simpa [Addr.add] using c0), fun i hi' => ?_⟩
    obtain ⟨rv, c1, h1⟩ := hfr i hi'
    rw [hadd] at c1
    exact ⟨rv, c1, by rw [hat i hi']; exact h1⟩
/-- A slice of clauses that came in. -/
theorem clss_of_trod {t e ei ti tb : TypeId} {f0 f1 f2 : Field} {v : Value} {d : DataW H} {p : List MemPlace} (ht : P.underlying t = some (.slice e)) (he : P.underlying e = some (.slice ei)) (hei : P.underlying ei = some (.struct #[f0, f1, f2])) (hone : oneCellFields P #[f0, f1, f2] = true)
    (t0 : f0.type = ti) (t1 : f1.type = ti) (t2 : f2.type = tb) (hti : P.underlying ti = some (.int .i64)) (htb : P.underlying tb = some .bool) (hC : P.cellsOf e = 1) (hby : P.bytesOf e = 24) (hCi : P.cellsOf ei = 3) (hbyi : P.bytesOf ei = 24) {r : Reach} {base : Nat}
    (hv : Value.okWide P W r base t v) (h : DataW.Trod enc P W 0 (fun _ => true) true t v d p) (hw : ∀ n ∈ d.weights P t, n ≤ reachBytes) : ∃ rs, SCls W v rs := by
  obtain ⟨A, len, cap, rfl⟩ := okWide_slice ht hv
  obtain ⟨fuel, hf⟩ := h
  exact clss_cells ht he hei hone t0 t1 t2 hti htb hC hby hCi hbyi hf hw
end
end Go.Proofs.YtepmaclbeggpfaaGreat
