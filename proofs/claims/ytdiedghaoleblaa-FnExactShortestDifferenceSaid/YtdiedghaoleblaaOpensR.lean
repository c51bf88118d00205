/- How rows and automata that came in are read. -/
import Derived.Test.YtdiedghaoleblaaAutZ
import Derived.Test.YtdiedghaoleblaaOpnA
import Derived.Lib.SmallJoins
namespace Go.Proofs.Ytdiedghaoleblaa
open Go.RowKit Go.ChangeShapes Go.WideShapes Go.Deep Go.Joins

section
variable {H : Type} {enc : TypeId × Value → H} {P : Program} {W : World}
theorem weightsAll_mem {e : TypeId} {n : Nat} {d : DataW H} : ∀ {l : List (DataW H)}, d ∈ l → n ∈ d.weights P e → n ∈ DataW.weightsAll P e l
  | a :: l, hd, hn => by
    simp only [DataW.weightsAll, List.mem_append]
    rcases List.mem_cons.1 hd with rfl | hd
    · exact .inl hn
    · exact .inr (weightsAll_mem hd hn)
theorem ints_cells {t e : TypeId} {rv : Value} {fuel : Nat} {x : DataW H × List MemPlace} (ht : P.underlying t = some (.slice e)) (he : P.underlying e = some (.int .i64)) (hC : P.cellsOf e = 1) (hby : P.bytesOf e = 8)
    (hf : DataW.trod enc P W 0 (fun _ => true) true fuel t [rv] = some x) (hw : ∀ n ∈ x.1.weights P t, n ≤ reachBytes) : ∃ xs, SInts W rv xs := by
  rcases open_ints ht he hC hf with ⟨hcs, _⟩ | ⟨a, len, cap, zs, hcs, _, hl, hm, hzl, hx, hc, hwf⟩
  · simp at hcs
    subst hcs
    exact ⟨[], none, 0, rfl, Nat.le_refl _, by simp, fun i hi => absurd hi (by simp), fun h => absurd h (by simp)⟩
  · simp at hcs
    subst hcs
    simp only [if_true] at hzl
    have hd := hw ((zs.take len).length * 8 + (zs.drop len).length * 8) (by rw [hx]; simp [DataW.weights, ht, hby, lits]; left; omega)
    simp only [List.length_take, List.length_drop] at hd
    have hreach : reachBytes = 140737488351232 := rfl
    have htl : (zs.take len).length = len := by rw [List.length_take]; omega
    have hat : ∀ i, i < len → at0 (zs.take len) i = zs.getD i 0 := by
      intro i hi
      unfold at0
      rw [getD_lt _ _ (by rw [htl]; exact hi), getD_lt _ _ (by omega), List.getElem_take]
    refine ⟨zs.take len, some a, cap, by rw [htl], by rw [htl]; exact hl, by rw [htl]; omega, fun i hi => ?_, fun hp => ?_⟩
    · rw [htl] at hi
      rw [hat i hi, getD_lt _ _ (by omega)]
      exact I64_of_wf (hwf _ (List.getElem_mem _))
    · rw [htl] at hp ⊢
      have c0 := hc 0 (by omega)
      obtain ⟨b, off, spot⟩ := a
      have hspot : spot = none := by simpa [Addr.add] using World.cell?_spot c0
      subst hspot
      have hadd : ∀ j, (⟨b, off, none⟩ : Addr).add j = ⟨b, off + j, none⟩ := fun j => by unfold Addr.add; split <;> simp_all
      refine ⟨b, off, rfl, block_lt_of_cell (by simpa [Addr.add] using c0), fun i hi => ?_⟩
      rw [hat i hi, ← hadd]
      exact hc i (by omega)
theorem rows_cells {t e ei : TypeId} {rv : Value} {fuel : Nat} {x : DataW H × List MemPlace} (ht : P.underlying t = some (.slice e)) (he : P.underlying e = some (.slice ei)) (hei : P.underlying ei = some (.int .i64)) (hC : P.cellsOf e = 1) (hby : P.bytesOf e = 24) (hCi : P.cellsOf ei = 1) (hbyi : P.bytesOf ei = 8)
    (hf : DataW.trod enc P W 0 (fun _ => true) true fuel t [rv] = some x) (hw : ∀ n ∈ x.1.weights P t, n ≤ reachBytes) : ∃ rs, SRows W rv rs := by
  rcases open_slice ht hf with ⟨hcs, _⟩ | ⟨a, len, cap, m, n, D, Pl, hcs, _, hl, hm, hmm, hx, hi⟩
  · simp at hcs
    subst hcs
    exact ⟨[], none, 0, rfl, Nat.le_refl _, by simp, fun h => absurd h (by simp)⟩
  · simp at hcs
    subst hcs
    simp only [if_true] at hmm
    subst hmm
    have hd := hw (len * 24 + (m - len) * 24) (by rw [hx]; simp [DataW.weights, ht, hby]; left; omega)
    have hreach : reachBytes = 140737488351232 := rfl
    have hrow : ∀ i, ∃ xs, i < len → ∃ rv, W.cell? (a.add i) = some rv ∧ SInts W rv xs := by
      intro i
      by_cases hil : i < len
      · obtain ⟨cs, hcc, htr⟩ := hi i (by omega)
        rw [hC] at hcc
        obtain ⟨_, hcl, hat⟩ := World.cells?_some hcc
        match cs, hcl with
        | [v0], _ =>
          have c0 := hat 0 (by omega)
          rw [Nat.mul_one, Go.Deep.add_add] at c0
          obtain ⟨xs, hxs⟩ := ints_cells he hei hCi hbyi htr (fun n hn => hw n (by
            rw [hx]
            simp only [DataW.weights, ht, List.mem_cons, List.mem_append]
            exact .inr (.inl (weightsAll_mem (List.mem_map.2 ⟨i, List.mem_range.2 hil, rfl⟩) hn))))
          exact ⟨xs, fun _ => ⟨v0, by simpa using c0, hxs⟩⟩
      · exact ⟨[], fun h => absurd h hil⟩
    obtain ⟨f, hfr⟩ := Classical.axiomOfChoice hrow
    let rs : List (List Int) := (List.range len).map f
    have hrs : rs.length = len := by simp [rs]
    have hat : ∀ i, i < len → rw0 rs i = f i := by
      intro i hi'
      unfold rw0
      rw [getD_lt _ _ (by rw [hrs]; exact hi')]
      simp [rs]
    refine ⟨rs, some a, m, by rw [hrs], by rw [hrs]; exact hl, by rw [hrs]; omega, fun hp => ?_⟩
    rw [hrs] at hp ⊢
    obtain ⟨rv0, c0, -⟩ := hfr 0 hp
    obtain ⟨b, off, spot⟩ := a
    have hspot : spot = none := by simpa [Addr.add] using World.cell?_spot c0
    subst hspot
    have hadd : ∀ j, (⟨b, off, none⟩ : Addr).add j = ⟨b, off + j, none⟩ := fun j => by unfold Addr.add; split <;> simp_all
    refine ⟨b, off, rfl, block_lt_of_cell (by simpa [Addr.add] using c0), fun i hi' => ?_⟩
    obtain ⟨rv, c1, h1⟩ := hfr i hi'
    rw [hadd] at c1
    exact ⟨rv, c1, by rw [hat i hi']; exact h1⟩
/-- An automaton that came in. -/
theorem aut_of_trod {t tn tf ei : TypeId} {f0 f1 : Field} {v : Value} {d : DataW H} {p : List MemPlace} (hs : P.underlying t = some (.struct #[f0, f1])) (hone : oneCellFields P #[f0, f1] = true) (hC : P.cellsOf t = 2) (e0 : f0.type = tn) (e1 : f1.type = tf)
    (hn : P.underlying tn = some (.slice tf)) (hf : P.underlying tf = some (.slice ei)) (hei : P.underlying ei = some (.int .i64)) (hCf : P.cellsOf tf = 1) (hbf : P.bytesOf tf = 24) (hCi : P.cellsOf ei = 1) (hbi : P.bytesOf ei = 8) {r : Reach} {base : Nat}
    (hv : Value.okWide P W r base t v) (h : DataW.Trod enc P W 0 (fun _ => true) true t v d p) (hw : ∀ n ∈ d.weights P t, n ≤ reachBytes) : ∃ vn vf a, v = .agg #[vn, vf] ∧ SRows W vn (Au.next a) ∧ SInts W vf (Au.final a) := by
  obtain ⟨v0, v1, y0, y1, n, rfl, rfl, rfl, h0, h1⟩ := open_agg2 hs hone hC hv h
  rw [e0] at h0
  rw [e1] at h1
  obtain ⟨rs, hr⟩ := rows_cells hn hf hei hCf hbf hCi hbi h0 (fun n hn => hw n (by simp [DataW.weights, hs, DataW.weightsEach, e0, hn]))
  obtain ⟨xs, hx⟩ := ints_cells hf hei hCi hbi h1 (fun n hn => hw n (by simp [DataW.weights, hs, DataW.weightsEach, e1, hn]))
  exact ⟨v0, v1, ⟨rs, xs⟩, rfl, hr, hx⟩
theorem weight_at {ts : List TypeId} {ds : List (DataW H)} (h : (DataW.weightsEach P ts ds).all (· ≤ reachBytes) = true) {j : Nat} {t : TypeId} {d : DataW H} (ht : ts[j]? = some t) (hd : ds[j]? = some d) : ∀ n ∈ d.weights P t, n ≤ reachBytes := fun n hn => by
  have := List.all_eq_true.1 h _ (DataW.weights_mem_each ht hd n hn)
  simpa using this
end
end Go.Proofs.Ytdiedghaoleblaa
