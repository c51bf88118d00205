/- How constraints and models that came in are read. -/
import Derived.Test.YtllgicpiddapeaaGreatDoorOpensR
import Derived.Test.YtllgicpiddapeaaGreatDoorProp
namespace Go.Proofs.YtllgicpiddapeaaGreatDoor
open Go.RowKit Go.ChangeShapes Go.WideShapes Go.Deep Go.Joins

section
variable {H : Type} {enc : TypeId × Value → H} {P : Program} {W : World}
/-- The cells of a constraint. -/
theorem con_cells {t ti tl tr : TypeId} {f0 f1 f2 f3 f4 : Field} {cs : List Value} {fuel : Nat} {x : DataW H × List MemPlace} (hs : P.underlying t = some (.struct #[f0, f1, f2, f3, f4])) (hone : oneCellFields P #[f0, f1, f2, f3, f4] = true) (hC : P.cellsOf t = 5)
    (t0 : f0.type = ti) (t1 : f1.type = tl) (t2 : f2.type = tl) (t3 : f3.type = ti) (t4 : f4.type = tr) (hti : P.underlying ti = some (.int .i64)) (htl : P.underlying tl = some (.slice ti)) (htr : P.underlying tr = some (.slice tl)) (hCi : P.cellsOf ti = 1) (hbi : P.bytesOf ti = 8) (hCl : P.cellsOf tl = 1) (hbl : P.bytesOf tl = 24)
    (h : DataW.trod enc P W 0 (fun _ => true) true fuel t cs = some x) (hw : ∀ n ∈ x.1.weights P t, n ≤ reachBytes) :
    ∃ (c : Con) (vv va vr : Value), cs = [.int .i64 c.kk, vv, va, .int .i64 c.bound, vr] ∧ SInts W vv c.vars ∧ SInts W va c.args ∧ SRows W vr c.rows := by
  obtain ⟨ys, n', _, hx, hcl, hyl, hfl⟩ := DataW.trod_struct hs h
  rw [hC] at hcl
  match cs, hcl with
  | [v0, v1, v2, v3, v4], _ =>
  obtain ⟨o0, k0⟩ := hone_of hone 0 f0 rfl
  obtain ⟨o1, k1⟩ := hone_of hone 1 f1 rfl
  obtain ⟨o2, k2⟩ := hone_of hone 2 f2 rfl
  obtain ⟨o3, k3⟩ := hone_of hone 3 f3 rfl
  obtain ⟨o4, k4⟩ := hone_of hone 4 f4 rfl
  have r0 := hfl 0 f0 rfl
  have r1 := hfl 1 f1 rfl
  have r2 := hfl 2 f2 rfl
  have r3 := hfl 3 f3 rfl
  have r4 := hfl 4 f4 rfl
  rw [o0, k0] at r0
  rw [o1, k1] at r1
  rw [o2, k2] at r2
  rw [o3, k3] at r3
  rw [o4, k4] at r4
  have l5 : ys.length = 5 := by simpa using hyl
  match ys, l5 with
  | [y0, y1, y2, y3, y4], _ =>
  rw [t0] at r0
  rw [t1] at r1
  rw [t2] at r2
  rw [t3] at r3
  rw [t4] at r4
  obtain ⟨n0, e0, -, -⟩ := DataW.trod_int hti r0
  obtain ⟨n3, e3, -, -⟩ := DataW.trod_int hti r3
  simp at e0 e3
  subst e0 e3
  simp at r1 r2 r4
  have hx1 : x.1 = .agg [y0.1, y1.1, y2.1, y3.1, y4.1] := by rw [hx]; rfl
  obtain ⟨xs1, s1⟩ := ints_cells htl hti hCi hbi r1 (fun n hn => hw n (by rw [hx1]; simp [DataW.weights, hs, DataW.weightsEach, t0, t1, hn]))
  obtain ⟨xs2, s2⟩ := ints_cells htl hti hCi hbi r2 (fun n hn => hw n (by rw [hx1]; simp [DataW.weights, hs, DataW.weightsEach, t0, t1, t2, hn]))
  obtain ⟨rs, s4⟩ := rows_cells htr htl hti hCl hbl hCi hbi r4 (fun n hn => hw n (by rw [hx1]; simp [DataW.weights, hs, DataW.weightsEach, t0, t1, t2, t3, t4, hn]))
  exact ⟨⟨n0, xs1, xs2, n3, rs⟩, v1, v2, v4, rfl, s1, s2, s4⟩
/-- A slice of constraints. -/
theorem cons_cells {ts t ti tl tr : TypeId} {f0 f1 f2 f3 f4 : Field} {rv : Value} {fuel : Nat} {x : DataW H × List MemPlace} (ht : P.underlying ts = some (.slice t)) (hs : P.underlying t = some (.struct #[f0, f1, f2, f3, f4])) (hone : oneCellFields P #[f0, f1, f2, f3, f4] = true) (hC : P.cellsOf t = 5) (hb : P.bytesOf t = 88)
    (t0 : f0.type = ti) (t1 : f1.type = tl) (t2 : f2.type = tl) (t3 : f3.type = ti) (t4 : f4.type = tr) (hti : P.underlying ti = some (.int .i64)) (htl : P.underlying tl = some (.slice ti)) (htr : P.underlying tr = some (.slice tl)) (hCi : P.cellsOf ti = 1) (hbi : P.bytesOf ti = 8) (hCl : P.cellsOf tl = 1) (hbl : P.bytesOf tl = 24)
    (hf : DataW.trod enc P W 0 (fun _ => true) true fuel ts [rv] = some x) (hw : ∀ n ∈ x.1.weights P ts, n ≤ reachBytes) : ∃ cs, SCons W rv cs := by
  rcases open_slice ht hf with ⟨hcs, _⟩ | ⟨a, len, cap, m, n, D, Pl, hcs, _, hl, hm, hmm, hx, hi⟩
  · simp at hcs
    subst hcs
    exact ⟨[], none, 0, rfl, Nat.le_refl _, by simp, fun h => absurd h (by simp)⟩
  · simp at hcs
    subst hcs
    simp only [if_true] at hmm
    subst hmm
    have hd := hw (len * 88 + (m - len) * 88) (by rw [hx]; simp [DataW.weights, ht, hb]; left; omega)
    have hreach : reachBytes = 140737488351232 := rfl
    have hcon : ∀ i, ∃ c : Con, i < len → ∃ vv va vr, W.cell? (a.add (i * 5)) = some (.int .i64 c.kk) ∧ W.cell? (a.add (i * 5 + 1)) = some vv ∧ W.cell? (a.add (i * 5 + 2)) = some va ∧ W.cell? (a.add (i * 5 + 3)) = some (.int .i64 c.bound) ∧ W.cell? (a.add (i * 5 + 4)) = some vr ∧ SInts W vv c.vars ∧ SInts W va c.args ∧ SRows W vr c.rows := by
      intro i
      by_cases hil : i < len
      · obtain ⟨cs, hcc, htr'⟩ := hi i (by omega)
        rw [hC] at hcc
        obtain ⟨_, hcl, hat⟩ := World.cells?_some hcc
        obtain ⟨c, vv, va, vr, rfl, s1, s2, s3⟩ := con_cells hs hone hC t0 t1 t2 t3 t4 hti htl htr hCi hbi hCl hbl htr' (fun n hn => hw n (by
          rw [hx]
          simp only [DataW.weights, ht, List.mem_cons, List.mem_append]
          exact .inr (.inl (weightsAll_mem (List.mem_map.2 ⟨i, List.mem_range.2 hil, rfl⟩) hn))))
        have c0 := hat 0 (by omega)
        have c1 := hat 1 (by omega)
        have c2 := hat 2 (by omega)
        have c3 := hat 3 (by omega)
        have c4 := hat 4 (by omega)
        rw [Go.Deep.add_add] at c0 c1 c2 c3 c4
        exact ⟨c, fun _ => ⟨vv, va, vr, by simpa using c0, by simpa using c1, by simpa using c2, by simpa using c3, by simpa using c4, s1, s2, s3⟩⟩
      · exact ⟨⟨0, [], [], 0, []⟩, fun h => absurd h hil⟩
    obtain ⟨f, hfr⟩ := Classical.axiomOfChoice hcon
    let rs : List Con := (List.range len).map f
    have hrs : rs.length = len := by simp [rs]
    have hat : ∀ i, i < len → con0 rs i = f i := by
      intro i hi'
      unfold con0
      rw [List.getD_eq_getElem?_getD, List.getElem?_eq_getElem (by rw [hrs]; exact hi')]
      simp [rs]
    refine ⟨rs, some a, m, by rw [hrs], by rw [hrs]; exact hl, by rw [hrs]; omega, fun hp => ?_⟩
    rw [hrs] at hp ⊢
    obtain ⟨vv, va, vr, c0, -⟩ := hfr 0 hp
    obtain ⟨b, off, spot⟩ := a
    have hspot : spot = none := by simpa [Addr.add] using World.cell?_spot c0
    subst hspot
    have hadd : ∀ j, (⟨b, off, none⟩ : Addr).add j = ⟨b, off + j, none⟩ := fun j => by unfold Addr.add; split <;> simp_all
    refine ⟨b, off, rfl, block_lt_of_cell (by simpa [Addr.add] using c0), fun i hi' => ?_⟩
    obtain ⟨vv, va, vr, c0, c1, c2, c3, c4, h1⟩ := hfr i hi'
    rw [hadd] at c0 c1 c2 c3 c4
    rw [hat i hi']
    exact ⟨vv, va, vr, c0, c1, c2, c3, c4, h1⟩
/-- A model that came in. -/
theorem model_of_trod {t td tc tk ti tl tr : TypeId} {g0 g1 f0 f1 f2 f3 f4 : Field} {v : Value} {d : DataW H} {p : List MemPlace} (hm : P.underlying t = some (.struct #[g0, g1])) (honem : oneCellFields P #[g0, g1] = true) (hCm : P.cellsOf t = 2) (e0 : g0.type = td) (e1 : g1.type = tc)
    (htd : P.underlying td = some (.slice ti)) (htc : P.underlying tc = some (.slice tk)) (hs : P.underlying tk = some (.struct #[f0, f1, f2, f3, f4])) (hone : oneCellFields P #[f0, f1, f2, f3, f4] = true) (hC : P.cellsOf tk = 5) (hb : P.bytesOf tk = 88)
    (t0 : f0.type = ti) (t1 : f1.type = tl) (t2 : f2.type = tl) (t3 : f3.type = ti) (t4 : f4.type = tr) (hti : P.underlying ti = some (.int .i64)) (htl : P.underlying tl = some (.slice ti)) (htr : P.underlying tr = some (.slice tl)) (hCi : P.cellsOf ti = 1) (hbi : P.bytesOf ti = 8) (hCl : P.cellsOf tl = 1) (hbl : P.bytesOf tl = 24)
    {r : Reach} {base : Nat} (hv : Value.okWide P W r base t v) (h : DataW.Trod enc P W 0 (fun _ => true) true t v d p) (hw : ∀ n ∈ d.weights P t, n ≤ reachBytes) : ∃ x : List Int × List Con, SMod W v x.1 x.2 := by
  obtain ⟨v0, v1, y0, y1, n, rfl, rfl, rfl, h0, h1⟩ := open_agg2 hm honem hCm hv h
  rw [e0] at h0
  rw [e1] at h1
  obtain ⟨xs, hx⟩ := ints_cells htd hti hCi hbi h0 (fun n hn => hw n (by simp [DataW.weights, hm, DataW.weightsEach, e0, hn]))
  obtain ⟨cs, hc⟩ := cons_cells htc hs hone hC hb t0 t1 t2 t3 t4 hti htl htr hCi hbi hCl hbl h1 (fun n hn => hw n (by simp [DataW.weights, hm, DataW.weightsEach, e0, e1, hn]))
  exact ⟨(xs, cs), v0, v1, rfl, hx, hc⟩
/-- A constraint that came in. -/
theorem con_of_trod {t ti tl tr : TypeId} {f0 f1 f2 f3 f4 : Field} {v : Value} {d : DataW H} {p : List MemPlace} (hs : P.underlying t = some (.struct #[f0, f1, f2, f3, f4])) (hone : oneCellFields P #[f0, f1, f2, f3, f4] = true) (hC : P.cellsOf t = 5)
    (t0 : f0.type = ti) (t1 : f1.type = tl) (t2 : f2.type = tl) (t3 : f3.type = ti) (t4 : f4.type = tr) (hti : P.underlying ti = some (.int .i64)) (htl : P.underlying tl = some (.slice ti)) (htr : P.underlying tr = some (.slice tl)) (hCi : P.cellsOf ti = 1) (hbi : P.bytesOf ti = 8) (hCl : P.cellsOf tl = 1) (hbl : P.bytesOf tl = 24)
    {r : Reach} {base : Nat} (hv : Value.okWide P W r base t v) (h : DataW.Trod enc P W 0 (fun _ => true) true t v d p) (hw : ∀ n ∈ d.weights P t, n ≤ reachBytes) : ∃ c : Con, SCon W v c := by
  obtain ⟨cs, rfl, hsz⟩ := okWide_struct hs hv
  obtain ⟨fuel, hf⟩ := h
  obtain ⟨c, vv, va, vr, he, s1, s2, s3⟩ := con_cells hs hone hC t0 t1 t2 t3 t4 hti htl htr hCi hbi hCl hbl hf hw
  refine ⟨c, vv, va, vr, ?_, s1, s2, s3⟩
  have e2 : cs.toList = [.int .i64 c.kk, vv, va, .int .i64 c.bound, vr] := by simpa [Value.cells] using he
  congr 1
  exact Array.toList_inj.1 e2
end
end Go.Proofs.YtllgicpiddapeaaGreatDoor
