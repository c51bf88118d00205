/- The walk of Schedule in the reference. -/
import Derived.Test.YticallgbmmahjaaAppZ
import Derived.Test.YticallgbmmahjaaBest
import Derived.Test.YticallgbmmahjaaUsg
import Derived.Test.YticallgbmmahjaaQ12
import Derived.Test.YticallgbmmahjaaSch
import Derived.Test.YticallgbmmahjaaCpA
namespace Go.Proofs.Yticallgbmmahjaa
open Go.RowKit

/-- One list more. -/
def sstep (ts : List Tk) (c : Int) (o : Option (List Int)) (x : List Int) : Option (List Int) :=
  if feas ts c x then bstep (fun x => mk ts x ts.length) o x else o
theorem sstep_fold (ts : List Tk) (c : Int) : ∀ (L : List (List Int)) (o : Option (List Int)), L.foldl (sstep ts c) o = (L.filter (feas ts c)).foldl (bstep fun x => mk ts x ts.length) o
  | [], o => rfl
  | x :: L, o => by
    rw [List.foldl_cons, sstep_fold ts c L, List.filter_cons, sstep]
    by_cases h : feas ts c x = true
    · simp [h]
    · simp [h]
def OptAt (g bs : Nat) (o : Option (List Int)) (w : World) (out : Value) : Prop :=
  match o with
  | none => out = .slice none 0 0
  | some b => ∃ bb off c, out = .slice (some ⟨bb, off, none⟩) b.length c ∧ SInts w out b ∧ bb ≠ g ∧ bb ≠ bs
theorem SInts.keep {S : Nat → Prop} {w w' : World} {b off c : Nat} {xs : List Int} (h : SInts w (.slice (some ⟨b, off, none⟩) xs.length c) xs) (hk : Keep S w w') (hb : S b) : SInts w' (.slice (some ⟨b, off, none⟩) xs.length c) xs := by
  obtain ⟨A, c', e1, e2, e3, e4, e5⟩ := h
  refine ⟨A, c', e1, e2, e3, e4, fun hp => ?_⟩
  obtain ⟨b', o, ea, hb', hc⟩ := e5 hp
  injection e1 with e1
  have e1 := Option.some.inj (e1.trans ea)
  injection e1 with e6 e7
  subst e6
  exact ⟨b, o, ea, Nat.lt_of_lt_of_le hb' hk.size, fun i hi => (hk.cell (p := ⟨b, o + i, none⟩) hb' hb).trans (hc i hi)⟩
theorem OptAt.keep {g bs : Nat} {o : Option (List Int)} {w w' : World} {out : Value} (h : OptAt g bs o w out) (hk : Keep (fun k => k ≠ g ∧ k ≠ bs) w w') : OptAt g bs o w' out := by
  cases o with
  | none => exact h
  | some b =>
    obtain ⟨bb, off, c, rfl, h2, h3, h4⟩ := h
    exact ⟨bb, off, c, rfl, h2.keep hk ⟨h3, h4⟩, h3, h4⟩
/-- The scheduler: its struct at block bs, the starts at block g. -/
structure SchSt (v : Value) (ts : List Tk) (c : Int) (g bs : Nat) (p : List Int) (o : Option (List Int)) (W : World) : Prop where
  c0 : W.cell? ⟨bs, 0, none⟩ = some v
  c1 : W.cell? ⟨bs, 1, none⟩ = some (.int .i64 c)
  c2 : W.cell? ⟨bs, 2, none⟩ = some (.slice (some ⟨g, 0, none⟩) ts.length ts.length)
  c3 : ∃ out, W.cell? ⟨bs, 3, none⟩ = some out ∧ OptAt g bs o W out
  z3 : W.frozen? ⟨bs, 3, none⟩ = false
  row : ∃ f, W.rowIs g 3 ts.length f ∧ ∀ j, j < p.length → f j = vI (at0 p j)
  vals : ∀ j, j < p.length → 0 ≤ at0 p j ∧ at0 p j ≤ 5
  len : p.length ≤ ts.length
  ne : g ≠ bs
  lt : bs < W.heap.size
theorem SchSt.ext {v : Value} {ts : List Tk} {c : Int} {g bs : Nat} {p : List Int} {o : Option (List Int)} {W W' : World} (h : SchSt v ts c g bs p o W) (hx : Ext W W') : SchSt v ts c g bs p o W' := by
  obtain ⟨out, h1, h2⟩ := h.c3
  obtain ⟨f, h3, h4⟩ := h.row
  exact ⟨(hx.cells _ _ h.lt).trans h.c0, (hx.cells _ _ h.lt).trans h.c1, (hx.cells _ _ h.lt).trans h.c2, ⟨out, (hx.cells _ _ h.lt).trans h1, h2.keep (hx.keep _)⟩, (hx.frz _ _ h.lt).trans h.z3, ⟨f, hx.row h3, h4⟩, h.vals, h.len, h.ne, Nat.lt_of_lt_of_le h.lt hx.size⟩
theorem SchSt.ints {v : Value} {ts : List Tk} {c : Int} {g bs : Nat} {p : List Int} {o : Option (List Int)} {W : World} (h : SchSt v ts c g bs p o W) (hp : p.length = ts.length) (h4 : ts.length ≤ 100) : SInts W (.slice (some ⟨g, 0, none⟩) ts.length ts.length) p := by
  obtain ⟨f, hr, hf⟩ := h.row
  exact ⟨_, _, by rw [hp], by omega, by omega, fun i hi => by have := h.vals i hi; unfold I64; omega, fun _ => ⟨g, 0, rfl, hr.lt, fun i hi => by rw [Nat.zero_add, hr.cell (by omega), hf i hi]; rfl⟩⟩
/-- A value more. -/
theorem SchSt.push {v : Value} {ts : List Tk} {c : Int} {g bs : Nat} {p : List Int} {o : Option (List Int)} {W : World} (h : SchSt v ts c g bs p o W) (x : Int) (h0 : 0 ≤ x) (h5 : x ≤ 5) (hlt : p.length < ts.length) : SchSt v ts c g bs (p ++ [x]) o (W.setCell ⟨g, p.length, none⟩ (.int .i64 x)) := by
  obtain ⟨out, h1, h2⟩ := h.c3
  obtain ⟨f, h3, h4⟩ := h.row
  have hn := h.ne
  have co : ∀ k, (W.setCell ⟨g, p.length, none⟩ (.int .i64 x)).cell? ⟨bs, k, none⟩ = W.cell? ⟨bs, k, none⟩ := fun k => cell_other _ (by simp; omega)
  refine ⟨(co 0).trans h.c0, (co 1).trans h.c1, (co 2).trans h.c2, ⟨out, (co 3).trans h1, h2.keep ((Keep.refl _ W).set (fun _ hh => hh.1 rfl) _)⟩, (frz_other _ (by simp; omega)).trans h.z3, ⟨_, h3.set p.length (.int .i64 x), fun i hi => ?_⟩, fun i hi => ?_, by simp; omega, hn, by simpa [World.setCell] using h.lt⟩
  · show (if i = p.length then _ else _) = _
    rw [List.length_append, List.length_singleton] at hi
    by_cases hip : i = p.length
    · subst hip; rw [if_pos rfl, at0_snoc]; rfl
    · rw [if_neg hip, at0_app _ _ (by omega)]; exact h4 i (by omega)
  · rw [List.length_append, List.length_singleton] at hi
    by_cases hip : i = p.length
    · subst hip; rw [at0_snoc]; exact ⟨h0, h5⟩
    · rw [at0_app _ _ (by omega)]; exact h.vals i (by omega)
theorem SchSt.pop {v : Value} {ts : List Tk} {c : Int} {g bs : Nat} {p : List Int} {x : Int} {o : Option (List Int)} {W : World} (h : SchSt v ts c g bs (p ++ [x]) o W) : SchSt v ts c g bs p o W := by
  obtain ⟨f, h3, h4⟩ := h.row
  have hl := h.len
  rw [List.length_append] at hl
  refine ⟨h.c0, h.c1, h.c2, h.c3, h.z3, ⟨f, h3, fun i hi => ?_⟩, fun i hi => ?_, by omega, h.ne, h.lt⟩
  · have := h4 i (by simp; omega); rwa [at0_app _ _ hi] at this
  · have := h.vals i (by simp; omega); rwa [at0_app _ _ hi] at this
/-- A new best. -/
theorem SchSt.best {v : Value} {ts : List Tk} {c : Int} {g bs : Nat} {p b : List Int} {o : Option (List Int)} {W : World} {bb off cc : Nat} (h : SchSt v ts c g bs p o W) (hS : SInts W (.slice (some ⟨bb, off, none⟩) b.length cc) b) (h1 : bb ≠ g) (h2 : bb ≠ bs) :
    SchSt v ts c g bs p (some b) (W.setCell ⟨bs, 3, none⟩ (.slice (some ⟨bb, off, none⟩) b.length cc)) := by
  obtain ⟨out, q1, q2⟩ := h.c3
  obtain ⟨f, h3, h4⟩ := h.row
  have hn := h.ne
  have co : ∀ k, k ≠ 3 → (W.setCell ⟨bs, 3, none⟩ (.slice (some ⟨bb, off, none⟩) b.length cc)).cell? ⟨bs, k, none⟩ = W.cell? ⟨bs, k, none⟩ := fun k hk => World.cell?_setCell_other _ _ _ _ (by intro e; injection e with _ e; omega)
  exact ⟨(co 0 (by omega)).trans h.c0, (co 1 (by omega)).trans h.c1, (co 2 (by omega)).trans h.c2, ⟨_, World.cell?_setCell_same' _ _ _ (by rw [q1]; rfl), bb, off, cc, rfl, hS.keep ((Keep.refl (fun k => k ≠ bs) W).set (fun _ hh => hh rfl) _) h2, h1, h2⟩,
    (World.frozen?_setCell ..).trans h.z3, ⟨f, h3.setOther (by simp; omega) _, h4⟩, h.vals, h.len, hn, by simpa [World.setCell] using h.lt⟩
theorem feas_iff {ts : List Tk} {c : Int} {x : List Int} : feas ts c x = true ↔ ∀ t, t < 11 → us ts x ts.length t ≤ c := by
  unfold feas mxL
  rw [decide_eq_true_iff, usL_len, mxK_le]
  exact ⟨fun h t ht => by have := h t (by omega); rwa [usL_at _ _ ht] at this, fun h i hi => by rw [usL_at _ _ (by omega)]; exact h i (by omega)⟩
end Go.Proofs.Yticallgbmmahjaa
