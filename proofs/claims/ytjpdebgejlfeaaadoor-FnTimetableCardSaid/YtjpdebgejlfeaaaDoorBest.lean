/- best of the program: the first row of the least cost. -/
import Derived.Test.YtjpdebgejlfeaaaDoorAutB
import Derived.Test.YtjpdebgejlfeaaaDoorCpy
import Derived.WalkSpells
namespace Go.Proofs.YtjpdebgejlfeaaaDoor
open Go.RowKit

def bstep (f : List Int → Int) (o : Option (List Int)) (x : List Int) : Option (List Int) :=
  match o with
  | none => some x
  | some b => if f x < f b then some x else some b
def bestF (f : List Int → Int) (rows : List (List Int)) : Option (List Int) := rows.foldl (bstep f) none
theorem bestF_succ (f : List Int → Int) {rows : List (List Int)} {k : Nat} (hk : k < rows.length) : bestF f (rows.take (k + 1)) = bstep f (bestF f (rows.take k)) (rw0 rows k) := by
  unfold bestF
  rw [List.take_add_one, List.getElem?_eq_getElem hk, List.foldl_append, rw0, getD_lt _ _ hk]
  rfl
theorem bestF_mem (f : List Int → Int) : ∀ (rows : List (List Int)) (o : Option (List Int)) (b : List Int), rows.foldl (bstep f) o = some b → o = some b ∨ b ∈ rows
  | [], o, b, h => .inl h
  | x :: rows, o, b, h => by
    have := bestF_mem f rows (bstep f o x) b h
    rcases this with h | h
    · cases o with
      | none => right; simp [bstep] at h; simp [h]
      | some c =>
        simp only [bstep] at h
        split at h
        · right; simp at h; simp [h]
        · left; exact h
    · right; exact List.mem_cons_of_mem _ h
/-- The result is a list that reads as xs, in new memory, and a word. -/
def TwoRes (xs : List Int) (ok : Bool) (w : World) (e : Ending) (w' : World) : Prop := ∃ v, e = .returned (.tuple #[v, .bool ok]) ∧ OwnRes xs w (.returned v) w'
/-- What best keeps between two rounds. -/
def BestAt (f : List Int → Int) (o : Option (List Int)) (w : World) (out low : Value) : Prop :=
  match o with
  | none => out = .slice none 0 0
  | some b => ∃ ad c, out = .slice (some ad) b.length c ∧ SInts w out b ∧ low = .int .i64 (f b)
theorem BestAt.ext {f : List Int → Int} {o : Option (List Int)} {w w' : World} {out low : Value} (h : BestAt f o w out low) (hx : Ext w w') : BestAt f o w' out low := by
  cases o with
  | none => exact h
  | some b =>
    obtain ⟨ad, c, h1, h2, h3⟩ := h
    exact ⟨ad, c, h1, h2.ext hx, h3⟩
end Go.Proofs.YtjpdebgejlfeaaaDoor
