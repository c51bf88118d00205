/- Draws of the generator: rows of numbers of which only a range is known. -/
import Derived.Test.YtofnihagfjdocaaRd
import Derived.Test.YtofnihagfjdocaaApp
import Derived.Test.YtofnihagfjdocaaLawsT
import Derived.Test.YtofnihagfjdocaaDom
import Derived.Test.YtofnihagfjdocaaAppO
namespace Go.Proofs.Ytofnihagfjdocaa
open Go.RowKit

/-- v is a slice at the head of a block from base on, of n elements of size cells, each a number in a range. -/
def LR (base : Nat) (e : TypeId) (size : Nat) (w : World) (v : Value) (n : Nat) (lo hi : Int) : Prop :=
  ∃ g cap f, v = .slice (some ⟨g, 0, none⟩) n cap ∧ base ≤ g ∧ n ≤ cap ∧ cap ≤ maxLen ∧ w.rowIs g e (cap * size) f ∧ ∀ i, i < n * size → ∃ x : Int, f i = vI x ∧ lo ≤ x ∧ x ≤ hi
theorem LR.form {base : Nat} {e : TypeId} {size : Nat} {w : World} {v : Value} {n : Nat} {lo hi : Int} (h : LR base e size w v n lo hi) : ∃ g cap, v = .slice (some ⟨g, 0, none⟩) n cap ∧ base ≤ g ∧ g < w.heap.size ∧ n ≤ cap := by
  obtain ⟨g, cap, f, h1, h2, h3, -, h4, -⟩ := h
  exact ⟨g, cap, h1, h2, h4.lt, h3⟩
theorem LR.keep {base : Nat} {e : TypeId} {size : Nat} {w w' : World} {v : Value} {n : Nat} {lo hi : Int} {S : Nat → Prop} (h : LR base e size w v n lo hi) (hk : Keep S w w') (hS : ∀ k, base ≤ k → S k) : LR base e size w' v n lo hi := by
  obtain ⟨g, cap, f, h1, h2, h3, h3', h4, h5⟩ := h
  exact ⟨g, cap, f, h1, h2, h3, h3', hk.row (hS g h2) h4, h5⟩
theorem LR.ext {base : Nat} {e : TypeId} {size : Nat} {w w' : World} {v : Value} {n : Nat} {lo hi : Int} (h : LR base e size w v n lo hi) (hx : Ext w w') : LR base e size w' v n lo hi := h.keep (hx.keep (fun _ => True)) (fun _ _ => trivial)
theorem LR.mono {base b0 : Nat} {e : TypeId} {size : Nat} {w : World} {v : Value} {n : Nat} {lo hi l2 h2 : Int} (h : LR base e size w v n lo hi) (hb : b0 ≤ base) (hl : l2 ≤ lo) (hh : hi ≤ h2) : LR b0 e size w v n l2 h2 := by
  obtain ⟨g, cap, f, q1, q2, q3, q3', q4, q5⟩ := h
  exact ⟨g, cap, f, q1, by omega, q3, q3', q4, fun i hi => by obtain ⟨x, a, b, c⟩ := q5 i hi; exact ⟨x, a, by omega, by omega⟩⟩
theorem LR.empty (e : TypeId) (size : Nat) (w : World) (lo hi : Int) : LR w.heap.size e size (w.alloc (.cells #[] e)) (.slice (some ⟨w.heap.size, 0, none⟩) 0 0) 0 lo hi :=
  ⟨w.heap.size, 0, fun _ => .bool false, rfl, Nat.le_refl _, Nat.le_refl _, by unfold maxLen; omega, ⟨#[], World.alloc_heap_new w _, by simp, fun i hi => absurd hi (by omega)⟩, fun i hi => absurd hi (by omega)⟩
theorem LR.owns {base : Nat} {e : TypeId} {size : Nat} {w : World} {v : Value} {n : Nat} {lo hi : Int} (h : LR base e size w v n lo hi) :
    ∃ xs, w.ownsRow base e size v n xs ∧ (∀ u ∈ xs, ∃ x : Int, u = vI x ∧ lo ≤ x ∧ x ≤ hi) := by
  obtain ⟨g, cap, f, h1, h2, h3, h3', ⟨cur, k1, k2, k3⟩, h5⟩ := h
  have hle : n * size ≤ cap * size := Nat.mul_le_mul_right _ h3
  refine ⟨cur.toList.take (n * size), ⟨by simp; omega, .inr ⟨g, cap, cur, h1, h2, k1, h3, h3', k2, rfl⟩⟩, fun u hu => ?_⟩
  obtain ⟨i, hi, rfl⟩ := List.mem_iff_getElem.1 hu
  have hi' : i < n * size := by simp at hi; omega
  obtain ⟨x, e1, e2, e3⟩ := h5 i hi'
  refine ⟨x, ?_, e2, e3⟩
  have := k3 i (by omega)
  rw [List.getElem_take, Array.getElem_toList]
  rw [Array.getElem?_eq_some_iff] at this
  obtain ⟨_, this⟩ := this
  rw [this, e1]
theorem LR.of_owns {base : Nat} {e : TypeId} {size : Nat} {w : World} {v : Value} {n : Nat} {xs : List Value} {lo hi : Int} (h : w.ownsRow base e size v n xs) (hn : 0 < n) (hx : ∀ u ∈ xs, ∃ x : Int, u = vI x ∧ lo ≤ x ∧ x ≤ hi) : LR base e size w v n lo hi := by
  rcases h.2 with ⟨-, h0⟩ | ⟨g, cap, cur, h1, h2, k1, h3, h3', k2, k3⟩
  · omega
  · refine ⟨g, cap, fun i => cur.getD i (.bool false), h1, h2, h3, h3', ⟨cur, k1, k2, fun i hi => by show _ = some (cur.getD i _); rw [Array.getD_eq_getD_getElem?, Array.getElem?_eq_getElem (by omega)]; rfl⟩, fun i hi => ?_⟩
    have hle : n * size ≤ cap * size := Nat.mul_le_mul_right _ h3
    have hi2 : i < cur.size := by omega
    have hmem : cur[i] ∈ xs := by
      rw [← k3]
      refine List.mem_iff_getElem.2 ⟨i, by simp; omega, ?_⟩
      rw [List.getElem_take, Array.getElem_toList]
    obtain ⟨x, e1, e2, e3⟩ := hx _ hmem
    exact ⟨x, by show cur.getD i _ = _; rw [Array.getD_eq_getD_getElem?, Array.getElem?_eq_getElem hi2]; exact e1, e2, e3⟩
theorem LR.set {base : Nat} {e : TypeId} {size : Nat} {w : World} {g cap n : Nat} {lo hi : Int} (h : LR base e size w (.slice (some ⟨g, 0, none⟩) n cap) n lo hi) (i : Nat) (x : Int) (hx : lo ≤ x ∧ x ≤ hi) : LR base e size (w.setCell ⟨g, i, none⟩ (.int .i64 x)) (.slice (some ⟨g, 0, none⟩) n cap) n lo hi := by
  obtain ⟨g', cap', f, h1, h2, h3, h3', h4, h5⟩ := h
  injection h1 with e1 e2 e3
  injection e1 with e1
  injection e1 with e1 e4
  subst e1; subst e3
  refine ⟨g, cap, _, rfl, h2, h3, h3', h4.set i (.int .i64 x), fun j hj => ?_⟩
  show ∃ y : Int, (if j = i then _ else f j) = _ ∧ _
  by_cases hji : j = i
  · rw [if_pos hji]; exact ⟨x, rfl, hx.1, hx.2⟩
  · rw [if_neg hji]; exact h5 j hj
theorem LR.cell {base : Nat} {e : TypeId} {size : Nat} {w : World} {g cap n : Nat} {lo hi : Int} (h : LR base e size w (.slice (some ⟨g, 0, none⟩) n cap) n lo hi) {i : Nat} (hi' : i < n * size) : (∃ x : Int, w.cell? ⟨g, i, none⟩ = some (.int .i64 x) ∧ lo ≤ x ∧ x ≤ hi) ∧ w.frozen? ⟨g, i, none⟩ = false := by
  obtain ⟨g', cap', f, h1, h2, h3, h3', h4, h5⟩ := h
  injection h1 with e1 e2 e3
  injection e1 with e1
  injection e1 with e1 e4
  subst e1; subst e3
  have hle : n * size ≤ cap * size := Nat.mul_le_mul_right _ h3
  obtain ⟨x, q1, q2, q3⟩ := h5 i hi'
  exact ⟨⟨x, by rw [h4.cell (by omega), q1]; rfl, q2, q3⟩, h4.frozen i⟩
theorem LR.ints {base : Nat} {w : World} {v : Value} {n : Nat} {lo hi : Int} (h : LR base 3 1 w v n lo hi) (hn : n ≤ 1000000) (h1 : -9223372036854775808 ≤ lo) (h2 : hi ≤ 9223372036854775807) : ∃ xs : List Int, xs.length = n ∧ SInts w v xs ∧ ∀ i, i < n → lo ≤ at0 xs i ∧ at0 xs i ≤ hi := by
  obtain ⟨g, cap, f, rfl, k2, k3, k3', k4, k5⟩ := h
  refine ⟨(List.range n).map fun i => match f i with | .int _ x => x | _ => 0, by simp, ?_, fun i hi => ?_⟩
  · refine ⟨_, cap, by simp, by simpa using k3, by simp; omega, fun i hi => ?_, fun _ => ⟨g, 0, rfl, k4.lt, fun i hi => ?_⟩⟩
    · have hi' : i < n := by simpa using hi
      obtain ⟨x, q1, q2, q3⟩ := k5 i (by omega)
      have : at0 ((List.range n).map fun i => match f i with | .int _ x => x | _ => 0) i = x := by simp [at0, List.getD_eq_getElem?_getD, hi', q1, vI]
      rw [this]; unfold I64; omega
    · have hi' : i < n := by simpa using hi
      obtain ⟨x, q1, q2, q3⟩ := k5 i (by omega)
      have : at0 ((List.range n).map fun i => match f i with | .int _ x => x | _ => 0) i = x := by simp [at0, List.getD_eq_getElem?_getD, hi', q1, vI]
      rw [this, Nat.zero_add, k4.cell (by omega), q1]; rfl
  · obtain ⟨x, q1, q2, q3⟩ := k5 i (by omega)
    have : at0 ((List.range n).map fun i => match f i with | .int _ x => x | _ => 0) i = x := by simp [at0, List.getD_eq_getElem?_getD, hi, q1, vI]
    rw [this]; exact ⟨q2, q3⟩
def nmb : Value → Int
  | .int _ x => x
  | _ => 0
theorem LR.tasks {base : Nat} {w : World} {v : Value} {n : Nat} {lo hi : Int} (h : LR base 48 3 w v n lo hi) (hn : n ≤ 1000000) (h1 : -9223372036854775808 ≤ lo) (h2 : hi ≤ 9223372036854775807) : ∃ ts : List Tk, ts.length = n ∧ STasks w v ts := by
  obtain ⟨g, cap, f, rfl, k2, k3, k3', k4, k5⟩ := h
  have ht : ∀ i, i < n → tk0 ((List.range n).map fun i => Tk.mk (nmb (f (i * 3))) (nmb (f (i * 3 + 1))) (nmb (f (i * 3 + 2)))) i = Tk.mk (nmb (f (i * 3))) (nmb (f (i * 3 + 1))) (nmb (f (i * 3 + 2))) := fun i hi => by simp [tk0, List.getD_eq_getElem?_getD, hi]
  refine ⟨(List.range n).map fun i => Tk.mk (nmb (f (i * 3))) (nmb (f (i * 3 + 1))) (nmb (f (i * 3 + 2))), by simp, _, cap, by simp, by simpa using k3, by simp; omega, fun i hi => ?_, fun _ => ⟨g, 0, rfl, k4.lt, fun i hi => ?_⟩⟩
  · have hi' : i < n := by simpa using hi
    obtain ⟨x, q1, q2, q3⟩ := k5 (i * 3) (by omega)
    obtain ⟨y, r1, r2, r3⟩ := k5 (i * 3 + 1) (by omega)
    obtain ⟨z, s1, s2, s3⟩ := k5 (i * 3 + 2) (by omega)
    unfold tkS tkD tkM
    rw [ht i hi', q1, r1, s1]
    refine ⟨?_, ?_, ?_⟩ <;> (show I64 _; simp only [nmb, vI, I64]; omega)
  · have hi' : i < n := by simpa using hi
    obtain ⟨x, q1, q2, q3⟩ := k5 (i * 3) (by omega)
    obtain ⟨y, r1, r2, r3⟩ := k5 (i * 3 + 1) (by omega)
    obtain ⟨z, s1, s2, s3⟩ := k5 (i * 3 + 2) (by omega)
    unfold tkS tkD tkM
    rw [ht i hi', q1, r1, s1]
    refine ⟨?_, ?_, ?_⟩
    · rw [Nat.zero_add, k4.cell (by omega), q1]; rfl
    · rw [Nat.zero_add, k4.cell (by omega), r1]; rfl
    · rw [Nat.zero_add, k4.cell (by omega), s1]; rfl
end Go.Proofs.Ytofnihagfjdocaa
