/- What is shrunk is least: plain Lean. -/
import Derived.Test.YtmfbdaocnijnpaaGenS
namespace Go.Proofs.Ytmfbdaocnijnpaa
open Go.RowKit

theorem erase_erase {α : Type} : ∀ (l : List α) (i j : Nat), j < i → (l.eraseIdx i).eraseIdx j = (l.eraseIdx j).eraseIdx (i - 1)
  | [], _, _, _ => by simp
  | a :: t, i + 1, 0, _ => by simp
  | a :: t, i + 1, j + 1, h => by
    obtain ⟨i, rfl⟩ : ∃ k, i = k + 1 := ⟨i - 1, by omega⟩
    have := erase_erase t (i + 1) j (by omega)
    simp only [List.eraseIdx_cons_succ, Nat.add_sub_cancel] at this ⊢
    rw [this]
/-- Where more is enough if less is, nothing of what is shrunk can be dropped. -/
theorem shr_min {α : Type} {p : List α → Bool} {G : List α → Prop} (hG : ∀ l i, G l → G (l.eraseIdx i)) (hp : ∀ l i, G l → p (l.eraseIdx i) = true → p l = true) :
    ∀ (n i : Nat) (l : List α), G l → p l = true → n + i = l.length → (∀ j, j < i → p (l.eraseIdx j) = false) → p (shr p n i l) = true ∧ (∀ j, j < (shr p n i l).length → p ((shr p n i l).eraseIdx j) = false) ∧ ∀ x, x ∈ shr p n i l → x ∈ l
  | 0, i, l, _, h1, h2, h3 => ⟨h1, fun j hj => h3 j (by rw [shr] at hj; omega), fun _ h => h⟩
  | n + 1, i, l, hg, h1, h2, h3 => by
    rw [shr]
    split
    · rename_i ht
      have hl : (l.eraseIdx i).length = l.length - 1 := by rw [List.length_eraseIdx, if_pos (by omega)]
      obtain ⟨q1, q2, q3⟩ := shr_min hG hp n i (l.eraseIdx i) (hG l i hg) ht (by omega) (fun j hj => by
        cases hf : p ((l.eraseIdx i).eraseIdx j) with
        | false => rfl
        | true =>
          rw [erase_erase l i j hj] at hf
          have := hp _ _ (hG l j hg) hf
          rw [h3 j hj] at this; cases this)
      exact ⟨q1, q2, fun x hx => List.mem_of_mem_eraseIdx (q3 x hx)⟩
    · rename_i ht
      exact shr_min hG hp n (i + 1) l hg h1 (by omega) (fun j hj => by
        by_cases hji : j = i
        · subst hji; simpa using ht
        · exact h3 j (by omega))
end Go.Proofs.Ytmfbdaocnijnpaa
