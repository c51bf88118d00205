/- What is shrunk is least: plain Lean; refutation by more literals. -/
import Derived.Test.YtfejhenbpnijhaaGreatGenS
import Derived.Test.YtfejhenbpnijhaaGreatRfP
import Derived.Test.YtfejhenbpnijhaaGreatPrbP
namespace Go.Proofs.YtfejhenbpnijhaaGreat
open Go.RowKit

theorem erase_erase {α : Type} : ∀ (l : List α) (i j : Nat), j < i → (l.eraseIdx i).eraseIdx j = (l.eraseIdx j).eraseIdx (i - 1)
  | [], _, _, _ => by simp
  | a :: t, i + 1, 0, _ => by simp
  | a :: t, i + 1, j + 1, h => by
    obtain ⟨i, rfl⟩ : ∃ k, i = k + 1 := ⟨i - 1, by omega⟩
    have := erase_erase t (i + 1) j (by omega)
    simp only [List.eraseIdx_cons_succ, Nat.add_sub_cancel] at this ⊢
    rw [this]
/-- Where more is enough if less is, nothing of what is shrunk can be dropped. -/
theorem shr_min {α : Type} {p : List α → Bool} {G : List α → Prop} (hG : ∀ l i, G l → G (l.eraseIdx i)) (hp : ∀ l i, G l → p (l.eraseIdx i) = true → p l = true) :
    ∀ (n i : Nat) (l : List α), G l → p l = true → n + i = l.length → (∀ j, j < i → p (l.eraseIdx j) = false) → p (shr p n i l) = true ∧ (∀ j, j < (shr p n i l).length → p ((shr p n i l).eraseIdx j) = false) ∧ ∀ x, x ∈ shr p n i l → x ∈ l
  | 0, i, l, _, h1, h2, h3 => ⟨h1, fun j hj => h3 j (by rw [shr] at hj; omega), fun _ h => h⟩
  | n + 1, i, l, hg, h1, h2, h3 => by
    rw [shr]
    split
    · rename_i ht
      have hl : (l.eraseIdx i).length = l.length - 1 := by rw [List.length_eraseIdx, if_pos (by omega)]
      obtain ⟨q1, q2, q3⟩ := shr_min hG hp n i (l.eraseIdx i) (hG l i hg) ht (by omega) (fun j hj => by
        cases hf : p ((l.eraseIdx i).eraseIdx j) with
        | false => rfl
        | true =>
          rw [erase_erase l i j hj] at hf
          have := hp _ _ (hG l j hg) hf
          rw [h3 j hj] at this; cases this)
      exact ⟨q1, q2, fun x hx => List.mem_of_mem_eraseIdx (q3 x hx)⟩
    · rename_i ht
      exact shr_min hG hp n (i + 1) l hg h1 (by omega) (fun j hj => by
        by_cases hji : j = i
        · subst hji; simpa using ht
        · exact h3 j (by omega))
section
variable {cs : List Con} {n : Nat}
/-- What the literals leave. -/
theorem resC_has {ds : List Int} (h : GoodD cs n ds) {ls : List Lt} (hc : okCl ls n = true) {u v : Nat} (hu : u < n) (hv : v < 6) : ∀ k, k ≤ ls.length →
    (hasB (at0 (resC ds ls k) u) v = true ↔ hasB (at0 ds u) v = true ∧ ∀ j, j < k → ltX ls j = u → (ltN ls j = false → ltV ls j = v) ∧ (ltN ls j = true → ltV ls j ≠ v))
  | 0, _ => ⟨fun h => ⟨h, fun j hj => absurd hj (by omega)⟩, fun h => h.1⟩
  | k + 1, hk => by
    have ih := resC_has h hc hu hv k (by omega)
    obtain ⟨hg, -⟩ := resC_good h hc k (by omega)
    obtain ⟨X, V, hX, hV, hXn, hV6⟩ := okCl_lt hc (i := k) (by omega)
    have hlv : (lt0 ls k).v.toNat = V := by show (ltV ls k).toNat = V; omega
    rw [resC, hX, Int.toNat_natCast]
    by_cases huX : u = X
    · subst huX
      have hul : u < (resC ds ls k).length := by rw [hg.1]; exact hu
      obtain ⟨d0, d1⟩ := hg.2.1 u hul
      rw [show at0 ((resC ds ls k).set u (andL (at0 (resC ds ls k) u) (lt0 ls k))) u = andL (at0 (resC ds ls k) u) (lt0 ls k) by simp [at0, hul]]
      have hlit : hasB (andL (at0 (resC ds ls k) u) (lt0 ls k)) v = true ↔ hasB (at0 (resC ds ls k) u) v = true ∧ ((ltN ls k = false → ltV ls k = v) ∧ (ltN ls k = true → ltV ls k ≠ v)) := by
        unfold andL
        cases hn : ltN ls k with
        | true =>
          rw [if_pos (show (lt0 ls k).n = true from hn), hlv, delV_has d0 d1 hV6 hv, Bool.and_eq_true, hV]
          simp
          intro _
          omega
        | false =>
          rw [if_neg (by rw [show (lt0 ls k).n = false from hn]; simp), hlv, andV_has d0 d1 hV6 hv, Bool.and_eq_true, hV]
          simp
          intro _
          omega
      rw [hlit, ih]
      constructor
      · rintro ⟨⟨a, b⟩, c⟩
        refine ⟨a, fun j hj hjx => ?_⟩
        by_cases hjk : j = k
        · subst hjk; exact c
        · exact b j (by omega) hjx
      · rintro ⟨a, b⟩
        exact ⟨⟨a, fun j hj => b j (by omega)⟩, b k (by omega) hX⟩
    · rw [show at0 ((resC ds ls k).set X (andL (at0 (resC ds ls k) X) (lt0 ls k))) u = at0 (resC ds ls k) u by simp [at0, List.getD_eq_getElem?_getD, List.getElem?_set_ne (Ne.symm huX)], ih]
      constructor
      · rintro ⟨a, b⟩
        refine ⟨a, fun j hj hjx => ?_⟩
        by_cases hjk : j = k
        · subst hjk; exact absurd (by rw [hX] at hjx; omega) huX
        · exact b j (by omega) hjx
      · rintro ⟨a, b⟩
        exact ⟨a, fun j hj => b j (by omega)⟩
/-- Refuted with fewer literals, refuted with more. -/
theorem rft_more {ds : List Int} (h : GoodD cs n ds) (h4 : n ≤ 4) (h0 : 0 < n) {ls ks : List Lt} (hc : okCl ls n = true) (hk : okCl ks n = true) (hsub : ∀ l ∈ ks, l ∈ ls) (hr : rftB cs ds ks = true) : rftB cs ds ls = true := by
  have hgl := rft_good h hc
  have hgk := rft_good h hk
  have hs : SubD (resCL ds ls) (resCL ds ks) := by
    refine ⟨by rw [hgl.1, hgk.1], fun u hu v hv hh => ?_⟩
    rw [hgl.1] at hu
    obtain ⟨a, b⟩ := (resC_has h hc hu hv ls.length (Nat.le_refl _)).1 hh
    refine (resC_has h hk hu hv ks.length (Nat.le_refl _)).2 ⟨a, fun j hj hjx => ?_⟩
    have hm : lt0 ks j ∈ ls := hsub _ (by rw [show lt0 ks j = ks[j] by simp [lt0, hj]]; exact List.getElem_mem hj)
    obtain ⟨i, hi, hie⟩ := List.mem_iff_getElem.1 hm
    have he : lt0 ls i = lt0 ks j := by rw [show lt0 ls i = ls[i] by simp [lt0, hi]]; exact hie
    have e1 : ltX ls i = ltX ks j := congrArg Lt.x he
    have e2 : ltV ls i = ltV ks j := congrArg Lt.v he
    have e3 : ltN ls i = ltN ks j := congrArg Lt.n he
    have := b i hi (e1.trans hjx)
    rw [e2, e3] at this
    exact this
  have hm := propL_mono hgl hgk h4 hs
  unfold rftB at hr ⊢
  rcases (propL_R hgk h4).cas with hz | ⟨hf, -⟩
  · rw [hz] at hm
    refine hasI_iff.2 ⟨0, by rw [(propL_R hgl h4).good.1]; exact h0, ?_⟩
    obtain ⟨b0, b1⟩ := (propL_R hgl h4).good.2.1 0 (by rw [(propL_R hgl h4).good.1]; exact h0)
    by_cases he : at0 (propL cs (resCL ds ls)) 0 = 0
    · exact he
    · obtain ⟨v, v6, hv⟩ := has_one9 b0 b1 he
      have := hm.sub 0 (by rw [(propL_R hgl h4).good.1]; exact h0) v v6 hv
      rw [zer_at, hasB_zero] at this; cases this
  · rw [hf] at hr; cases hr
end
end Go.Proofs.YtfejhenbpnijhaaGreat
