/- The reference's refutation by propagation, no clauses learnt. Printed by genref.py. -/
import Derived.Test.YtgpbmggfpbebmaaGreatRfI
import Derived.Test.YtgpbmggfpbebmaaGreatShrL
import Derived.Test.YtgpbmggfpbebmaaGreatRfS
import Derived.Test.YtgpbmggfpbebmaaGreatLawM
namespace Go.Proofs.YtgpbmggfpbebmaaGreat
open Go.RowKit
attribute [local go_sem] evalOf
end Go.Proofs.YtgpbmggfpbebmaaGreat
/- A clause without one of its literals; the reference's walk of it. -/
namespace Go.Proofs.YtgpbmggfpbebmaaGreat
open Go.RowKit
attribute [local go_sem] evalOf

theorem layLt_S {w : World} {v : Value} {rs : List Lt} (h : layLt.S w v rs) : SLt w v rs := by
  obtain ⟨A, c, h1, h2, h3, h5⟩ := h
  refine ⟨A, c, h1, h2, h3, fun hp => ?_⟩
  obtain ⟨b, off, e, hb, hc⟩ := h5 hp
  refine ⟨b, off, e, hb, fun i hi => ?_⟩
  have e0 := layLtOk.flat_at rs i 0 hi (by show 0 < 3; omega)
  have e1 := layLtOk.flat_at rs i 1 hi (by show 1 < 3; omega)
  have e2 := layLtOk.flat_at rs i 2 hi (by show 2 < 3; omega)
  have g0 := hc _ _ (e0.trans rfl)
  have g1 := hc _ _ (e1.trans rfl)
  have g2 := hc _ _ (e2.trans rfl)
  unfold ltX ltV ltN lt0
  rw [getD_lt _ _ hi]
  exact ⟨g0, g1, g2⟩
theorem layLt_of {w : World} {v : Value} {rs : List Lt} (h : SLt w v rs) : layLt.S w v rs := by
  obtain ⟨A, c, h1, h2, h3, h5⟩ := h
  refine ⟨A, c, h1, h2, h3, fun hp => ?_⟩
  obtain ⟨b, off, e, hb, hc⟩ := h5 hp
  refine ⟨b, off, e, hb, fun j u hj => ?_⟩
  have hjl : j < rs.length * 3 := by
    have := (List.getElem?_eq_some_iff.1 hj).1
    rwa [layLtOk.flen] at this
  have hi : j / 3 < rs.length := by omega
  obtain ⟨g0, g1, g2⟩ := hc (j / 3) hi
  unfold ltX lt0 at g0
  unfold ltV lt0 at g1
  unfold ltN lt0 at g2
  rw [getD_lt _ _ hi] at g0 g1 g2
  have e2 : j = j / 3 * 3 + j % 3 := by omega
  have := layLtOk.flat_at rs (j / 3) (j % 3) hi (by show j % 3 < 3; omega)
  rw [show j / 3 * layLt.size + j % 3 = j from e2.symm, hj] at this
  rcases (show j % 3 = 0 ∨ j % 3 = 1 ∨ j % 3 = 2 by omega) with h | h | h
  · rw [h] at this
    have hu : u = .int .i64 (rs[j / 3]).x := by injection this
    rw [hu, show off + j = off + j / 3 * 3 by omega]; exact g0
  · rw [h] at this
    have hu : u = .int .i64 (rs[j / 3]).v := by injection this
    rw [hu, show off + j = off + j / 3 * 3 + 1 by omega]; exact g1
  · rw [h] at this
    have hu : u = .bool (rs[j / 3]).n := by injection this
    rw [hu, show off + j = off + j / 3 * 3 + 2 by omega]; exact g2
/-- Another literal. -/
def neL (a x : Lt) : Bool := !(x.x == a.x && (x.v == a.v && x.n == a.n))
theorem lsB_trans {a b c : Lt} (h1 : lsB a b = true) (h2 : lsB b c = true) : lsB a c = true := by
  obtain ⟨ax, av, an⟩ := a; obtain ⟨bx, bv, bn⟩ := b; obtain ⟨cx, cv, cn⟩ := c
  simp only [lsB, Bool.or_eq_true, Bool.and_eq_true, decide_eq_true_eq, Bool.not_eq_true'] at h1 h2 ⊢
  rcases h1 with h1 | ⟨h1, h1 | ⟨h1, h1', h1''⟩⟩ <;> rcases h2 with h2 | ⟨h2, h2 | ⟨h2, h2', h2''⟩⟩
  · left; omega
  · left; omega
  · left; omega
  · left; omega
  · right; exact ⟨by omega, .inl (by omega)⟩
  · right; exact ⟨by omega, .inl (by omega)⟩
  · left; omega
  · right; exact ⟨by omega, .inl (by omega)⟩
  · right; exact ⟨by omega, .inr ⟨by omega, h1', h2''⟩⟩
theorem lsB_ne {a b : Lt} (h : lsB a b = true) : neL a b = true ∧ neL b a = true := by
  obtain ⟨ax, av, an⟩ := a; obtain ⟨bx, bv, bn⟩ := b
  simp only [lsB, Bool.or_eq_true, Bool.and_eq_true, decide_eq_true_eq, Bool.not_eq_true'] at h
  simp only [neL, Bool.not_eq_true', Bool.and_eq_false_iff, beq_eq_false_iff_ne]
  rcases h with h | ⟨h, h | ⟨h, h', h''⟩⟩
  · exact ⟨.inl (by omega), .inl (by omega)⟩
  · exact ⟨.inr (.inl (by omega)), .inr (.inl (by omega))⟩
  · exact ⟨.inr (.inr (by rw [h', h'']; simp)), .inr (.inr (by rw [h', h'']; simp))⟩
theorem neL_self (a : Lt) : neL a a = false := by simp [neL]
theorem okCl_iff {ls : List Lt} {n : Int} : okCl ls n = true ↔ (∀ x ∈ ls, okLt x n = true) ∧ ls.Pairwise (fun a b => lsB a b = true) ∧ ls.length ≤ 12 := by
  constructor
  · intro h
    have h12 := okCl_len h
    have hadj : ∀ i, i + 1 < ls.length → lsB (lt0 ls i) (lt0 ls (i + 1)) = true := fun i hi => okCl_ls h hi
    have hlong : ∀ d i, i + d + 1 < ls.length → lsB (lt0 ls i) (lt0 ls (i + d + 1)) = true := by
      intro d
      induction d with
      | zero => exact fun i hi => hadj i hi
      | succ d ih => exact fun i hi => lsB_trans (ih i (by omega)) (hadj (i + d + 1) (by omega))
    refine ⟨fun x hx => ?_, ?_, h12⟩
    · obtain ⟨i, hi, e⟩ := List.getElem_of_mem hx
      simp only [okCl, Bool.and_eq_true, Bool.not_eq_true'] at h
      have := anyB_false.1 h.1 i hi
      simp only [badAt, Bool.or_eq_false_iff, Bool.not_eq_false'] at this
      have h2 := this.1
      rwa [lt0, getD_lt _ _ hi, e] at h2
    · rw [List.pairwise_iff_getElem]
      intro i j hi hj hij
      have := hlong (j - i - 1) i (by omega)
      rw [show i + (j - i - 1) + 1 = j by omega] at this
      rwa [lt0, lt0, getD_lt _ _ hi, getD_lt _ _ hj] at this
  · rintro ⟨h1, h2, h3⟩
    rw [okCl_all fun i hi => ?_, decide_eq_true h3]
    rw [badAt, show okLt (lt0 ls i) n = true by rw [lt0, getD_lt _ _ hi]; exact h1 _ (List.getElem_mem hi)]
    by_cases h0 : 0 < i
    · rw [List.pairwise_iff_getElem] at h2
      have := h2 (i - 1) i (by omega) hi (by omega)
      rw [lt0, lt0, getD_lt _ _ hi, getD_lt _ _ (by omega), this]; simp
    · rw [decide_eq_false h0]; rfl
theorem okCl_erase {ls : List Lt} {n : Int} (i : Nat) (h : okCl ls n = true) : okCl (ls.eraseIdx i) n = true := by
  rw [okCl_iff] at h ⊢
  have hs := List.eraseIdx_sublist ls i
  exact ⟨fun x hx => h.1 x (hs.subset hx), h.2.1.sublist hs, Nat.le_trans hs.length_le h.2.2⟩
theorem filt_erase : ∀ {ls : List Lt}, ls.Pairwise (fun a b => lsB a b = true) → ∀ i (hi : i < ls.length), ls.filter (neL ls[i]) = ls.eraseIdx i
  | [], _, i, hi => by simp at hi
  | a :: l, hp, 0, _ => by
    rw [List.pairwise_cons] at hp
    show List.filter (neL a) (a :: l) = l
    rw [List.filter_cons, neL_self, if_neg (by simp), List.filter_eq_self]
    exact fun x hx => (lsB_ne (hp.1 x hx)).1
  | a :: l, hp, i + 1, hi => by
    rw [List.pairwise_cons] at hp
    have hi' : i < l.length := by simpa using hi
    show List.filter (neL l[i]) (a :: l) = a :: l.eraseIdx i
    rw [List.filter_cons, if_pos (lsB_ne (hp.1 _ (List.getElem_mem hi'))).2, filt_erase hp.2 i hi']
theorem wo_erase {ls : List Lt} {n : Int} (h : okCl ls n = true) {i : Nat} (hi : i < ls.length) : ls.filter (neL (lt0 ls i)) = ls.eraseIdx i := by
  rw [lt0, getD_lt _ _ hi]
  exact filt_erase (okCl_iff.1 h).2.1 i hi
theorem filter_takeL (p : Lt → Bool) (l : List Lt) {k : Nat} (hk : k < l.length) : (l.take (k + 1)).filter p = (l.take k).filter p ++ (if p l[k] = true then [l[k]] else []) := by
  rw [List.take_succ_eq_append_getElem hk, List.filter_append]
  cases h : p l[k] <;> simp [h]
end Go.Proofs.YtgpbmggfpbebmaaGreat
/- MinimalNogood: the value, and the reference's walk. -/
namespace Go.Proofs.YtgpbmggfpbebmaaGreat
open Go.RowKit
attribute [local go_sem] evalOf

def mngB (ds : List Int) (cs : List Con) (ls : List Lt) : Bool := vMod ds cs && (okCl ls ds.length && rftB cs ds ls)
def mngL (ds : List Int) (cs : List Con) (ls : List Lt) : List Lt := if mngB ds cs ls = true then shr (rftB cs ds) ls.length 0 ls else []
theorem mngL_len (ds : List Int) (cs : List Con) (ls : List Lt) : (mngL ds cs ls).length ≤ 24 := by
  unfold mngL
  split
  · rename_i h
    simp only [mngB, Bool.and_eq_true] at h
    exact Nat.le_trans (okCl_len (shr_G (G := fun l => okCl l ds.length = true) (fun l i h => okCl_erase i h) _ _ _ h.2.1)) (by omega)
  · simp
theorem mngL_yes {ds : List Int} {cs : List Con} {ls : List Lt} (h : mngB ds cs ls = true) : mngL ds cs ls = shr (rftB cs ds) ls.length 0 ls := by rw [mngL, if_pos h]
theorem mngL_no {ds : List Int} {cs : List Con} {ls : List Lt} (h : mngB ds cs ls = false) : mngL ds cs ls = [] := by rw [mngL, h, if_neg (by simp)]
def LtRes (xs : List Lt) (ok : Bool) (w : World) (e : Ending) (w' : World) : Prop :=
  ∃ A b m f, e = .returned (.tuple #[.slice A xs.length xs.length, .bool ok]) ∧ w.heap.size ≤ b ∧ layLt.Own w' A b m f xs ∧ Ext w w'
def LtOut (xs : List Lt) (ok : Bool) (w : World) (e : Ending) (w' : World) : Prop :=
  ∃ A c, e = .returned (.tuple #[.slice A xs.length c, .bool ok]) ∧ SLt w' (.slice A xs.length c) xs ∧ Ext w w'
theorem LtOut.nil_ {w w' : World} {ok : Bool} {e : Ending} (he : e = .returned (.tuple #[.slice none 0 0, .bool ok])) (hx : Ext w w') : LtOut [] ok w e w' :=
  ⟨none, 0, he, ⟨none, 0, rfl, Nat.le_refl _, by simp, fun hp => absurd hp (by simp)⟩, hx⟩
theorem LtRes.nil_ {w w' : World} {ok : Bool} {e : Ending} (he : e = .returned (.tuple #[.slice none 0 0, .bool ok])) (hx : Ext w w') : LtRes [] ok w e w' :=
  ⟨none, w.heap.size, 0, fun _ => undef, he, Nat.le_refl _, fun hp => absurd hp (by simp), hx⟩
end Go.Proofs.YtgpbmggfpbebmaaGreat
/- MinimalNogood: the program's walk. -/
namespace Go.Proofs.YtgpbmggfpbebmaaGreat
open Go.RowKit
attribute [local go_sem] evalOf

end Go.Proofs.YtgpbmggfpbebmaaGreat
/- Marking literals, and looking at the marks. -/
namespace Go.Proofs.YtgpbmggfpbebmaaGreat
open Go.RowKit

theorem LayOwn.kpL {α : Type} {L : Lay α} {S : Nat → Prop} {w w' : World} {A : Option Addr} {b m : Nat} {f : Nat → Value} {xs : List α} (h : L.Own w A b m f xs) (hk : Keep S w w') (hb : S b) : L.Own w' A b m f xs :=
  fun hp => by obtain ⟨h1, h2, h3⟩ := h hp; exact ⟨h1, hk.row hb h2, h3⟩
/-- The marked cells: every third one holds whether its mark is a multiple of three. -/
def mcellL (k0 : Int) (f : Nat → Value) (k j : Nat) : Value := if j < k then (if j % 3 = 2 then .bool ((k0 + j) % 3 == 0) else .int .i64 (k0 + j)) else f j
theorem rowL_mark {w : World} {b : Nat} {t : TypeId} {n : Nat} {f : Nat → Value} {k k' : Nat} {k0 v : Int} (h : w.rowIs b t n (mcellL k0 f k)) (hv : v = k0 + k) (hk : k' = k + 1) (h3 : k % 3 ≠ 2) :
    (w.setCell ⟨b, k, none⟩ (.int .i64 v)).rowIs b t n (mcellL k0 f k') := by
  subst hv; subst hk
  refine (h.set k _).congr fun j _ => ?_
  unfold mcellL
  by_cases e : j = k
  · subst e; rw [if_pos rfl, if_pos (by omega), if_neg h3]
  · rw [if_neg e]
    by_cases e2 : j < k
    · rw [if_pos e2, if_pos (show j < k + 1 by omega)]
    · rw [if_neg e2, if_neg (show ¬ j < k + 1 by omega)]
theorem rowL_markB {w : World} {b : Nat} {t : TypeId} {n : Nat} {f : Nat → Value} {k k' : Nat} {k0 v : Int} {q : Bool} (h : w.rowIs b t n (mcellL k0 f k)) (hv : v = k0 + k) (hk : k' = k + 1) (h3 : k % 3 = 2) (hq : q = (v % 3 == 0)) :
    (w.setCell ⟨b, k, none⟩ (.bool q)).rowIs b t n (mcellL k0 f k') := by
  subst hv; subst hk; subst hq
  refine (h.set k _).congr fun j _ => ?_
  unfold mcellL
  by_cases e : j = k
  · subst e; rw [if_pos rfl, if_pos (by omega), if_pos h3]
  · rw [if_neg e]
    by_cases e2 : j < k
    · rw [if_pos e2, if_pos (show j < k + 1 by omega)]
    · rw [if_neg e2, if_neg (show ¬ j < k + 1 by omega)]
def MarkedL (r k0 : Int) (b : Nat) (n m : Nat) (f : Nat → Value) (w : World) (e : Ending) (w' : World) : Prop :=
  e = .returned (.int .i64 r) ∧ w.grownBy w' (rowOf n b) ∧ (0 < n → w'.rowIs b 56 m (mcellL k0 f n))
end Go.Proofs.YtgpbmggfpbebmaaGreat
