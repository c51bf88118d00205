/- Automata: the walks of the laws' own copies, sizes and comparisons, and of ValidAutomaton in the reference and in the program. -/
import Derived.Test.YtjpdebgejlfeaaaDoorAutB
import Derived.Test.YtjpdebgejlfeaaaDoorUtlA
import Derived.Deep.RegionHeld3
namespace Go.Proofs.YtjpdebgejlfeaaaDoor
open Go.RowKit

/-- An automaton. -/
structure Au where
  next : List (List Int)
  final : List Int
theorem OwnK.setFar {B0 : Nat} {w : World} {b : Nat} {rs : List (List Int)} {k : Nat} (h : OwnK B0 w b rs k) {p : Addr} (hp : p.block < B0) (hpb : b ≠ p.block) (u : Value) : OwnK B0 (w.setCell p u) b rs k := by
  obtain ⟨g, h1, h2, h3⟩ := h
  refine ⟨g, h1.setOther hpb u, h2, fun i hi => ?_⟩
  obtain ⟨bi, e1, e2, e3, e4⟩ := h3 i hi
  exact ⟨bi, e1, e2, e3, e4.setOther (by omega) u⟩
theorem OwnK.mono {B0 B1 : Nat} {w : World} {b : Nat} {rs : List (List Int)} {k : Nat} (h : OwnK B0 w b rs k) (hB : B1 ≤ B0) : OwnK B1 w b rs k := by
  obtain ⟨g, h1, h2, h3⟩ := h
  refine ⟨g, h1, h2, fun i hi => ?_⟩
  obtain ⟨bi, e1, e2, e3, e4⟩ := h3 i hi
  exact ⟨bi, by omega, e2, e3, e4⟩
/-- The sizes of an automaton: what is left, or -1. -/
def SzA (a : Au) (n : Int) (w : World) (e : Ending) (w' : World) : Prop :=
  ∃ r : Int, e = .returned (.int .i64 r) ∧ (r = -1 ∨ 0 ≤ r ∧ r ≤ n ∧ (a.next.length : Int) ≤ n ∧ (a.final.length : Int) ≤ n ∧ ∀ i, i < a.next.length → ((rw0 a.next i).length : Int) ≤ n) ∧ Ext w w'

/-- A copy of an automaton in new memory. -/
def NewAut (a : Au) (w : World) (e : Ending) (w' : World) : Prop :=
  ∃ b b', w.heap.size ≤ b ∧ w.heap.size ≤ b' ∧ e = .returned (.agg #[.slice (some ⟨b, 0, none⟩) a.next.length a.next.length, .slice (some ⟨b', 0, none⟩) a.final.length a.final.length]) ∧
    OwnK w.heap.size w' b a.next a.next.length ∧ w'.rowIs b' 3 a.final.length (icell a.final a.final.length) ∧ Ext w w'
end Go.Proofs.YtjpdebgejlfeaaaDoor
/- The walks of ValidAutomaton, in the reference and in the program. -/
namespace Go.Proofs.YtjpdebgejlfeaaaDoor
open Go.RowKit

/-- Row i does not have many numbers in the range. -/
def badRow (rs : List (List Int)) (many : Int) (l h : Int) (i : Nat) : Bool := !(decide (((rw0 rs i).length : Int) = many) && allR (rw0 rs i) l h)
def vRows (rs : List (List Int)) (many l h : Int) : Bool := inR rs.length 1 8 && !anyB (badRow rs many l h) rs.length
/-- Number i is out of order. -/
def badAsc (f : List Int) (i : Nat) : Bool := decide (0 < i) && decide (at0 f i ≤ at0 f (i - 1))
def vFin (f : List Int) (n : Int) : Bool := allR f 0 n && !anyB (badAsc f) f.length
def vAut (a : Au) : Bool := vRows a.next 6 (-1) (a.next.length - 1) && vFin a.final (a.next.length - 1)
theorem vRows_at {rs : List (List Int)} {m l h : Int} (hv : vRows rs m l h = true) {i : Nat} (hi : i < rs.length) : ((rw0 rs i).length : Int) = m ∧ allR (rw0 rs i) l h = true := by
  simp only [vRows, Bool.and_eq_true, Bool.not_eq_true'] at hv
  have := anyB_false.1 hv.2 i hi
  simpa [badRow] using this
theorem vRows_len {rs : List (List Int)} {m l h : Int} (hv : vRows rs m l h = true) : 1 ≤ rs.length ∧ rs.length ≤ 8 := by
  simp [vRows, inR] at hv
  omega
theorem vRows_no {rs : List (List Int)} {m l h : Int} {i : Nat} (hi : i < rs.length) (hb : badRow rs m l h i = true) : vRows rs m l h = false := by
  rw [vRows, anyB_iff.2 ⟨i, hi, hb⟩]; simp
theorem vRows_all {rs : List (List Int)} {m l h : Int} (hb : ∀ i, i < rs.length → badRow rs m l h i = false) : vRows rs m l h = inR rs.length 1 8 := by
  rw [vRows, anyB_false.2 hb]; simp
theorem vFin_no {f : List Int} {n : Int} {i : Nat} (hi : i < f.length) (hb : inR (at0 f i) 0 n = false ∨ badAsc f i = true) : vFin f n = false := by
  rcases hb with hb | hb
  · rw [vFin, allR_no hi hb]; rfl
  · rw [vFin, anyB_iff.2 ⟨i, hi, hb⟩]; simp
theorem vFin_all {f : List Int} {n : Int} (h1 : ∀ i, i < f.length → inR (at0 f i) 0 n = true) (h2 : ∀ i, i < f.length → badAsc f i = false) : vFin f n = true := by
  rw [vFin, anyB_false.2 h2, allR_of h1]; rfl


set_option maxHeartbeats 1000000 in
theorem IndexFuncR_any (v : Value) (rs : List (List Int)) (g : Nat) (caps : Array Value) (p : Nat → Bool) (w : World) (hS : SRows w v rs)
    (hg : ∀ args W, (callFunc g args).run Tryd.prog W = .ok (.enter g args) W) (hp : Hid (∀ i, i < rs.length → ∀ rv W, Ext w W → SInts W rv (rw0 rs i) → Calls Tryd.prog g (#[rv] ++ caps) W (Ret (.bool (p i)) W))) :
    Calls Tryd.prog 99 #[v, .func (.func g) #[] caps] w (Ret (.int .i64 (fidx p rs.length)) w) := by
  have hS0 := hide hS
  obtain ⟨A, cp, rfl, hl, hlen⟩ := hS.form
  clear hS
  go_enter Tryd.func99, Tryd.ntmps99
  go_wp2
  go_loopw [8] (fun i wr => ∃ k : Nat, k ≤ rs.length ∧ i = .int .i64 k ∧ (∀ j, j < k → p j = false) ∧ Ext w wr) (fun i _ => rs.length - (intOf i).toNat)
  case atStart => exact ⟨0, Nat.zero_le _, rfl, fun j hj => absurd hj (by omega), Ext.refl w⟩
  case round =>
    obtain ⟨k, hk, rfl, hv, hx⟩ := hrel
    have Hv := hide hv; clear hv
    by_cases hlt : k < rs.length
    · obtain ⟨b, off, A', c', rfl, hbl, f1, hrow⟩ := (hS0.out.ext hx).at_ hlt
      by_cases hpk : p k = true
      · go_wp2_with fail
        refine (hp.out k hlt _ _ hx hrow).mono ?_
        rintro e w2 ⟨rfl, hx2⟩
        go_wp2
        go_ret
        exact Ret.mk (ret_i (fidx_some hlt hpk Hv.out).symm) (hx.trans hx2)
      · have hpk' : p k = false := Bool.eq_false_iff.2 hpk
        clear hpk
        go_wp2_with fail
        refine (hp.out k hlt _ _ hx hrow).mono ?_
        rintro e w2 ⟨rfl, hx2⟩
        go_wp2
        go_roundw
        case rel => exact ⟨k + 1, by omega, by go_num, upto_succ Hv.out hpk', hx.trans hx2⟩
        case measure => simp [intOf]; omega
    · have hkl : k = rs.length := by omega
      subst hkl
      go_wp2
      go_ret
      exact Ret.mk (ret_i (fidx_none Hv.out).symm) hx
theorem ContainsFuncR_any (v : Value) (rs : List (List Int)) (g : Nat) (caps : Array Value) (p : Nat → Bool) (w : World) (hS : SRows w v rs)
    (hg : ∀ args W, (callFunc g args).run Tryd.prog W = .ok (.enter g args) W) (hp : Hid (∀ i, i < rs.length → ∀ rv W, Ext w W → SInts W rv (rw0 rs i) → Calls Tryd.prog g (#[rv] ++ caps) W (Ret (.bool (p i)) W))) :
    Calls Tryd.prog 90 #[v, .func (.func g) #[] caps] w (Ret (.bool (anyB p rs.length)) w) := by
  go_enter Tryd.func90, Tryd.ntmps90
  go_wp2_with fail
  refine (IndexFuncR_any v rs g caps p w hS hg hp).mono ?_
  rintro e w2 ⟨rfl, hx2⟩
  go_wp2
  go_ret
  exact Ret.mk (ret_b (fidx_any p _)) hx2

theorem rowsIn1_any (v : Value) (xs : List Int) (m l h : Int) (b1 b2 b3 : Nat) (w : World) (hS : SInts w v xs) (h1 : w.cell? ⟨b1, 0, none⟩ = some (.int .i64 m)) (h2 : w.cell? ⟨b2, 0, none⟩ = some (.int .i64 l)) (h3 : w.cell? ⟨b3, 0, none⟩ = some (.int .i64 h)) :
    Calls Tryd.prog 91 #[v, .pointer (some ⟨b1, 0, none⟩), .pointer (some ⟨b2, 0, none⟩), .pointer (some ⟨b3, 0, none⟩)] w (Ret (.bool (!(decide ((xs.length : Int) = m) && allR xs l h))) w) := by
  have hS0 := hide hS
  obtain ⟨A, cp, rfl, hl, hlen⟩ := hS.form
  clear hS
  by_cases hm : (xs.length : Int) = m
  · have hm' : ((xs.length : Int) != m) = false := by simp [hm]
    have HM := hide hm; clear hm
    go_enter Tryd.func91, Tryd.ntmps91
    go_wp2_with (go_at_call 71; refine (allIn_any _ xs _ _ _ hS0.out).mono ?_; rintro e w' ⟨rfl, hx⟩)
    go_ret
    exact Ret.mk (ret_b (by simp [HM.out])) hx
  · have hm' : ((xs.length : Int) != m) = true := by simpa using hm
    have HM := hide hm; clear hm
    go_enter Tryd.func91, Tryd.ntmps91
    go_wp2
    go_ret
    exact Ret.mk (ret_b (by simp [HM.out])) (Ext.refl _)

set_option maxHeartbeats 1000000 in
theorem rowsIn_any (v : Value) (rs : List (List Int)) (m l h : Int) (w : World) (hS : SRows w v rs) :
    Calls Tryd.prog 85 #[v, .int .i64 m, .int .i64 l, .int .i64 h] w (Ret (.bool (vRows rs m l h)) w) := by
  have hS0 := hide hS
  obtain ⟨A, cp, rfl, hl, hlen⟩ := hS.form
  clear hS
  have hx0 := (((Ext.refl w).alloc (.cells #[.int .i64 m] 3)).alloc (.cells #[.int .i64 l] 3)).alloc (.cells #[.int .i64 h] 3)
  by_cases hn : inR rs.length 1 8 = true
  · go_enter Tryd.func85, Tryd.ntmps85
    go_wp2_with (go_at_call 61; refine (within_any _ _ _ _).mono ?_; rintro e w' ⟨rfl, rfl⟩)
    refine (ContainsFuncR_any _ rs 91 _ (badRow rs m l h) _ (hS0.out.ext hx0) (callFunc_body Tryd.func91 (by decide) rfl) (hide fun i hi rv W hW hr => ?_)).mono ?_
    · exact rowsIn1_any rv (rw0 rs i) m l h _ _ _ W hr ((hW.cells _ _ (by simp <;> omega)).trans (by go_simp)) ((hW.cells _ _ (by simp <;> omega)).trans (by go_simp)) ((hW.cells _ _ (by simp <;> omega)).trans (by go_simp))
    rintro e w' ⟨rfl, hx⟩
    go_wp2
    go_ret
    exact Ret.mk (ret_b (by rw [vRows, hn]; rfl)) (hx0.trans hx)
  · have hn' : inR rs.length 1 8 = false := Bool.eq_false_iff.2 hn
    clear hn
    go_enter Tryd.func85, Tryd.ntmps85
    go_wp2_with (go_at_call 61; refine (within_any _ _ _ _).mono ?_; rintro e w' ⟨rfl, rfl⟩)
    go_ret
    exact Ret.mk (ret_b (by rw [vRows, hn']; rfl)) hx0



theorem held_keep {w0 w w' : World} {p q r t : Addr} {vp vq vr vt : Value} (h : Ext w0 w ∧ w.cell? p = some vp ∧ w.cell? q = some vq ∧ w.cell? r = some vr ∧ w.cell? t = some vt) (hx : Ext w w')
    (hp : p.block < w0.heap.size) (hq : q.block < w0.heap.size) (hr : r.block < w0.heap.size) (ht : t.block < w0.heap.size) : Ext w0 w' ∧ w'.cell? p = some vp ∧ w'.cell? q = some vq ∧ w'.cell? r = some vr ∧ w'.cell? t = some vt :=
  ⟨h.1.trans hx, (hx.cell (Nat.lt_of_lt_of_le hp h.1.size)).trans h.2.1, (hx.cell (Nat.lt_of_lt_of_le hq h.1.size)).trans h.2.2.1, (hx.cell (Nat.lt_of_lt_of_le hr h.1.size)).trans h.2.2.2.1, (hx.cell (Nat.lt_of_lt_of_le ht h.1.size)).trans h.2.2.2.2⟩
end Go.Proofs.YtjpdebgejlfeaaaDoor
