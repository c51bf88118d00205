/- Automata: the walks of the laws' own copies, sizes and comparisons, and of ValidAutomaton in the reference and in the program. -/
import Derived.Test.YtdiedghaoleblaaAutB
import Derived.Test.YtdiedghaoleblaaUtlA
import Derived.Deep.RegionHeld3
namespace Go.Proofs.Ytdiedghaoleblaa
open Go.RowKit

/-- An automaton. -/
structure Au where
  next : List (List Int)
  final : List Int
theorem OwnK.setFar {B0 : Nat} {w : World} {b : Nat} {rs : List (List Int)} {k : Nat} (h : OwnK B0 w b rs k) {p : Addr} (hp : p.block < B0) (hpb : b ≠ p.block) (u : Value) : OwnK B0 (w.setCell p u) b rs k := by
  obtain ⟨g, h1, h2, h3⟩ := h
  refine ⟨g, h1.setOther hpb u, h2, fun i hi => ?_⟩
  obtain ⟨bi, e1, e2, e3, e4⟩ := h3 i hi
  exact ⟨bi, e1, e2, e3, e4.setOther (by omega) u⟩
theorem OwnK.mono {B0 B1 : Nat} {w : World} {b : Nat} {rs : List (List Int)} {k : Nat} (h : OwnK B0 w b rs k) (hB : B1 ≤ B0) : OwnK B1 w b rs k := by
  obtain ⟨g, h1, h2, h3⟩ := h
  refine ⟨g, h1, h2, fun i hi => ?_⟩
  obtain ⟨bi, e1, e2, e3, e4⟩ := h3 i hi
  exact ⟨bi, by omega, e2, e3, e4⟩
/-- The sizes of an automaton: what is left, or -1. -/
def SzA (a : Au) (n : Int) (w : World) (e : Ending) (w' : World) : Prop :=
  ∃ r : Int, e = .returned (.int .i64 r) ∧ (r = -1 ∨ 0 ≤ r ∧ r ≤ n ∧ (a.next.length : Int) ≤ n ∧ (a.final.length : Int) ≤ n ∧ ∀ i, i < a.next.length → ((rw0 a.next i).length : Int) ≤ n) ∧ Ext w w'

set_option maxHeartbeats 1000000 in
theorem szAutomaton_any (vn vf : Value) (a : Au) (n : Int) (w : World) (hN : SRows w vn a.next) (hF : SInts w vf a.final) (h1 : 0 ≤ n) (h2 : n ≤ 1048576) :
    Calls Try.prog 28 #[.agg #[vn, vf], .int .i64 n] w (SzA a n w) := by
  obtain ⟨A, c, rfl, -, -⟩ := hN.form
  obtain ⟨A', c', rfl, -, -⟩ := hF.form
  go_enter Try.func28, Try.ntmps28
  go_wp2_with fail
  refine (szIntSS_any _ a.next n _ (hN.ext ((Ext.refl w).alloc _)) h1 h2).mono ?_
  rintro e w1 ⟨r, rfl, hr, hx1⟩
  have hx := ((Ext.refl w).alloc _).trans hx1
  rcases hr with rfl | ⟨hr0, hrn, hl, hr1, hrows⟩
  · go_wp2_with fail
    go_ret
    exact ⟨_, rfl, .inl rfl, hx⟩
  · have Hrows := hide hrows; clear hrows hr1
    have f1 : w1.cell? ⟨w.heap.size, 1, none⟩ = some (.slice A' a.final.length c') := (hx1.cells _ _ (by simp)).trans (by go_simp)
    by_cases hfit : (a.final.length : Int) ≤ r
    · have e1 : left0 r a.final.length = r - a.final.length := left0_pos hfit
      have hnn : 0 ≤ left0 r a.final.length := by rw [e1]; omega
      have E1 := hide e1; clear e1
      go_wp2_with fail
      refine (szIntS_any _ a.final r _ (hF.ext hx) hr0 (by omega)).mono ?_
      rintro e w2 ⟨rfl, rfl⟩
      go_wp2_with fail
      go_ret
      exact ⟨_, rfl, .inr ⟨hnn, by rw [E1.out]; omega, hl, by omega, Hrows.out⟩, hx⟩
    · have e1 : left0 r a.final.length = -1 := left0_neg (by omega)
      have hnn : left0 r a.final.length < 0 := by rw [e1]; decide
      clear e1
      go_wp2_with fail
      refine (szIntS_any _ a.final r _ (hF.ext hx) hr0 (by omega)).mono ?_
      rintro e w2 ⟨rfl, rfl⟩
      go_wp2_with fail
      go_ret
      exact ⟨_, rfl, .inl rfl, hx⟩

/-- A copy of an automaton in new memory. -/
def NewAut (a : Au) (w : World) (e : Ending) (w' : World) : Prop :=
  ∃ b b', w.heap.size ≤ b ∧ w.heap.size ≤ b' ∧ e = .returned (.agg #[.slice (some ⟨b, 0, none⟩) a.next.length a.next.length, .slice (some ⟨b', 0, none⟩) a.final.length a.final.length]) ∧
    OwnK w.heap.size w' b a.next a.next.length ∧ w'.rowIs b' 3 a.final.length (icell a.final a.final.length) ∧ Ext w w'
set_option maxHeartbeats 2000000 in
theorem toAutomaton_any (vn vf : Value) (a : Au) (w : World) (hN : SRows w vn a.next) (hF : SInts w vf a.final) :
    Calls Try.prog 29 #[.agg #[vn, vf]] w (NewAut a w) := by
  obtain ⟨A, c, rfl, -, -⟩ := hN.form
  obtain ⟨A', c', rfl, -, -⟩ := hF.form
  go_enter Try.func29, Try.ntmps29
  go_wp2_with fail
  refine (toIntSS_any _ a.next _ (hN.ext ((((Ext.refl w).alloc _).alloc _).alloc _))).mono ?_
  rintro e w1 ⟨b1, hb1, rfl, hk1, hx1⟩
  have hx := ((((Ext.refl w).alloc _).alloc _).alloc _).trans hx1
  have hs1 := hx1.size
  simp only [World.size_alloc] at hb1 hs1
  have f1 : w1.cell? ⟨w.heap.size, 1, none⟩ = some (.slice A' a.final.length c') := (hx1.cells _ _ (by simp <;> omega)).trans (by go_simp)
  have f2 : w1.cell? ⟨w.heap.size + 2, 0, none⟩ = some (.slice none 0 0) := (hx1.cells _ _ (by simp)).trans (by go_simp)
  have f3 : w1.cell? ⟨w.heap.size + 2, 1, none⟩ = some (.slice none 0 0) := (hx1.cells _ _ (by simp)).trans (by go_simp)
  have f4 : w1.cell? ⟨w.heap.size + 1, 0, none⟩ = some (.slice none 0 0) := (hx1.cells _ _ (by simp)).trans (by go_simp)
  have f5 : w1.cell? ⟨w.heap.size + 1, 1, none⟩ = some (.slice none 0 0) := (hx1.cells _ _ (by simp)).trans (by go_simp)
  have z2 : w1.frozen? ⟨w.heap.size + 2, 0, none⟩ = false := (hx1.frz _ _ (by simp)).trans (by go_simp)
  have z3 : w1.frozen? ⟨w.heap.size + 2, 1, none⟩ = false := (hx1.frz _ _ (by simp)).trans (by go_simp)
  have z4 : w1.frozen? ⟨w.heap.size + 1, 0, none⟩ = false := (hx1.frz _ _ (by simp)).trans (by go_simp)
  have z5 : w1.frozen? ⟨w.heap.size + 1, 1, none⟩ = false := (hx1.frz _ _ (by simp)).trans (by go_simp)
  have HK := hide hk1; clear hk1
  go_wp2_with fail
  refine (toIntS_any _ a.final _ (hF.ext (hx.set (by simp <;> omega) _))).mono ?_
  rintro e w2 ⟨b2, hb2, rfl, hr2, hx2⟩
  have hx2' := (hx.set (p := ⟨w.heap.size + 2, 0, none⟩) (by simp <;> omega) (.slice (some ⟨b1, 0, none⟩) a.next.length a.next.length)).trans hx2
  have hs2 := hx2.size
  have hb2' : w1.heap.size ≤ b2 := by simpa [World.setCell] using hb2
  have hs2' : w1.heap.size ≤ w2.heap.size := by simpa [World.setCell] using hs2
  have g2 : w2.cell? ⟨w.heap.size + 2, 0, none⟩ = some (.slice (some ⟨b1, 0, none⟩) a.next.length a.next.length) := (hx2.cells _ _ (by simp [World.setCell] <;> omega)).trans (by go_simp)
  have g3 : w2.cell? ⟨w.heap.size + 2, 1, none⟩ = some (.slice none 0 0) := (hx2.cells _ _ (by simp [World.setCell] <;> omega)).trans (by go_simp)
  have g4 : w2.cell? ⟨w.heap.size + 1, 0, none⟩ = some (.slice none 0 0) := (hx2.cells _ _ (by simp [World.setCell] <;> omega)).trans (by go_simp)
  have g5 : w2.cell? ⟨w.heap.size + 1, 1, none⟩ = some (.slice none 0 0) := (hx2.cells _ _ (by simp [World.setCell] <;> omega)).trans (by go_simp)
  have y2 : w2.frozen? ⟨w.heap.size + 2, 0, none⟩ = false := (hx2.frz _ _ (by simp [World.setCell] <;> omega)).trans (by go_simp)
  have y3 : w2.frozen? ⟨w.heap.size + 2, 1, none⟩ = false := (hx2.frz _ _ (by simp [World.setCell] <;> omega)).trans (by go_simp)
  have y4 : w2.frozen? ⟨w.heap.size + 1, 0, none⟩ = false := (hx2.frz _ _ (by simp [World.setCell] <;> omega)).trans (by go_simp)
  have y5 : w2.frozen? ⟨w.heap.size + 1, 1, none⟩ = false := (hx2.frz _ _ (by simp [World.setCell] <;> omega)).trans (by go_simp)
  have hK2 := (HK.out.setFar (p := ⟨w.heap.size + 2, 0, none⟩) (by simp) (by simp <;> omega) (.slice (some ⟨b1, 0, none⟩) a.next.length a.next.length)).ext hx2
  have HK2 := hide hK2; clear hK2 HK
  have Hx2' := hide hx2'; clear hx2'
  have Hr2 := hide hr2; clear hr2
  clear hx2 hx1 hx f1 f2 f3 f4 f5 z2 z3 z4 z5
  go_wp2_with fail
  (try simp only [Exit.inBlock, Exit.then])
  refine bodyPost_ret (v := .agg #[.slice (some ⟨b1, 0, none⟩) a.next.length a.next.length, .slice (some ⟨b2, 0, none⟩) a.final.length a.final.length]) (by simp only [results, Try.results29]; go_simp) rfl ?_
  refine ⟨b1, b2, by omega, by omega, rfl, ?_, ?_, ?_⟩
  · exact (((HK2.out.setFar (by simp) (by simp <;> omega) _).setFar (by simp) (by simp <;> omega) _).setFar (by simp) (by simp <;> omega) _).mono (by simp <;> omega)
  · exact ((Hr2.out.setOther (by simp <;> omega) _).setOther (by simp <;> omega) _).setOther (by simp <;> omega) _
  · exact ((Hx2'.out.set (by simp <;> omega) _).set (by simp <;> omega) _).set (by simp <;> omega) _

theorem eqAutomaton_same (vn vf vn' vf' : Value) (a : Au) (w : World) (hN : SRows w vn a.next) (hF : SInts w vf a.final) (hN' : SRows w vn' a.next) (hF' : SInts w vf' a.final) :
    Calls Try.prog 31 #[.agg #[vn, vf], .agg #[vn', vf']] w (Ret (.bool true) w) := by
  obtain ⟨A, c, rfl, -, -⟩ := hN.form
  obtain ⟨A', c', rfl, -, -⟩ := hF.form
  obtain ⟨A2, c2, rfl, -, -⟩ := hN'.form
  obtain ⟨A2', c2', rfl, -, -⟩ := hF'.form
  go_enter Try.func31, Try.ntmps31
  go_wp2_with fail
  have hx0 := ((Ext.refl w).alloc (.cells #[.slice A a.next.length c, .slice A' a.final.length c'] 26)).alloc (.cells #[.slice A2 a.next.length c2, .slice A2' a.final.length c2'] 26)
  refine (eqIntSS_same _ _ a.next _ (hN.ext hx0) (hN'.ext hx0)).mono ?_
  rintro e w1 ⟨rfl, hx1⟩
  have f1 : w1.cell? ⟨w.heap.size, 1, none⟩ = some (.slice A' a.final.length c') := (hx1.cells _ _ (by simp <;> omega)).trans (by go_simp)
  have f2 : w1.cell? ⟨w.heap.size + 1, 1, none⟩ = some (.slice A2' a.final.length c2') := (hx1.cells _ _ (by simp)).trans (by go_simp)
  have hx := hx0.trans hx1
  go_wp2_with fail
  refine (eqIntS_same _ _ a.final _ (hF.ext hx) (hF'.ext hx)).mono ?_
  rintro e w2 ⟨rfl, hx2⟩
  go_wp2
  go_ret
  exact Ret.mk rfl (hx.trans hx2)
end Go.Proofs.Ytdiedghaoleblaa
/- The walks of ValidAutomaton, in the reference and in the program. -/
namespace Go.Proofs.Ytdiedghaoleblaa
open Go.RowKit

/-- Row i does not have many numbers in the range. -/
def badRow (rs : List (List Int)) (many : Int) (l h : Int) (i : Nat) : Bool := !(decide (((rw0 rs i).length : Int) = many) && allR (rw0 rs i) l h)
def vRows (rs : List (List Int)) (many l h : Int) : Bool := inR rs.length 1 8 && !anyB (badRow rs many l h) rs.length
/-- Number i is out of order. -/
def badAsc (f : List Int) (i : Nat) : Bool := decide (0 < i) && decide (at0 f i ≤ at0 f (i - 1))
def vFin (f : List Int) (n : Int) : Bool := allR f 0 n && !anyB (badAsc f) f.length
def vAut (a : Au) : Bool := vRows a.next 6 (-1) (a.next.length - 1) && vFin a.final (a.next.length - 1)
theorem vRows_at {rs : List (List Int)} {m l h : Int} (hv : vRows rs m l h = true) {i : Nat} (hi : i < rs.length) : ((rw0 rs i).length : Int) = m ∧ allR (rw0 rs i) l h = true := by
  simp only [vRows, Bool.and_eq_true, Bool.not_eq_true'] at hv
  have := anyB_false.1 hv.2 i hi
  simpa [badRow] using this
theorem vRows_len {rs : List (List Int)} {m l h : Int} (hv : vRows rs m l h = true) : 1 ≤ rs.length ∧ rs.length ≤ 8 := by
  simp [vRows, inR] at hv
  omega
theorem vRows_no {rs : List (List Int)} {m l h : Int} {i : Nat} (hi : i < rs.length) (hb : badRow rs m l h i = true) : vRows rs m l h = false := by
  rw [vRows, anyB_iff.2 ⟨i, hi, hb⟩]; simp
theorem vRows_all {rs : List (List Int)} {m l h : Int} (hb : ∀ i, i < rs.length → badRow rs m l h i = false) : vRows rs m l h = inR rs.length 1 8 := by
  rw [vRows, anyB_false.2 hb]; simp
theorem vFin_no {f : List Int} {n : Int} {i : Nat} (hi : i < f.length) (hb : inR (at0 f i) 0 n = false ∨ badAsc f i = true) : vFin f n = false := by
  rcases hb with hb | hb
  · rw [vFin, allR_no hi hb]; rfl
  · rw [vFin, anyB_iff.2 ⟨i, hi, hb⟩]; simp
theorem vFin_all {f : List Int} {n : Int} (h1 : ∀ i, i < f.length → inR (at0 f i) 0 n = true) (h2 : ∀ i, i < f.length → badAsc f i = false) : vFin f n = true := by
  rw [vFin, anyB_false.2 h2, allR_of h1]; rfl

set_option maxHeartbeats 1000000 in
theorem validRows_any (v : Value) (rs : List (List Int)) (m l h : Int) (w : World) (hS : SRows w v rs) :
    Calls Try.prog 73 #[v, .int .i64 m, .int .i64 l, .int .i64 h] w fun e w' => e = .returned (.bool (vRows rs m l h)) ∧ w = w' := by
  have hS0 := hide hS
  obtain ⟨A, cp, rfl, hl, hlen⟩ := hS.form
  clear hS
  go_enter Try.func73, Try.ntmps73
  go_wp2
  go_loop [9] (fun i => ∃ k : Nat, k ≤ rs.length ∧ i = .int .i64 k ∧ (∀ j, j < k → badRow rs m l h j = false)) (fun i => rs.length - (intOf i).toNat)
  case atStart => exact ⟨0, Nat.zero_le _, rfl, fun j hj => absurd hj (by omega)⟩
  case round =>
    obtain ⟨k, hk, rfl, hv⟩ := hrel
    have Hv := hide hv; clear hv
    by_cases hlt : k < rs.length
    · obtain ⟨b, off, A', c', rfl, hbl, f1, hrow⟩ := hS0.out.at_ hlt
      by_cases h1 : ((rw0 rs k).length : Int) = m
      · have h1' : (((rw0 rs k).length : Int) != m) = false := by simp [h1]
        have H1 := hide h1; clear h1
        by_cases h2 : allR (rw0 rs k) l h = true
        · go_wp2_with (go_at_call 74; refine (allInRange_any _ (rw0 rs k) _ _ _ hrow).mono ?_; rintro e w' ⟨rfl, rfl⟩)
          go_round
          case rel => exact ⟨k + 1, by omega, by go_num, upto_succ Hv.out (by simp [badRow, H1.out, h2])⟩
          case measure => simp [intOf]; omega
        · have h2' : allR (rw0 rs k) l h = false := Bool.eq_false_iff.2 h2
          clear h2
          go_wp2_with (go_at_call 74; refine (allInRange_any _ (rw0 rs k) _ _ _ hrow).mono ?_; rintro e w' ⟨rfl, rfl⟩)
          go_ret
          exact ⟨ret_b (vRows_no hlt (by simp [badRow, h2'])).symm, rfl⟩
      · have h1' : (((rw0 rs k).length : Int) != m) = true := by simpa using h1
        have H1 := hide h1; clear h1
        go_wp2
        go_ret
        exact ⟨ret_b (vRows_no hlt (by simp [badRow, H1.out])).symm, rfl⟩
    · have hkl : k = rs.length := by omega
      subst hkl
      go_wp2_with (go_at_call 90; refine (inRange_any _ _ _ _).mono ?_; rintro e w' ⟨rfl, rfl⟩)
      go_ret
      exact ⟨ret_b (vRows_all Hv.out).symm, rfl⟩

set_option maxHeartbeats 1000000 in
theorem IndexFuncR_any (v : Value) (rs : List (List Int)) (g : Nat) (caps : Array Value) (p : Nat → Bool) (w : World) (hS : SRows w v rs)
    (hg : ∀ args W, (callFunc g args).run Try.prog W = .ok (.enter g args) W) (hp : Hid (∀ i, i < rs.length → ∀ rv W, Ext w W → SInts W rv (rw0 rs i) → Calls Try.prog g (#[rv] ++ caps) W (Ret (.bool (p i)) W))) :
    Calls Try.prog 93 #[v, .func (.func g) #[] caps] w (Ret (.int .i64 (fidx p rs.length)) w) := by
  have hS0 := hide hS
  obtain ⟨A, cp, rfl, hl, hlen⟩ := hS.form
  clear hS
  go_enter Try.func93, Try.ntmps93
  go_wp2
  go_loopw [8] (fun i wr => ∃ k : Nat, k ≤ rs.length ∧ i = .int .i64 k ∧ (∀ j, j < k → p j = false) ∧ Ext w wr) (fun i _ => rs.length - (intOf i).toNat)
  case atStart => exact ⟨0, Nat.zero_le _, rfl, fun j hj => absurd hj (by omega), Ext.refl w⟩
  case round =>
    obtain ⟨k, hk, rfl, hv, hx⟩ := hrel
    have Hv := hide hv; clear hv
    by_cases hlt : k < rs.length
    · obtain ⟨b, off, A', c', rfl, hbl, f1, hrow⟩ := (hS0.out.ext hx).at_ hlt
      by_cases hpk : p k = true
      · go_wp2_with fail
        refine (hp.out k hlt _ _ hx hrow).mono ?_
        rintro e w2 ⟨rfl, hx2⟩
        go_wp2
        go_ret
        exact Ret.mk (ret_i (fidx_some hlt hpk Hv.out).symm) (hx.trans hx2)
      · have hpk' : p k = false := Bool.eq_false_iff.2 hpk
        clear hpk
        go_wp2_with fail
        refine (hp.out k hlt _ _ hx hrow).mono ?_
        rintro e w2 ⟨rfl, hx2⟩
        go_wp2
        go_roundw
        case rel => exact ⟨k + 1, by omega, by go_num, upto_succ Hv.out hpk', hx.trans hx2⟩
        case measure => simp [intOf]; omega
    · have hkl : k = rs.length := by omega
      subst hkl
      go_wp2
      go_ret
      exact Ret.mk (ret_i (fidx_none Hv.out).symm) hx
theorem ContainsFuncR_any (v : Value) (rs : List (List Int)) (g : Nat) (caps : Array Value) (p : Nat → Bool) (w : World) (hS : SRows w v rs)
    (hg : ∀ args W, (callFunc g args).run Try.prog W = .ok (.enter g args) W) (hp : Hid (∀ i, i < rs.length → ∀ rv W, Ext w W → SInts W rv (rw0 rs i) → Calls Try.prog g (#[rv] ++ caps) W (Ret (.bool (p i)) W))) :
    Calls Try.prog 79 #[v, .func (.func g) #[] caps] w (Ret (.bool (anyB p rs.length)) w) := by
  go_enter Try.func79, Try.ntmps79
  go_wp2_with fail
  refine (IndexFuncR_any v rs g caps p w hS hg hp).mono ?_
  rintro e w2 ⟨rfl, hx2⟩
  go_wp2
  go_ret
  exact Ret.mk (ret_b (fidx_any p _)) hx2

theorem rowsIn1_any (v : Value) (xs : List Int) (m l h : Int) (b1 b2 b3 : Nat) (w : World) (hS : SInts w v xs) (h1 : w.cell? ⟨b1, 0, none⟩ = some (.int .i64 m)) (h2 : w.cell? ⟨b2, 0, none⟩ = some (.int .i64 l)) (h3 : w.cell? ⟨b3, 0, none⟩ = some (.int .i64 h)) :
    Calls Try.prog 80 #[v, .pointer (some ⟨b1, 0, none⟩), .pointer (some ⟨b2, 0, none⟩), .pointer (some ⟨b3, 0, none⟩)] w (Ret (.bool (!(decide ((xs.length : Int) = m) && allR xs l h))) w) := by
  have hS0 := hide hS
  obtain ⟨A, cp, rfl, hl, hlen⟩ := hS.form
  clear hS
  by_cases hm : (xs.length : Int) = m
  · have hm' : ((xs.length : Int) != m) = false := by simp [hm]
    have HM := hide hm; clear hm
    go_enter Try.func80, Try.ntmps80
    go_wp2_with (go_at_call 49; refine (allIn_any _ xs _ _ _ hS0.out).mono ?_; rintro e w' ⟨rfl, hx⟩)
    go_ret
    exact Ret.mk (ret_b (by simp [HM.out])) hx
  · have hm' : ((xs.length : Int) != m) = true := by simpa using hm
    have HM := hide hm; clear hm
    go_enter Try.func80, Try.ntmps80
    go_wp2
    go_ret
    exact Ret.mk (ret_b (by simp [HM.out])) (Ext.refl _)

set_option maxHeartbeats 1000000 in
theorem rowsIn_any (v : Value) (rs : List (List Int)) (m l h : Int) (w : World) (hS : SRows w v rs) :
    Calls Try.prog 48 #[v, .int .i64 m, .int .i64 l, .int .i64 h] w (Ret (.bool (vRows rs m l h)) w) := by
  have hS0 := hide hS
  obtain ⟨A, cp, rfl, hl, hlen⟩ := hS.form
  clear hS
  have hx0 := (((Ext.refl w).alloc (.cells #[.int .i64 m] 3)).alloc (.cells #[.int .i64 l] 3)).alloc (.cells #[.int .i64 h] 3)
  by_cases hn : inR rs.length 1 8 = true
  · go_enter Try.func48, Try.ntmps48
    go_wp2_with (go_at_call 47; refine (within_any _ _ _ _).mono ?_; rintro e w' ⟨rfl, rfl⟩)
    refine (ContainsFuncR_any _ rs 80 _ (badRow rs m l h) _ (hS0.out.ext hx0) (callFunc_body Try.func80 (by decide) rfl) (hide fun i hi rv W hW hr => ?_)).mono ?_
    · exact rowsIn1_any rv (rw0 rs i) m l h _ _ _ W hr ((hW.cells _ _ (by simp <;> omega)).trans (by go_simp)) ((hW.cells _ _ (by simp <;> omega)).trans (by go_simp)) ((hW.cells _ _ (by simp <;> omega)).trans (by go_simp))
    rintro e w' ⟨rfl, hx⟩
    go_wp2
    go_ret
    exact Ret.mk (ret_b (by rw [vRows, hn]; rfl)) (hx0.trans hx)
  · have hn' : inR rs.length 1 8 = false := Bool.eq_false_iff.2 hn
    clear hn
    go_enter Try.func48, Try.ntmps48
    go_wp2_with (go_at_call 47; refine (within_any _ _ _ _).mono ?_; rintro e w' ⟨rfl, rfl⟩)
    go_ret
    exact Ret.mk (ret_b (by rw [vRows, hn']; rfl)) hx0

set_option maxHeartbeats 2000000 in
theorem validAutomaton_any (vn vf : Value) (a : Au) (w : World) (hN : SRows w vn a.next) (hF : SInts w vf a.final) :
    Calls Try.prog 39 #[.agg #[vn, vf]] w (Ret (.bool (vAut a)) w) := by
  have hN0 := hide hN
  have hF0 := hide hF
  obtain ⟨A, c, rfl, -, hln⟩ := hN.form
  obtain ⟨A', c', rfl, -, hlf⟩ := hF.form
  clear hN hF
  have hx0 := (Ext.refl w).alloc (.cells #[.slice A a.next.length c, .slice A' a.final.length c'] 26)
  by_cases h1 : vRows a.next 6 (-1) (a.next.length - 1) = true
  · obtain ⟨n1, n8⟩ := vRows_len h1
    have hn8 : decide ((8 : Int) < a.next.length) = false := by simp; omega
    have hn0 : ((a.next.length : Int) == 0) = false := beq_eq_false_iff_ne.2 (by omega)
    by_cases h2 : allR a.final 0 (a.next.length - 1) = true
    · have H1 := hide h1
      have H2 := hide h2
      go_enter Try.func39, Try.ntmps39
      go_wp2_with (first | (go_at_call 73; refine (validRows_any _ a.next _ _ _ _ (hN0.out.ext hx0)).mono ?_; rintro e w' ⟨rfl, rfl⟩) | (go_at_call 74; refine (allInRange_any _ a.final _ _ _ (hF0.out.ext hx0)).mono ?_; rintro e w' ⟨rfl, rfl⟩))
      go_loopw [3] (fun i wr => ∃ k : Nat, 1 ≤ k ∧ (k ≤ a.final.length ∨ k = 1) ∧ i = .int .i64 k ∧ (∀ j, j < k → badAsc a.final j = false) ∧ Ext (w.alloc (.cells #[.slice A a.next.length c, .slice A' a.final.length c'] 26)) wr) (fun i _ => a.final.length + 1 - (intOf i).toNat)
      case atStart => exact ⟨1, Nat.le_refl _, .inr rfl, rfl, fun j hj => by
        obtain rfl : j = 0 := by omega
        rfl, Ext.refl _⟩
      case round =>
        obtain ⟨k, hk1, hk2, rfl, hv, hx⟩ := hrel
        have Hv := hide hv; clear hv
        have b1 : wr.cell? ⟨w.heap.size, 1, none⟩ = some (.slice A' a.final.length c') := (hx.cells _ _ (by simp)).trans (by go_simp)
        have hbw : w.heap.size < wr.heap.size := Nat.lt_of_lt_of_le (by simp) hx.size
        by_cases hlt : k < a.final.length
        · obtain ⟨b, off, rfl, hbl, f1⟩ := (hF0.out.ext (hx0.trans hx)).at_ hlt
          have f2 := (hF0.out.ext (hx0.trans hx)).cell_ (k := k - 1) (by omega)
          by_cases hb : at0 a.final k ≤ at0 a.final (k - 1)
          · have hbad : badAsc a.final k = true := by simp [badAsc, hb]; omega
            have HB := hide hbad; clear hbad
            go_wp2
            refine wp_region_ext (by kernel_rfl) (by kernel_rfl) ?_
            have hi0 : (1 : Int) ≤ (k : Int) := by omega
            have hi1 : (0 : Int) ≤ (k : Int) - 1 := by omega
            have hi2 : (k : Int) - 1 < a.final.length := by omega
            have hi3 : ((k : Int) - 1).toNat = k - 1 := by omega
            have hwr := IntWalk.i64_in ((k : Int) - 1) (by omega)
            iterate 12 (apply quiet_val; (focus rfl); (focus (intro w' hw'; have hk' := hw'.cells; go_simp; all_goals exact rfl)); simp only [Act.put, List.setIfInBounds_toArray, List.set_cons_succ, List.set_cons_zero])
            clear hwr hi0 hi1 hi2 hi3
            refine wpQuiet_nil ?_
            intro w2 hx2
            go_wp2
            go_ret
            refine Ret.mk (ret_b ?_) ((hx0.trans hx).trans hx2)
            rw [vAut, vFin_no hlt (.inr HB.out)]; simp
          · have hgood : badAsc a.final k = false := by simp [badAsc]; omega
            have HB := hide hgood; clear hgood
            go_wp2
            refine wp_region_ext (by kernel_rfl) (by kernel_rfl) ?_
            have hi0 : (1 : Int) ≤ (k : Int) := by omega
            have hi1 : (0 : Int) ≤ (k : Int) - 1 := by omega
            have hi2 : (k : Int) - 1 < a.final.length := by omega
            have hi3 : ((k : Int) - 1).toNat = k - 1 := by omega
            have hwr := IntWalk.i64_in ((k : Int) - 1) (by omega)
            iterate 12 (apply quiet_val; (focus rfl); (focus (intro w' hw'; have hk' := hw'.cells; go_simp; all_goals exact rfl)); simp only [Act.put, List.setIfInBounds_toArray, List.set_cons_succ, List.set_cons_zero])
            clear hwr hi0 hi1 hi2 hi3
            refine wpQuiet_nil ?_
            intro w2 hx2
            go_wp2
            go_roundw
            case rel => exact ⟨k + 1, by omega, .inl (by omega), by go_num, upto_succ Hv.out HB.out, hx.trans hx2⟩
            case measure => simp [intOf]; omega
        · go_wp2
          go_ret
          refine Ret.mk (ret_b ?_) (hx0.trans hx)
          rw [vAut, H1.out, vFin_all (fun i hi => List.all_eq_true.1 H2.out _ (at0_mem hi)) (fun i hi => Hv.out i (by omega))]; rfl
    · have h2' : allR a.final 0 (a.next.length - 1) = false := Bool.eq_false_iff.2 h2
      clear h2
      have H1 := hide h1
      go_enter Try.func39, Try.ntmps39
      go_wp2_with (first | (go_at_call 73; refine (validRows_any _ a.next _ _ _ _ (hN0.out.ext hx0)).mono ?_; rintro e w' ⟨rfl, rfl⟩) | (go_at_call 74; refine (allInRange_any _ a.final _ _ _ (hF0.out.ext hx0)).mono ?_; rintro e w' ⟨rfl, rfl⟩))
      go_ret
      exact Ret.mk (ret_b (by rw [vAut, vFin, h2']; simp)) hx0
  · have h1' : vRows a.next 6 (-1) (a.next.length - 1) = false := Bool.eq_false_iff.2 h1
    clear h1
    go_enter Try.func39, Try.ntmps39
    go_wp2_with (go_at_call 73; refine (validRows_any _ a.next _ _ _ _ (hN0.out.ext hx0)).mono ?_; rintro e w' ⟨rfl, rfl⟩)
    go_ret
    exact Ret.mk (ret_b (by rw [vAut, h1']; simp)) hx0
set_option maxHeartbeats 2000000 in
theorem ValidAutomatonI_any (vn vf : Value) (a : Au) (w : World) (hN : SRows w vn a.next) (hF : SInts w vf a.final) :
    Calls Try.prog 15 #[.agg #[vn, vf]] w (Ret (.bool (vAut a)) w) := by
  have hN0 := hide hN
  have hF0 := hide hF
  obtain ⟨A, c, rfl, -, hln⟩ := hN.form
  obtain ⟨A', c', rfl, -, hlf⟩ := hF.form
  clear hN hF
  have hx0 := (Ext.refl w).alloc (.cells #[.slice A a.next.length c, .slice A' a.final.length c'] 26)
  have hF1 := hide (hF0.out.ext hx0)
  have hN1 := hide (hN0.out.ext hx0)
  go_enter Try.func15, Try.ntmps15
  go_wp2
  go_loop [13] (fun i => ∃ k : Nat, k ≤ a.final.length ∧ i = .int .i64 k ∧ (∀ j, j < k → inR (at0 a.final j) 0 (a.next.length - 1) = true ∧ badAsc a.final j = false)) (fun i => a.final.length - (intOf i).toNat)
  case atStart => exact ⟨0, Nat.zero_le _, rfl, fun j hj => absurd hj (by omega)⟩
  case round =>
    obtain ⟨k, hk, rfl, hv⟩ := hrel
    have Hv := hide hv; clear hv
    by_cases hlt : k < a.final.length
    · obtain ⟨b, off, rfl, hbl, f1⟩ := hF1.out.at_ hlt
      by_cases h1 : inR (at0 a.final k) 0 (a.next.length - 1) = true
      · by_cases h0 : k = 0
        · have hgood : badAsc a.final k = false := by rw [h0]; rfl
          have HB := hide hgood; clear hgood
          have hk0 : decide (0 < k) = false := by simp; omega
          clear h0
          go_wp2_with (go_at_call 47; refine (within_any _ _ _ _).mono ?_; rintro e w' ⟨rfl, rfl⟩)
          go_round
          case rel => exact ⟨k + 1, by omega, by go_num, upto_succ Hv.out ⟨h1, HB.out⟩⟩
          case measure => simp [intOf]; omega
        · have hk0 : (0 : Int) < (k : Int) := by omega
          have hk1 : (1 : Int) ≤ (k : Int) := by omega
          have f2 := hF1.out.cell_ (k := k - 1) (by omega)
          clear h0
          by_cases hb : at0 a.final k ≤ at0 a.final (k - 1)
          · have hbad : badAsc a.final k = true := by simp [badAsc, hb]; omega
            have HB := hide hbad; clear hbad
            go_wp2_with (go_at_call 47; refine (within_any _ _ _ _).mono ?_; rintro e w' ⟨rfl, rfl⟩)
            go_ret
            refine Ret.mk (ret_b ?_) hx0
            rw [vAut, vFin_no hlt (.inr HB.out)]; simp
          · have hgood : badAsc a.final k = false := by simp [badAsc]; omega
            have HB := hide hgood; clear hgood
            go_wp2_with (go_at_call 47; refine (within_any _ _ _ _).mono ?_; rintro e w' ⟨rfl, rfl⟩)
            go_round
            case rel => exact ⟨k + 1, by omega, by go_num, upto_succ Hv.out ⟨h1, HB.out⟩⟩
            case measure => simp [intOf]; omega
      · have h1' : inR (at0 a.final k) 0 (a.next.length - 1) = false := Bool.eq_false_iff.2 h1
        clear h1
        go_wp2_with (go_at_call 47; refine (within_any _ _ _ _).mono ?_; rintro e w' ⟨rfl, rfl⟩)
        go_ret
        refine Ret.mk (ret_b ?_) hx0
        rw [vAut, vFin_no hlt (.inl h1')]; simp
    · have hkl : k = a.final.length := by omega
      subst hkl
      go_wp2_with (go_at_call 48; refine (rowsIn_any _ a.next _ _ _ _ hN1.out).mono ?_; rintro e w' ⟨rfl, hx⟩)
      go_ret
      refine Ret.mk (ret_b ?_) (hx0.trans hx)
      rw [vAut, vFin_all (fun i hi => (Hv.out i hi).1) (fun i hi => (Hv.out i hi).2), Bool.and_true]

theorem held_keep {w0 w w' : World} {p q r t : Addr} {vp vq vr vt : Value} (h : Ext w0 w ∧ w.cell? p = some vp ∧ w.cell? q = some vq ∧ w.cell? r = some vr ∧ w.cell? t = some vt) (hx : Ext w w')
    (hp : p.block < w0.heap.size) (hq : q.block < w0.heap.size) (hr : r.block < w0.heap.size) (ht : t.block < w0.heap.size) : Ext w0 w' ∧ w'.cell? p = some vp ∧ w'.cell? q = some vq ∧ w'.cell? r = some vr ∧ w'.cell? t = some vt :=
  ⟨h.1.trans hx, (hx.cell (Nat.lt_of_lt_of_le hp h.1.size)).trans h.2.1, (hx.cell (Nat.lt_of_lt_of_le hq h.1.size)).trans h.2.2.1, (hx.cell (Nat.lt_of_lt_of_le hr h.1.size)).trans h.2.2.2.1, (hx.cell (Nat.lt_of_lt_of_le ht h.1.size)).trans h.2.2.2.2⟩
end Go.Proofs.Ytdiedghaoleblaa
