/- Constraints: how they read; slices.Contains; distinct. -/
import Derived.Test.YtdiedghaoleblaaAutZ
import Derived.Test.YtdiedghaoleblaaUtlA
namespace Go.Proofs.Ytdiedghaoleblaa
open Go.RowKit

theorem SInts.take {w : World} {A : Option Addr} {n c : Nat} {xs : List Int} (h : SInts w (.slice A n c) xs) (k : Nat) (hk : k ≤ n) : SInts w (.slice A k c) (xs.take k) := by
  obtain ⟨A', c', e1, h2, h3, h4, h5⟩ := h
  injection e1 with e1 e2 e3
  subst e1; subst e3
  have hl : (xs.take k).length = k := by rw [List.length_take]; omega
  have hat : ∀ i, i < k → at0 (xs.take k) i = at0 xs i := fun i hi => by
    unfold at0
    rw [getD_lt _ _ (by rw [hl]; exact hi), getD_lt _ _ (by omega), List.getElem_take]
  refine ⟨A, c, by rw [hl], by rw [hl]; omega, by rw [hl]; omega, fun i hi => ?_, fun hp => ?_⟩
  · rw [hl] at hi; rw [hat i hi]; exact h4 i (by omega)
  · rw [hl] at hp ⊢
    obtain ⟨b, off, e, hb, hc⟩ := h5 (by omega)
    exact ⟨b, off, e, hb, fun i hi => by rw [hat i hi]; exact hc i (by omega)⟩
/-- x is one of the numbers. -/
def hasI (xs : List Int) (x : Int) : Bool := anyB (fun i => x == at0 xs i) xs.length
set_option maxHeartbeats 1000000 in
theorem Index_any (v : Value) (xs : List Int) (x : Int) (w : World) (hS : SInts w v xs) : Calls Try.prog 70 #[v, .int .i64 x] w fun e w' => e = .returned (.int .i64 (fidx (fun i => x == at0 xs i) xs.length)) ∧ w = w' := by
  have hS0 := hide hS
  obtain ⟨A, c, rfl, -, hln⟩ := hS.form
  clear hS
  go_enter Try.func70, Try.ntmps70
  go_wp2
  go_loop [8] (fun i => ∃ k : Nat, k ≤ xs.length ∧ i = .int .i64 k ∧ ∀ j, j < k → (x == at0 xs j) = false) (fun i => xs.length - (intOf i).toNat)
  case atStart => exact ⟨0, Nat.zero_le _, rfl, fun j hj => by omega⟩
  case round =>
    obtain ⟨k, hk, rfl, hno⟩ := hrel
    have HNO := hide hno
    clear hno
    by_cases hlt : k < xs.length
    · obtain ⟨b, off, rfl, hbl, f1⟩ := hS0.out.at_ hlt
      have hkI : (k : Int) < xs.length := by omega
      by_cases hx : (x == at0 xs k) = true
      · have HF := hide (fidx_some hlt hx HNO.out)
        go_wp2
        go_ret
        exact ⟨ret_i HF.out.symm, rfl⟩
      · have hx' : (x == at0 xs k) = false := Bool.eq_false_iff.2 hx
        have HX := hide hx'
        clear hx
        go_wp2
        go_round
        case rel => exact ⟨k + 1, by omega, by go_num, fun j hj => by
          by_cases e : j = k
          · subst e; exact HX.out
          · exact HNO.out j (by omega)⟩
        case measure => simp [intOf]; omega
    · obtain rfl : k = xs.length := by omega
      have HF := hide (fidx_none HNO.out)
      go_wp2
      go_ret
      exact ⟨ret_i HF.out.symm, rfl⟩
set_option maxHeartbeats 1000000 in
theorem Contains_any (v : Value) (xs : List Int) (x : Int) (w : World) (hS : SInts w v xs) : Calls Try.prog 69 #[v, .int .i64 x] w fun e w' => e = .returned (.bool (hasI xs x)) ∧ w = w' := by
  have hS0 := hide hS
  obtain ⟨A, c, rfl, -, hln⟩ := hS.form
  clear hS
  have HF := hide (fidx_any (fun i => x == at0 xs i) xs.length)
  go_enter Try.func69, Try.ntmps69
  go_wp2_with (go_at_call 70; refine (Index_any _ xs x _ hS0.out).mono ?_; rintro e w' ⟨rfl, rfl⟩)
  go_ret
  exact ⟨ret_b (by rw [hasI, ← HF.out]), rfl⟩
/-- No number is there twice. -/
def dst (xs : List Int) : Bool := !anyB (fun i => hasI (xs.take i) (at0 xs i)) xs.length
end Go.Proofs.Ytdiedghaoleblaa
/- Constraints of the program: whether the numbers are those of the kind. -/
namespace Go.Proofs.Ytdiedghaoleblaa
open Go.RowKit

def argsB (args : List Int) (m lo hi : Int) : Bool := ((args.length : Int) == m) && allR args lo hi
/-- The numbers of a constraint are those of its kind. -/
def fitB (kk : Int) (vars args : List Int) (b : Int) (rows : List (List Int)) : Bool :=
  if kk = 1 then argsB args vars.length (-9) 9 && (inR b (-999) 999 && ((rows.length : Int) == 0))
  else if kk = 2 then ((vars.length : Int) == 2) && (argsB args 1 (-9) 9 && ((b == 0) && ((rows.length : Int) == 0)))
  else if kk = 3 ∨ kk = 9 then ((args.length : Int) == 0) && ((b == 0) && ((rows.length : Int) == 0))
  else if kk = 4 then ((vars.length : Int) == 2) && (inR args.length 1 6 && (allR args 0 5 && ((b == 0) && ((rows.length : Int) == 0))))
  else if kk = 5 then ((args.length : Int) == 0) && ((b == 0) && vRows rows vars.length 0 5)
  else if kk = 6 then argsB args 1 0 5 && (inR b 0 4 && ((rows.length : Int) == 0))
  else if kk = 7 then argsB args (2 * vars.length) 0 9 && (inR b 0 9 && ((rows.length : Int) == 0))
  else if kk = 8 then vRows rows 6 (-1) (rows.length - 1) && (dst args && (allR args 0 (rows.length - 1) && (b == 0)))
  else false
end Go.Proofs.Ytdiedghaoleblaa
/- Constraints and models: how they read; slices.ContainsFunc over constraints; whether they are valid. -/
namespace Go.Proofs.Ytdiedghaoleblaa
open Go.RowKit

/-- A constraint. -/
structure Con where
  kk : Int
  vars : List Int
  args : List Int
  bound : Int
  rows : List (List Int)
def con0 (cs : List Con) (i : Nat) : Con := cs.getD i ⟨0, [], [], 0, []⟩
/-- v is a slice whose cells read as the constraints cs. -/
def SCons (w : World) (v : Value) (cs : List Con) : Prop :=
  ∃ A c, v = .slice A cs.length c ∧ cs.length ≤ c ∧ cs.length * 88 ≤ 140737488355328 ∧
    (0 < cs.length → ∃ b off, A = some ⟨b, off, none⟩ ∧ b < w.heap.size ∧ ∀ i, i < cs.length → ∃ vv va vr,
      w.cell? ⟨b, off + i * 5, none⟩ = some (.int .i64 (con0 cs i).kk) ∧ w.cell? ⟨b, off + i * 5 + 1, none⟩ = some vv ∧ w.cell? ⟨b, off + i * 5 + 2, none⟩ = some va ∧
      w.cell? ⟨b, off + i * 5 + 3, none⟩ = some (.int .i64 (con0 cs i).bound) ∧ w.cell? ⟨b, off + i * 5 + 4, none⟩ = some vr ∧
      SInts w vv (con0 cs i).vars ∧ SInts w va (con0 cs i).args ∧ SRows w vr (con0 cs i).rows)
theorem SCons.ext {w w' : World} {v : Value} {cs : List Con} (h : SCons w v cs) (hx : Ext w w') : SCons w' v cs := by
  obtain ⟨A, c, h1, h2, h3, h5⟩ := h
  refine ⟨A, c, h1, h2, h3, fun hp => ?_⟩
  obtain ⟨b, off, e, hb, hc⟩ := h5 hp
  refine ⟨b, off, e, Nat.lt_of_lt_of_le hb hx.size, fun i hi => ?_⟩
  obtain ⟨vv, va, vr, g1, g2, g3, g4, g5, s1, s2, s3⟩ := hc i hi
  exact ⟨vv, va, vr, (hx.cell (p := ⟨b, _, none⟩) hb).trans g1, (hx.cell (p := ⟨b, _, none⟩) hb).trans g2, (hx.cell (p := ⟨b, _, none⟩) hb).trans g3, (hx.cell (p := ⟨b, _, none⟩) hb).trans g4, (hx.cell (p := ⟨b, _, none⟩) hb).trans g5, s1.ext hx, s2.ext hx, s3.ext hx⟩
theorem SCons.form {w : World} {v : Value} {cs : List Con} (h : SCons w v cs) : ∃ A c, v = .slice A cs.length c ∧ cs.length ≤ c ∧ cs.length ≤ 5864062014805 := by
  obtain ⟨A, c, h1, h2, h3, -⟩ := h
  exact ⟨A, c, h1, h2, by omega⟩
theorem SCons.at_ {w : World} {A : Option Addr} {n c : Nat} {cs : List Con} (h : SCons w (.slice A n c) cs) {k : Nat} (hk : k < cs.length) :
    ∃ b off, A = some ⟨b, off, none⟩ ∧ b < w.heap.size ∧ ∃ vv va vr,
      w.cell? ⟨b, off + k * 5, none⟩ = some (.int .i64 (con0 cs k).kk) ∧ w.cell? ⟨b, off + k * 5 + 1, none⟩ = some vv ∧ w.cell? ⟨b, off + k * 5 + 2, none⟩ = some va ∧
      w.cell? ⟨b, off + k * 5 + 3, none⟩ = some (.int .i64 (con0 cs k).bound) ∧ w.cell? ⟨b, off + k * 5 + 4, none⟩ = some vr ∧
      SInts w vv (con0 cs k).vars ∧ SInts w va (con0 cs k).args ∧ SRows w vr (con0 cs k).rows := by
  obtain ⟨A', c', h1, -, -, h5⟩ := h
  injection h1 with e1 e2 e3
  subst e1
  obtain ⟨b, off, e, hb, hc⟩ := h5 (by omega)
  exact ⟨b, off, e, hb, hc k hk⟩
/-- f answers as p at the constraints. -/
def OnCons (f : Nat) (caps : Array Value) (cs : List Con) (p : Nat → Bool) (w : World) : Prop :=
  ∀ i, i < cs.length → ∀ vv va vr W, Ext w W → SInts W vv (con0 cs i).vars → SInts W va (con0 cs i).args → SRows W vr (con0 cs i).rows →
    Calls Try.prog f (#[.agg #[.int .i64 (con0 cs i).kk, vv, va, .int .i64 (con0 cs i).bound, vr]] ++ caps) W (Ret (.bool (p i)) W)
/-- A constraint is valid for n variables. -/
def vCon (c : Con) (n : Int) : Bool := inR n 1 4 && (inR c.vars.length 1 n && (allR c.vars 0 (n - 1) && (dst c.vars && fitB c.kk c.vars c.args c.bound c.rows)))
/-- A model is valid. -/
def vMod (ds : List Int) (cs : List Con) : Bool := (inR ds.length 1 4 && allR ds 0 63) && (decide (cs.length ≤ 6) && !anyB (fun i => !vCon (con0 cs i) ds.length) cs.length)
end Go.Proofs.Ytdiedghaoleblaa
