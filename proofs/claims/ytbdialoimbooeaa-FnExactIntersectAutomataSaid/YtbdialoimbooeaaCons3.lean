/- Constraints and models: how they read; slices.ContainsFunc over constraints; whether they are valid. -/
import Derived.Test.YtbdialoimbooeaaCons2
namespace Go.Proofs.Ytbdialoimbooeaa
open Go.RowKit

/-- A constraint. -/
structure Con where
  kk : Int
  vars : List Int
  args : List Int
  bound : Int
  rows : List (List Int)
def con0 (cs : List Con) (i : Nat) : Con := cs.getD i ⟨0, [], [], 0, []⟩
/-- v is a slice whose cells read as the constraints cs. -/
def SCons (w : World) (v : Value) (cs : List Con) : Prop :=
  ∃ A c, v = .slice A cs.length c ∧ cs.length ≤ c ∧ cs.length * 88 ≤ 140737488355328 ∧
    (0 < cs.length → ∃ b off, A = some ⟨b, off, none⟩ ∧ b < w.heap.size ∧ ∀ i, i < cs.length → ∃ vv va vr,
      w.cell? ⟨b, off + i * 5, none⟩ = some (.int .i64 (con0 cs i).kk) ∧ w.cell? ⟨b, off + i * 5 + 1, none⟩ = some vv ∧ w.cell? ⟨b, off + i * 5 + 2, none⟩ = some va ∧
      w.cell? ⟨b, off + i * 5 + 3, none⟩ = some (.int .i64 (con0 cs i).bound) ∧ w.cell? ⟨b, off + i * 5 + 4, none⟩ = some vr ∧
      SInts w vv (con0 cs i).vars ∧ SInts w va (con0 cs i).args ∧ SRows w vr (con0 cs i).rows)
theorem SCons.ext {w w' : World} {v : Value} {cs : List Con} (h : SCons w v cs) (hx : Ext w w') : SCons w' v cs := by
  obtain ⟨A, c, h1, h2, h3, h5⟩ := h
  refine ⟨A, c, h1, h2, h3, fun hp => ?_⟩
  obtain ⟨b, off, e, hb, hc⟩ := h5 hp
  refine ⟨b, off, e, Nat.lt_of_lt_of_le hb hx.size, fun i hi => ?_⟩
  obtain ⟨vv, va, vr, g1, g2, g3, g4, g5, s1, s2, s3⟩ := hc i hi
  exact ⟨vv, va, vr, (hx.cell (p := ⟨b, _, none⟩) hb).trans g1, (hx.cell (p := ⟨b, _, none⟩) hb).trans g2, (hx.cell (p := ⟨b, _, none⟩) hb).trans g3, (hx.cell (p := ⟨b, _, none⟩) hb).trans g4, (hx.cell (p := ⟨b, _, none⟩) hb).trans g5, s1.ext hx, s2.ext hx, s3.ext hx⟩
theorem SCons.form {w : World} {v : Value} {cs : List Con} (h : SCons w v cs) : ∃ A c, v = .slice A cs.length c ∧ cs.length ≤ c ∧ cs.length ≤ 5864062014805 := by
  obtain ⟨A, c, h1, h2, h3, -⟩ := h
  exact ⟨A, c, h1, h2, by omega⟩
theorem SCons.at_ {w : World} {A : Option Addr} {n c : Nat} {cs : List Con} (h : SCons w (.slice A n c) cs) {k : Nat} (hk : k < cs.length) :
    ∃ b off, A = some ⟨b, off, none⟩ ∧ b < w.heap.size ∧ ∃ vv va vr,
      w.cell? ⟨b, off + k * 5, none⟩ = some (.int .i64 (con0 cs k).kk) ∧ w.cell? ⟨b, off + k * 5 + 1, none⟩ = some vv ∧ w.cell? ⟨b, off + k * 5 + 2, none⟩ = some va ∧
      w.cell? ⟨b, off + k * 5 + 3, none⟩ = some (.int .i64 (con0 cs k).bound) ∧ w.cell? ⟨b, off + k * 5 + 4, none⟩ = some vr ∧
      SInts w vv (con0 cs k).vars ∧ SInts w va (con0 cs k).args ∧ SRows w vr (con0 cs k).rows := by
  obtain ⟨A', c', h1, -, -, h5⟩ := h
  injection h1 with e1 e2 e3
  subst e1
  obtain ⟨b, off, e, hb, hc⟩ := h5 (by omega)
  exact ⟨b, off, e, hb, hc k hk⟩
/-- f answers as p at the constraints. -/
def OnCons (f : Nat) (caps : Array Value) (cs : List Con) (p : Nat → Bool) (w : World) : Prop :=
  ∀ i, i < cs.length → ∀ vv va vr W, Ext w W → SInts W vv (con0 cs i).vars → SInts W va (con0 cs i).args → SRows W vr (con0 cs i).rows →
    Calls Try.prog f (#[.agg #[.int .i64 (con0 cs i).kk, vv, va, .int .i64 (con0 cs i).bound, vr]] ++ caps) W (Ret (.bool (p i)) W)
/-- A constraint is valid for n variables. -/
def vCon (c : Con) (n : Int) : Bool := inR n 1 4 && (inR c.vars.length 1 n && (allR c.vars 0 (n - 1) && (dst c.vars && fitB c.kk c.vars c.args c.bound c.rows)))
/-- A model is valid. -/
def vMod (ds : List Int) (cs : List Con) : Bool := (inR ds.length 1 4 && allR ds 0 63) && (decide (cs.length ≤ 6) && !anyB (fun i => !vCon (con0 cs i) ds.length) cs.length)
end Go.Proofs.Ytbdialoimbooeaa
