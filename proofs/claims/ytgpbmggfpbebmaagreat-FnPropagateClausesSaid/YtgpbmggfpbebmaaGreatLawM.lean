/- The laws' own helpers over constraints and models: sizes, copies, comparisons. -/
import Derived.Test.YtgpbmggfpbebmaaGreatAutB
import Derived.Test.YtgpbmggfpbebmaaGreatPrpZ
import Derived.Test.YtgpbmggfpbebmaaGreatRelZ
import Derived.Test.YtgpbmggfpbebmaaGreatLwsA
namespace Go.Proofs.YtgpbmggfpbebmaaGreat
open Go.RowKit

/-- How many numbers and rows a constraint has. -/
def szC (c : Con) : Nat := c.vars.length + c.args.length + c.rows.length + szR c.rows c.rows.length
def szCs (cs : List Con) : Nat → Nat
  | 0 => 0
  | k + 1 => szCs cs k + szC (con0 cs k)
/-- What is left when m is paid for, or -1. -/
def SzN (m : Nat) (n : Int) (w : World) (e : Ending) (w' : World) : Prop :=
  ∃ r : Int, e = .returned (.int .i64 r) ∧ (r = -1 ∨ 0 ≤ r ∧ r = n - m) ∧ Ext w w'
end Go.Proofs.YtgpbmggfpbebmaaGreat
/- The laws' copies of constraints and models. -/
namespace Go.Proofs.YtgpbmggfpbebmaaGreat
open Go.RowKit

theorem rowTy {W : World} {b : Nat} {t u : TypeId} {n m : Nat} {f g : Nat → Value} (h : W.rowIs b t n f) (k : W.rowIs b u m g) : t = u := by
  obtain ⟨c1, p1, -⟩ := h
  obtain ⟨c2, p2, -⟩ := k
  rw [p1] at p2
  injection p2 with p2
  injection p2 with _ p3
theorem rowNe {W : World} {b b' : Nat} {t u : TypeId} {n m : Nat} {f g : Nat → Value} (h : W.rowIs b t n f) (k : W.rowIs b' u m g) (htu : t ≠ u) : b ≠ b' := fun e => by subst e; exact htu (rowTy h k)
/-- A store into a block of another kind. -/
theorem OwnK.setTy {B0 : Nat} {w : World} {b : Nat} {rs : List (List Int)} {k bo m o : Nat} {t : TypeId} {f : Nat → Value} (h : OwnK B0 w b rs k) (hb : w.rowIs bo t m f) (h1 : t ≠ 3) (h2 : t ≠ 23) (u : Value) : OwnK B0 (w.setCell ⟨bo, o, none⟩ u) b rs k := by
  obtain ⟨g, q1, q2, q3⟩ := h
  refine ⟨g, q1.setOther (rowNe q1 hb (fun e => h2 e.symm)) u, q2, fun i hi => ?_⟩
  obtain ⟨bi, e1, e2, e3, e4⟩ := q3 i hi
  exact ⟨bi, e1, e2, e3, e4.setOther (rowNe e4 hb (fun e => h1 e.symm)) u⟩
/-- A copy of a constraint in new memory. -/
structure CopC (B : Nat) (W : World) (c : Con) (bv ba br : Nat) : Prop where
  gv : B ≤ bv
  ga : B ≤ ba
  gr : B ≤ br
  rv : W.rowIs bv 3 c.vars.length (icell c.vars c.vars.length)
  ra : W.rowIs ba 3 c.args.length (icell c.args c.args.length)
  rr : OwnK B W br c.rows c.rows.length
theorem CopC.ext {B : Nat} {W W' : World} {c : Con} {bv ba br : Nat} (h : CopC B W c bv ba br) (hx : Ext W W') : CopC B W' c bv ba br := ⟨h.gv, h.ga, h.gr, hx.row h.rv, hx.row h.ra, h.rr.ext hx⟩
theorem CopC.setTy {B : Nat} {W : World} {c : Con} {bv ba br bo m o : Nat} {t : TypeId} {f : Nat → Value} (h : CopC B W c bv ba br) (hb : W.rowIs bo t m f) (h1 : t ≠ 3) (h2 : t ≠ 23) (u : Value) : CopC B (W.setCell ⟨bo, o, none⟩ u) c bv ba br :=
  ⟨h.gv, h.ga, h.gr, h.rv.setOther (rowNe h.rv hb (fun e => h1 e.symm)) u, h.ra.setOther (rowNe h.ra hb (fun e => h1 e.symm)) u, h.rr.setTy hb h1 h2 u⟩
theorem CopC.mono {B B' : Nat} {W : World} {c : Con} {bv ba br : Nat} (h : CopC B W c bv ba br) (hb : B' ≤ B) : CopC B' W c bv ba br :=
  ⟨Nat.le_trans hb h.gv, Nat.le_trans hb h.ga, Nat.le_trans hb h.gr, h.rv, h.ra, by
    obtain ⟨g, q1, q2, q3⟩ := h.rr
    refine ⟨g, q1, q2, fun i hi => ?_⟩
    obtain ⟨bi, e1, e2⟩ := q3 i hi
    exact ⟨bi, by omega, e2⟩⟩
/-- The numbers of a constraint are such as came in. -/
def OkCon (c : Con) : Prop := (c.vars.length * 8 ≤ 140737488355328 ∧ ∀ i, i < c.vars.length → I64 (at0 c.vars i)) ∧ (c.args.length * 8 ≤ 140737488355328 ∧ ∀ i, i < c.args.length → I64 (at0 c.args i)) ∧ OkRows c.rows
theorem CopC.vars {B : Nat} {W : World} {c : Con} {bv ba br : Nat} (h : CopC B W c bv ba br) (hk : OkCon c) : SInts W (.slice (some ⟨bv, 0, none⟩) c.vars.length c.vars.length) c.vars := SInts.of_row h.rv hk.1.1 hk.1.2
theorem CopC.args {B : Nat} {W : World} {c : Con} {bv ba br : Nat} (h : CopC B W c bv ba br) (hk : OkCon c) : SInts W (.slice (some ⟨ba, 0, none⟩) c.args.length c.args.length) c.args := SInts.of_row h.ra hk.2.1.1 hk.2.1.2
theorem CopC.rows {B : Nat} {W : World} {c : Con} {bv ba br : Nat} (h : CopC B W c bv ba br) (hk : OkCon c) : SRows W (.slice (some ⟨br, 0, none⟩) c.rows.length c.rows.length) c.rows := h.rr.rows hk.2.2.1 hk.2.2.2.1 hk.2.2.2.2
theorem okCon_of {W : World} {c : Con} {vv va vr : Value} (hV : SInts W vv c.vars) (hA : SInts W va c.args) (hR : SRows W vr c.rows) : OkCon c :=
  ⟨⟨hV.bytes, fun _ hi => hV.i64 hi⟩, ⟨hA.bytes, fun _ hi => hA.i64 hi⟩, hR.ok⟩
def conV (c : Con) (bv ba br : Nat) : Value := .agg #[.int .i64 c.kk, .slice (some ⟨bv, 0, none⟩) c.vars.length c.vars.length, .slice (some ⟨ba, 0, none⟩) c.args.length c.args.length, .int .i64 c.bound, .slice (some ⟨br, 0, none⟩) c.rows.length c.rows.length]
def NewCon (c : Con) (w : World) (e : Ending) (w' : World) : Prop := ∃ bv ba br, e = .returned (conV c bv ba br) ∧ CopC w.heap.size w' c bv ba br ∧ Ext w w'
def zeroC (k : Nat) : Value := if k = 0 then .int .i64 0 else if k = 3 then .int .i64 0 else .slice none 0 0
theorem getD_sm {cs : Array Value} {i : Nat} (hi : i < cs.size) : cs[i]? = some (cs.getD i undef) := by simp [Array.getD_eq_getD_getElem?, hi]
theorem zeroC_at : ∀ i, i < (#[.int .i64 0, .slice none 0 0, .slice none 0 0, .int .i64 0, .slice none 0 0] : Array Value).size → (#[.int .i64 0, .slice none 0 0, .slice none 0 0, .int .i64 0, .slice none 0 0] : Array Value)[i]? = some (zeroC i)
  | 0, _ => rfl
  | 1, _ => rfl
  | 2, _ => rfl
  | 3, _ => rfl
  | 4, _ => rfl
  | n + 5, h => absurd h (by simp)
def zeroK (n : Int) (k : Nat) : Value := if k = 0 then .int .i64 n else if k = 3 then .int .i64 0 else .slice none 0 0
theorem zeroK_at (n : Int) : ∀ i, i < (#[.int .i64 n, .slice none 0 0, .slice none 0 0, .int .i64 0, .slice none 0 0] : Array Value).size → (#[.int .i64 n, .slice none 0 0, .slice none 0 0, .int .i64 0, .slice none 0 0] : Array Value)[i]? = some (zeroK n i)
  | 0, _ => rfl
  | 1, _ => rfl
  | 2, _ => rfl
  | 3, _ => rfl
  | 4, _ => rfl
  | n + 5, h => absurd h (by simp)
/-- The cells of constraint i. -/
structure ConAt (B : Nat) (W : World) (F : Nat → Value) (c : Con) (i : Nat) : Prop where
  ex : ∃ bv ba br, F (i * 5) = .int .i64 c.kk ∧ F (i * 5 + 1) = .slice (some ⟨bv, 0, none⟩) c.vars.length c.vars.length ∧ F (i * 5 + 2) = .slice (some ⟨ba, 0, none⟩) c.args.length c.args.length ∧ F (i * 5 + 3) = .int .i64 c.bound ∧ F (i * 5 + 4) = .slice (some ⟨br, 0, none⟩) c.rows.length c.rows.length ∧ CopC B W c bv ba br
theorem ConAt.ext {B : Nat} {W W' : World} {F : Nat → Value} {c : Con} {i : Nat} (h : ConAt B W F c i) (hx : Ext W W') : ConAt B W' F c i := by
  obtain ⟨bv, ba, br, h0, h1, h2, h3, h4, h5⟩ := h.ex
  exact ⟨bv, ba, br, h0, h1, h2, h3, h4, h5.ext hx⟩
/-- A copy of constraints in new memory. -/
def NewCons (cs : List Con) (w : World) (e : Ending) (w' : World) : Prop := ∃ bo F, w.heap.size ≤ bo ∧ e = .returned (.slice (some ⟨bo, 0, none⟩) cs.length cs.length) ∧ w'.rowIs bo 67 (cs.length * 5) F ∧ (∀ i, i < cs.length → ConAt w.heap.size w' F (con0 cs i) i) ∧ Ext w w'
def OkCons (cs : List Con) : Prop := cs.length * 88 ≤ 140737488355328 ∧ ∀ i, i < cs.length → OkCon (con0 cs i)
theorem SCons.ok {w : World} {v : Value} {cs : List Con} (h : SCons w v cs) : OkCons cs := by
  obtain ⟨A, c, h1, h2, h3, h5⟩ := h
  refine ⟨h3, fun i hi => ?_⟩
  obtain ⟨b, off, e, hb, hc⟩ := h5 (by omega)
  obtain ⟨vv, va, vr, g1, g2, g3, g4, g5, s1, s2, s3⟩ := hc i hi
  exact okCon_of s1 s2 s3
theorem NewCons.scons {cs : List Con} {B : Nat} {w' : World} {bo : Nat} {F : Nat → Value} (hk : OkCons cs) (hr : w'.rowIs bo 67 (cs.length * 5) F) (hc : ∀ i, i < cs.length → ConAt B w' F (con0 cs i) i) : SCons w' (.slice (some ⟨bo, 0, none⟩) cs.length cs.length) cs := by
  refine ⟨_, _, rfl, Nat.le_refl _, hk.1, fun _ => ⟨bo, 0, rfl, hr.lt, fun i hi => ?_⟩⟩
  obtain ⟨bv, ba, br, e0, e1, e2, e3, e4, h⟩ := (hc i hi).ex
  have ok := hk.2 i hi
  refine ⟨_, _, _, ?_, ?_, ?_, ?_, ?_, h.vars ok, h.args ok, h.rows ok⟩
  · rw [Nat.zero_add, hr.cell (by omega), e0]
  · rw [Nat.zero_add, hr.cell (by omega), e1]
  · rw [Nat.zero_add, hr.cell (by omega), e2]
  · rw [Nat.zero_add, hr.cell (by omega), e3]
  · rw [Nat.zero_add, hr.cell (by omega), e4]
theorem Tryz.infoC : (Tryz.prog.info? 67).map (fun i => (i.zero, i.size, i.bytes)) = some (some (.agg #[.int .i64 0, .slice none 0 0, .slice none 0 0, .int .i64 0, .slice none 0 0]), 5, 88) := by kernel_rfl
end Go.Proofs.YtgpbmggfpbebmaaGreat
/- The laws' copies of models. -/
namespace Go.Proofs.YtgpbmggfpbebmaaGreat
open Go.RowKit

theorem ConAt.setTy {B : Nat} {W : World} {F : Nat → Value} {c : Con} {i bo m o : Nat} {t : TypeId} {f : Nat → Value} (h : ConAt B W F c i) (hb : W.rowIs bo t m f) (h1 : t ≠ 3) (h2 : t ≠ 23) (u : Value) : ConAt B (W.setCell ⟨bo, o, none⟩ u) F c i := by
  obtain ⟨bv, ba, br, e0, e1, e2, e3, e4, h5⟩ := h.ex
  exact ⟨bv, ba, br, e0, e1, e2, e3, e4, h5.setTy hb h1 h2 u⟩
/-- A model's copy: the domains at block bd, the constraints at block bo. -/
structure CopM (B : Nat) (W : World) (ds : List Int) (cs : List Con) (bd bo : Nat) (F : Nat → Value) : Prop where
  gd : B ≤ bd
  go : B ≤ bo
  rd : W.rowIs bd 3 ds.length (icell ds ds.length)
  ro : W.rowIs bo 67 (cs.length * 5) F
  ca : ∀ i, i < cs.length → ConAt B W F (con0 cs i) i
def modV (ds : List Int) (cs : List Con) (bd bo : Nat) : Value := .agg #[.slice (some ⟨bd, 0, none⟩) ds.length ds.length, .slice (some ⟨bo, 0, none⟩) cs.length cs.length]
theorem CopM.ext {B : Nat} {W W' : World} {ds : List Int} {cs : List Con} {bd bo : Nat} {F : Nat → Value} (h : CopM B W ds cs bd bo F) (hx : Ext W W') : CopM B W' ds cs bd bo F :=
  ⟨h.gd, h.go, hx.row h.rd, hx.row h.ro, fun i hi => (h.ca i hi).ext hx⟩
def OkMod (ds : List Int) (cs : List Con) : Prop := (ds.length * 8 ≤ 140737488355328 ∧ ∀ i, i < ds.length → I64 (at0 ds i)) ∧ OkCons cs
theorem SMod.ok {w : World} {v : Value} {ds : List Int} {cs : List Con} (h : SMod w v ds cs) : OkMod ds cs := by
  obtain ⟨vd, vc, -, h2, h3⟩ := h
  exact ⟨⟨h2.bytes, fun _ hi => h2.i64 hi⟩, h3.ok⟩
theorem CopM.smod {B : Nat} {W : World} {ds : List Int} {cs : List Con} {bd bo : Nat} {F : Nat → Value} (h : CopM B W ds cs bd bo F) (hk : OkMod ds cs) : SMod W (modV ds cs bd bo) ds cs :=
  ⟨_, _, rfl, SInts.of_row h.rd hk.1.1 hk.1.2, NewCons.scons hk.2 h.ro h.ca⟩
def NewMod (ds : List Int) (cs : List Con) (w : World) (e : Ending) (w' : World) : Prop := ∃ bd bo F, e = .returned (modV ds cs bd bo) ∧ CopM w.heap.size w' ds cs bd bo F ∧ Ext w w'
theorem nil2_at : ∀ i, i < (#[.slice none 0 0, .slice none 0 0] : Array Value).size → (#[.slice none 0 0, .slice none 0 0] : Array Value)[i]? = some ((fun _ => .slice none 0 0) i : Value)
  | 0, _ => rfl
  | 1, _ => rfl
  | n + 2, h => absurd h (by simp)
end Go.Proofs.YtgpbmggfpbebmaaGreat
/- Words for the walks of the exact laws. -/
namespace Go.Proofs.YtgpbmggfpbebmaaGreat
open Go.RowKit

/-- A word on one value. -/
def RS.p (D : List Nat) (ψ : Value → World → Prop) (h : ∀ v W W', ψ v W → Ext W W' → ψ v W') : RS := ⟨D, fun _ v W => ψ v W, fun _ v W W' h' hx => h v W W' h' hx⟩
theorem CopC.scon {B : Nat} {W : World} {c : Con} {bv ba br : Nat} (h : CopC B W c bv ba br) (hk : OkCon c) : SCon W (conV c bv ba br) c := ⟨_, _, _, rfl, h.vars hk, h.args hk, h.rows hk⟩
end Go.Proofs.YtgpbmggfpbebmaaGreat
/- Marking a model of the law's own. -/
namespace Go.Proofs.YtgpbmggfpbebmaaGreat
open Go.RowKit

theorem Keep.ofG {w w' : World} {r : Option Nat} (h : w.grownBy w' r) : Keep (fun k => r ≠ some k) w w' := ⟨h.os, h.tape, h.output, h.size, fun k hk hs => h.block k hk (fun e => hs e.symm)⟩
/-- Only what lies in the blocks B .. E - 1 may have changed; rows of numbers are rows of numbers still; what leads to them is as it was. -/
structure MkS (B E : Nat) (W W' : World) : Prop where
  keep : Keep (fun k => k < B ∨ E ≤ k) W W'
  ints : ∀ b n f, W.rowIs b 3 n f → ∃ f', W'.rowIs b 3 n f'
  hdrs : ∀ b n f, W.rowIs b 23 n f → W'.rowIs b 23 n f
  cons : ∀ b n f, W.rowIs b 67 n f → ∃ f', W'.rowIs b 67 n f' ∧ ∀ j, j % 5 ≠ 0 → j % 5 ≠ 3 → f' j = f j
theorem MkS.refl (B E : Nat) (W : World) : MkS B E W W := ⟨Keep.refl _ _, fun _ _ f h => ⟨f, h⟩, fun _ _ _ h => h, fun _ _ f h => ⟨f, h, fun _ _ _ => rfl⟩⟩
theorem MkS.trans {B E : Nat} {W W' W'' : World} (h : MkS B E W W') (k : MkS B E W' W'') : MkS B E W W'' := by
  refine ⟨h.keep.trans k.keep, fun b n f hr => ?_, fun b n f hr => k.hdrs b n f (h.hdrs b n f hr), fun b n f hr => ?_⟩
  · obtain ⟨f1, h1⟩ := h.ints b n f hr
    exact k.ints b n f1 h1
  · obtain ⟨f1, h1, e1⟩ := h.cons b n f hr
    obtain ⟨f2, h2, e2⟩ := k.cons b n f1 h1
    exact ⟨f2, h2, fun j j0 j3 => (e2 j j0 j3).trans (e1 j j0 j3)⟩
theorem MkS.setCon {B E : Nat} {W : World} {bo m j : Nat} {F : Nat → Value} (hr : W.rowIs bo 67 m F) (hb : B ≤ bo) (he : bo < E) (hj : j % 5 = 0 ∨ j % 5 = 3) (u : Value) : MkS B E W (W.setCell ⟨bo, j, none⟩ u) := by
  refine ⟨(Keep.refl _ _).set (fun _ h => by have h : bo < B ∨ E ≤ bo := h; omega) u, fun b n f h => ⟨f, h.setOther (rowNe h hr (by decide)) u⟩, fun b n f h => h.setOther (rowNe h hr (by decide)) u, fun b n f h => ?_⟩
  by_cases e : b = bo
  · subst e
    refine ⟨_, h.set j u, fun i i0 i3 => ?_⟩
    show (if i = j then _ else _) = _
    rw [if_neg (fun e => by subst e; omega)]
  · exact ⟨f, h.setOther e u, fun _ _ _ => rfl⟩
theorem rowLen {W : World} {b n m : Nat} {t : TypeId} {f g : Nat → Value} (h : W.rowIs b t n f) (k : W.rowIs b t m g) : n = m := by
  obtain ⟨x1, y1, z1, -⟩ := h
  obtain ⟨x2, y2, z2, -⟩ := k
  rw [y2] at y1
  injection y1 with y1
  injection y1 with y1 _
  rw [← z1, ← z2, y1]
theorem MkS.ofMarked {B E : Nat} {W W' : World} {r k0 : Int} {b n m : Nat} {f : Nat → Value} {e : Ending} (hr : W.rowIs b 3 m f) (hb : B ≤ b) (he : b < E) (hm : Marked r k0 b 3 n m f W e W') : MkS B E W W' := by
  obtain ⟨-, hg, hro⟩ := hm
  have hoff : ∀ b', b' ≠ b → ∀ {t : TypeId} {n : Nat} {f : Nat → Value}, W.rowIs b' t n f → W'.rowIs b' t n f := fun b' hb' _ _ _ h9 => upd_row hg h9 (fun _ => hb')
  refine ⟨Keep.mono (Keep.ofG hg) (fun k _ hk e => ?_), fun b' n' f' h => ?_, fun b' n' f' h => hoff b' (rowNe h hr (by decide)) h, fun b' n' f' h => ⟨f', hoff b' (rowNe h hr (by decide)) h, fun _ _ _ => rfl⟩⟩
  · unfold rowOf at e
    split at e
    · cases e
    · injection e with e; have hk : k < B ∨ E ≤ k := hk; omega
  · by_cases e : b' = b
    · subst e
      by_cases h0 : 0 < n
      · have := rowLen h hr
        subst this
        exact ⟨_, hro h0⟩
      · rw [rowOf, if_pos (by omega)] at hg
        exact ⟨f', h.of_block (hg.block _ h.lt (by simp))⟩
    · exact ⟨f', hoff b' e h⟩
/-- Rows of numbers that may be marked. -/
def ShI (B E : Nat) (W : World) (n b : Nat) : Prop := B ≤ b ∧ b < E ∧ ∃ f, W.rowIs b 3 n f
def ShR (B E : Nat) (W : World) (rs : List (List Int)) (br : Nat) : Prop := ∃ g, W.rowIs br 23 rs.length g ∧ ∀ i, i < rs.length → ∃ bi, g i = .slice (some ⟨bi, 0, none⟩) (rw0 rs i).length (rw0 rs i).length ∧ ShI B E W (rw0 rs i).length bi
theorem ShI.step {B E : Nat} {W W' : World} {n b : Nat} (h : ShI B E W n b) (k : MkS B E W W') : ShI B E W' n b := by
  obtain ⟨h1, h2, f, h3⟩ := h
  obtain ⟨f', h4⟩ := k.ints b n f h3
  exact ⟨h1, h2, f', h4⟩
theorem ShR.step {B E : Nat} {W W' : World} {rs : List (List Int)} {br : Nat} (h : ShR B E W rs br) (k : MkS B E W W') : ShR B E W' rs br := by
  obtain ⟨g, h1, h2⟩ := h
  refine ⟨g, k.hdrs _ _ _ h1, fun i hi => ?_⟩
  obtain ⟨bi, e, h3⟩ := h2 i hi
  exact ⟨bi, e, h3.step k⟩
/-- The marks have been made: k1 comes next. -/
def MkE (B E : Nat) (k0 : Int) (sz : Nat) (W : World) (e : Ending) (W' : World) : Prop := ∃ k1 : Int, e = .returned (.int .i64 k1) ∧ k0 ≤ k1 ∧ k1 ≤ k0 + sz ∧ MkS B E W W'
theorem szR_le2 {rs : List (List Int)} : ∀ {k n : Nat}, k ≤ n → szR rs k ≤ szR rs n := by
  intro k n h
  induction n with
  | zero =>
    obtain rfl : k = 0 := by omega
    exact Nat.le_refl _
  | succ n ih =>
    by_cases e : k = n + 1
    · subst e; exact Nat.le_refl _
    · have := ih (by omega); rw [szR]; omega
/-- Constraints that may be marked. -/
def ShC (B E : Nat) (W : World) (c : Con) (F : Nat → Value) (i : Nat) : Prop := ∃ bv ba br, F (i * 5 + 1) = .slice (some ⟨bv, 0, none⟩) c.vars.length c.vars.length ∧ F (i * 5 + 2) = .slice (some ⟨ba, 0, none⟩) c.args.length c.args.length ∧ F (i * 5 + 4) = .slice (some ⟨br, 0, none⟩) c.rows.length c.rows.length ∧
  ShI B E W c.vars.length bv ∧ ShI B E W c.args.length ba ∧ ShR B E W c.rows br
def ShS (B E : Nat) (W : World) (cs : List Con) (bo : Nat) : Prop := B ≤ bo ∧ bo < E ∧ ∃ F, W.rowIs bo 67 (cs.length * 5) F ∧ ∀ i, i < cs.length → ShC B E W (con0 cs i) F i
theorem ShS.step {B E : Nat} {W W' : World} {cs : List Con} {bo : Nat} (h : ShS B E W cs bo) (k : MkS B E W W') : ShS B E W' cs bo := by
  obtain ⟨h1, h2, F, hr, hc⟩ := h
  obtain ⟨F', hr', he⟩ := k.cons _ _ _ hr
  refine ⟨h1, h2, F', hr', fun i hi => ?_⟩
  obtain ⟨bv, ba, br, e1, e2, e4, s1, s2, s3⟩ := hc i hi
  exact ⟨bv, ba, br, (he _ (by omega) (by omega)).trans e1, (he _ (by omega) (by omega)).trans e2, (he _ (by omega) (by omega)).trans e4, s1.step k, s2.step k, s3.step k⟩
theorem szCs_le {cs : List Con} : ∀ {k n : Nat}, k ≤ n → szCs cs k ≤ szCs cs n := by
  intro k n h
  induction n with
  | zero =>
    obtain rfl : k = 0 := by omega
    exact Nat.le_refl _
  | succ n ih =>
    by_cases e : k = n + 1
    · subst e; exact Nat.le_refl _
    · have := ih (by omega); rw [szCs]; omega
end Go.Proofs.YtgpbmggfpbebmaaGreat
