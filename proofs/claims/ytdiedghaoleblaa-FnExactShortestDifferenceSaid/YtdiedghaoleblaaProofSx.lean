/- Automata that come to a law whose result is a word: copies, marks, the value of ShortestDifference. -/
import Derived.Test.YtdiedghaoleblaaQ21
import Derived.Test.YtdiedghaoleblaaLawMark
import Derived.Test.YtdiedghaoleblaaRelZ
import Derived.Test.YtdiedghaoleblaaOpnA
import Derived.Test.YtdiedghaoleblaaOpensR
import Derived.ShutString
import Derived.ChangeOld
namespace Go.Proofs.Ytdiedghaoleblaa
open Go.RowKit

/-- An automaton in memory. -/
def SAu (W : World) (v : Value) (x : Au) : Prop := ∃ vn vf, v = .agg #[vn, vf] ∧ SRows W vn x.next ∧ SInts W vf x.final
theorem SAu.ext {W W' : World} {v : Value} {x : Au} (h : SAu W v x) (hx : Ext W W') : SAu W' v x := by
  obtain ⟨vn, vf, h1, h2, h3⟩ := h
  exact ⟨vn, vf, h1, h2.ext hx, h3.ext hx⟩
/-- Numbers and lengths are such as came in. -/
def OkAu (x : Au) : Prop := OkRows x.next ∧ x.final.length * 8 ≤ 140737488355328 ∧ ∀ i, i < x.final.length → I64 (at0 x.final i)
theorem SAu.ok {W : World} {v : Value} {x : Au} (h : SAu W v x) : OkAu x := by
  obtain ⟨vn, vf, h1, h2, h3⟩ := h
  exact ⟨h2.ok, h3.bytes, fun i hi => h3.i64 hi⟩
def autV (x : Au) (b b' : Nat) : Value := .agg #[.slice (some ⟨b, 0, none⟩) x.next.length x.next.length, .slice (some ⟨b', 0, none⟩) x.final.length x.final.length]
/-- A copy of an automaton. -/
structure CopA (B : Nat) (W : World) (x : Au) (b b' : Nat) : Prop where
  rows : OwnK B W b x.next x.next.length
  fin : W.rowIs b' 3 x.final.length (icell x.final x.final.length)
  hb : B ≤ b
  hb' : B ≤ b'
theorem CopA.sau {B : Nat} {W : World} {x : Au} {b b' : Nat} (h : CopA B W x b b') (ho : OkAu x) : SAu W (autV x b b') x :=
  ⟨_, _, rfl, h.rows.rows ho.1.1 ho.1.2.1 ho.1.2.2, SInts.of_row h.fin ho.2.1 ho.2.2⟩
theorem toAutomatonS_any (v : Value) (x : Au) (w : World) (h : SAu w v x) : Calls Try.prog 29 #[v] w (fun e w' => ∃ b b', e = .returned (autV x b b') ∧ CopA w.heap.size w' x b b' ∧ Ext w w') := by
  obtain ⟨vn, vf, rfl, h1, h2⟩ := h
  refine (toAutomaton_any vn vf x w h1 h2).mono ?_
  rintro e w' ⟨b, b', q1, q2, rfl, q3, q4, q5⟩
  exact ⟨b, b', rfl, ⟨q3, q4, q1, q2⟩, q5⟩
theorem szAutomatonS_any (v : Value) (x : Au) (n : Int) (w : World) (h : SAu w v x) (h1 : 0 ≤ n) (h2 : n ≤ 1048576) : Calls Try.prog 28 #[v, .int .i64 n] w (fun e w' => ∃ r : Int, e = .returned (.int .i64 r) ∧ (r = -1 ∨ 0 ≤ r ∧ r ≤ n ∧ (x.next.length : Int) ≤ 1048576 ∧ (szR x.next x.next.length : Int) ≤ 1048576 ∧ (x.final.length : Int) ≤ 1048576) ∧ Ext w w') := by
  obtain ⟨vn, vf, rfl, q1, q2⟩ := h
  refine (szAutomaton2_any vn vf x n w q1 q2 h1 h2).mono ?_
  rintro e w' ⟨r, rfl, hr, hx⟩
  refine ⟨r, rfl, ?_, hx⟩
  rcases hr with hr | ⟨r1, r2, r3, r4, r5⟩
  · exact .inl hr
  · exact .inr ⟨r1, r5, by omega, by omega, by omega⟩
theorem eqAutomatonS_same (v v' : Value) (x : Au) (w : World) (h : SAu w v x) (h' : SAu w v' x) : Calls Try.prog 31 #[v, v'] w (Ret (.bool true) w) := by
  obtain ⟨vn, vf, rfl, q1, q2⟩ := h
  obtain ⟨vn', vf', rfl, q3, q4⟩ := h'
  exact eqAutomaton_same _ _ _ _ x w q1 q2 q3 q4
/-- A copy that may be marked: its blocks lie from B up to E. -/
def ShA (B E : Nat) (W : World) (x : Au) (b b' : Nat) : Prop :=
  ∃ kb, MkW W (some ⟨b, 0, none⟩) x.next kb ∧ MkF W (some ⟨b', 0, none⟩) b' x.final.length ∧ (∀ i, i < x.next.length → B ≤ kb i ∧ kb i < E) ∧ (B ≤ b ∧ b < E) ∧ (B ≤ b' ∧ b' < E) ∧ E ≤ W.heap.size
theorem CopA.sh {B : Nat} {W : World} {x : Au} {b b' : Nat} (h : CopA B W x b b') : ShA B W.heap.size W x b b' := by
  obtain ⟨g, h1, -, h3⟩ := h.rows
  obtain ⟨kb, hkb⟩ := exists_fun h3
  exact ⟨kb, ⟨fun hp => ⟨b, _, g, rfl, h1, Nat.le_refl _, fun i hi => ⟨_, (hkb i hi).2.2.1⟩⟩, fun i hi => ⟨_, _, Nat.le_refl _, (hkb i hi).2.2.2⟩⟩, fun hp => ⟨rfl, _, _, Nat.le_refl _, h.fin⟩, fun i hi => ⟨(hkb i hi).1, (hkb i hi).2.2.2.lt⟩, ⟨h.hb, h1.lt⟩, ⟨h.hb', h.fin.lt⟩, Nat.le_refl _⟩
theorem ShA.ext {B E : Nat} {W W' : World} {x : Au} {b b' : Nat} (h : ShA B E W x b b') (hx : Ext W W') : ShA B E W' x b b' := by
  obtain ⟨kb, h1, h2, h3, h4, h5, h6⟩ := h
  exact ⟨kb, h1.ext hx, fun hp => by obtain ⟨e, m, f, q1, q2⟩ := h2 hp; exact ⟨e, m, f, q1, hx.row q2⟩, h3, h4, h5, Nat.le_trans h6 hx.size⟩
theorem ShA.kp {B E : Nat} {W W' : World} {x : Au} {b b' : Nat} {S : Nat → Prop} (h : ShA B E W x b b') (hk : Keep S W W') (hS : ∀ k, B ≤ k → k < E → S k) : ShA B E W' x b b' := by
  obtain ⟨kb, h1, h2, h3, h4, h5, h6⟩ := h
  refine ⟨kb, h1.keep (b' := b') (nf := x.final.length) (hk.mono (fun k _ hb => ?_)), fun hp => by obtain ⟨e, m, f, q1, q2⟩ := h2 hp; exact ⟨e, m, f, q1, hk.row (hS _ h5.1 h5.2) q2⟩, h3, h4, h5, Nat.le_trans h6 hk.size⟩
  rcases hb with ⟨i, hi, rfl⟩ | ⟨hp, g', e, rfl⟩ | ⟨hp, rfl⟩
  · exact hS _ (h3 i hi).1 (h3 i hi).2
  · injection e with e; injection e with e; subst e; exact hS _ h4.1 h4.2
  · exact hS _ h5.1 h5.2
theorem markA_any {B E : Nat} {W : World} {x : Au} {b b' : Nat} (h : ShA B E W x b b') (k0 : Int) (hk0 : 0 ≤ k0) (hk1 : k0 ≤ 5000000) (h1 : (x.next.length : Int) ≤ 1048576) (h2 : (szR x.next x.next.length : Int) ≤ 1048576) (h3 : (x.final.length : Int) ≤ 1048576) :
    Calls Try.prog 32 #[autV x b b', .int .i64 k0] W (fun e W' => ∃ k1 : Int, e = .returned (.int .i64 k1) ∧ 0 ≤ k1 ∧ k1 ≤ k0 + 2097152 ∧ Keep (fun k => k < B ∨ E ≤ k) W W') := by
  obtain ⟨kb, q1, q2, q3, q4, q5, q6⟩ := h
  refine (markAutomaton_any _ _ _ _ x.next x.final.length kb b' k0 W q1 q2 hk0 (by omega) (by omega) (by omega) (by omega) (fun i hi => Nat.lt_of_lt_of_le (q3 i hi).2 q6) (fun _ => Nat.lt_of_lt_of_le q5.2 q6)).mono ?_
  rintro e W' ⟨rfl, hk, -⟩
  refine ⟨_, rfl, by omega, by omega, hk.mono (fun k _ hb => ⟨fun i hi e => ?_, fun _ e => ?_⟩)⟩
  · have := q3 i hi
    omega
  · omega
theorem OwnC.kpA {S : Nat → Prop} {w w' : World} {A : Option Addr} {b m : Nat} {f : Nat → Value} {xs : List Int} (h : OwnC w A b m f xs) (hk : Keep S w w') (hb : S b) : OwnC w' A b m f xs :=
  fun hp => ⟨(h hp).1, hk.row hb (h hp).2.1, (h hp).2.2⟩

def RS.pA (D : List Nat) (ψ : Value → World → Prop) (h : ∀ v W W', ψ v W → Ext W W' → ψ v W') : RS := ⟨D, fun _ v W => ψ v W, fun _ v W W' h' hx => h v W W' h' hx⟩

/-! ### the value as a function -/
open Classical in
/-- What ShortestDifference finds. -/
noncomputable def sdB (a b : Au) : Bool := if h : ∃ p : Bool × List Int, SdX a b p.1 p.2 then h.choose.1 else false
open Classical in
noncomputable def sdL (a b : Au) : List Int := if h : ∃ p : Bool × List Int, SdX a b p.1 p.2 then h.choose.2 else []
theorem SdX.eqs {a b : Au} {ok : Bool} {ws : List Int} (h : SdX a b ok ws) : ok = sdB a b ∧ ws = sdL a b := by
  have he : ∃ p : Bool × List Int, SdX a b p.1 p.2 := ⟨(ok, ws), h⟩
  unfold sdB sdL
  rw [dif_pos he, dif_pos he]
  exact h.uniq he.choose_spec
theorem sdL_ok (a b : Au) : (sdL a b).length ≤ 100 ∧ ∀ j, j < (sdL a b).length → I64 (at0 (sdL a b) j) := by
  by_cases he : ∃ p : Bool × List Int, SdX a b p.1 p.2
  · unfold sdL
    rw [dif_pos he]
    exact ⟨he.choose_spec.wd.2, he.choose_spec.i64⟩
  · unfold sdL
    rw [dif_neg he]
    exact ⟨by simp, fun j hj => absurd hj (by simp)⟩
theorem sdS_any (v v' : Value) (a b : Au) (w : World) (h : SAu w v a) (h' : SAu w v' b) :
    Calls Try.prog 26 #[v, v'] w (fun e w' => ∃ A c, e = .returned (.tuple #[.slice A (sdL a b).length c, .bool (sdB a b)]) ∧ SInts w' (.slice A (sdL a b).length c) (sdL a b) ∧ Ext w w') := by
  obtain ⟨vn, vf, rfl, q1, q2⟩ := h
  obtain ⟨vn', vf', rfl, q3, q4⟩ := h'
  refine (ShortestDifferenceS_any _ _ _ _ a b w q1 q2 q3 q4).mono ?_
  rintro e w' ⟨ok, ws, A, c, hX, rfl, hS, hx⟩
  obtain ⟨e1, e2⟩ := hX.eqs
  subst e1 e2
  exact ⟨A, c, rfl, hS, hx⟩
theorem sdI_any (v v' : Value) (a b : Au) (w : World) (h : SAu w v a) (h' : SAu w v' b) :
    Calls Try.prog 14 #[v, v'] w (fun e w' => ∃ A c b' m f, e = .returned (.tuple #[.slice A (sdL a b).length c, .bool (sdB a b)]) ∧ (sdL a b).length ≤ c ∧ (sdL a b).length * 8 ≤ 140737488355328 ∧ w.heap.size ≤ b' ∧ OwnC w' A b' m f (sdL a b) ∧ Ext w w') := by
  obtain ⟨vn, vf, rfl, q1, q2⟩ := h
  obtain ⟨vn', vf', rfl, q3, q4⟩ := h'
  refine (ShortestDifferenceI_any _ _ _ _ a b w q1 q2 q3 q4).mono ?_
  rintro e w' ⟨ok, ws, v, hX, rfl, A, c, b', m, f, h1, h2, h3, h4, h5, h6⟩
  injection h1 with h1
  subst h1
  obtain ⟨e1, e2⟩ := hX.eqs
  subst e1 e2
  exact ⟨A, c, b', m, f, rfl, h2, h3, h4, h5, h6⟩
end Go.Proofs.Ytdiedghaoleblaa
/- The law's walk: FnExactShortestDifference returns true. -/
namespace Go.Proofs.Ytdiedghaoleblaa
open Go.RowKit
attribute [local go_sem] evalOf

/-- What the reference returned. -/
def RS.soFnExactShortestDifference (D : List Nat) (xs0 : List Int) (ok : Bool) : RS := ⟨D, fun _ v W => ∃ A c, v = .tuple #[.slice A xs0.length c, .bool ok] ∧ SInts W (.slice A xs0.length c) xs0, fun _ _ _ _ ⟨A, c, h1, h2⟩ hx => ⟨A, c, h1, SInts.ext h2 hx⟩⟩
/-- What the program returned. -/
def RS.ioFnExactShortestDifference (D : List Nat) (w0 : World) (xs0 : List Int) (ok : Bool) : RS := ⟨D, fun _ v W => ∃ A c b m f, v = .tuple #[.slice A xs0.length c, .bool ok] ∧ xs0.length ≤ c ∧ w0.heap.size ≤ b ∧ OwnC W A b m f xs0, fun _ _ _ _ ⟨A, c, b, m, f, h1, h2, h3, h4⟩ hx => ⟨A, c, b, m, f, h1, h2, h3, OwnC.ext h4 hx⟩⟩
def RS.mvFnExactShortestDifference (D : List Nat) : RS := ⟨D, fun vs v _ => v = vs.getD 0 undef ∧ ∃ x y, v = .tuple #[x, y], fun _ _ _ _ h _ => h⟩
def fstFnExactShortestDifference : Value → Value
  | .tuple #[x, _] => x
  | _ => undef
def sndFnExactShortestDifference : Value → Value
  | .tuple #[_, y] => y
  | _ => undef
set_option maxRecDepth 100000 in
set_option maxHeartbeats 32000000 in
theorem lawFnExactShortestDifference (v0 : Value) (v1 : Value) (x0 : Au) (x1 : Au) (w : World) (hP0 : SAu w v0 x0) (hP1 : SAu w v1 x1) :
    Calls Try.prog 8 #[v0, v1] w (Ret (.bool true) w) := by
  have HP0 := hide hP0
  have HOK0 := hide hP0.ok
  obtain ⟨vn0, vf0, rfl, hN0, hF0⟩ := hP0
  obtain ⟨An0, cn0, rfl, -, -⟩ := hN0.form
  obtain ⟨Af0, cf0, rfl, -, -⟩ := hF0.form
  clear hN0 hF0
  have HP1 := hide hP1
  have HOK1 := hide hP1.ok
  obtain ⟨vn1, vf1, rfl, hN1, hF1⟩ := hP1
  obtain ⟨An1, cn1, rfl, -, -⟩ := hN1.form
  obtain ⟨Af1, cf1, rfl, -, -⟩ := hF1.form
  clear hN1 hF1
  obtain ⟨w0, hw0⟩ : ∃ w0, w0 = (w.alloc (.cells #[.slice An0 x0.next.length cn0, .slice Af0 x0.final.length cf0] 44)).alloc (.cells #[.slice An1 x1.next.length cn1, .slice Af1 x1.final.length cf1] 44) := ⟨_, rfl⟩
  have hx0 : Ext w w0 := by rw [hw0]; exact ((Ext.refl w).alloc _).alloc _
  have hs0 : w0.heap.size = w.heap.size + 2 := by rw [hw0]; simp
  have K0_0 := hide (show w0.cell? ⟨w.heap.size, 0, none⟩ = some (.slice An0 x0.next.length cn0) by rw [hw0]; go_simp)
  have K0_1 := hide (show w0.cell? ⟨w.heap.size, 1, none⟩ = some (.slice Af0 x0.final.length cf0) by rw [hw0]; go_simp)
  have ks0 : w.heap.size < w0.heap.size := by omega
  have K1_0 := hide (show w0.cell? ⟨w.heap.size + 1, 0, none⟩ = some (.slice An1 x1.next.length cn1) by rw [hw0]; go_simp)
  have K1_1 := hide (show w0.cell? ⟨w.heap.size + 1, 1, none⟩ = some (.slice Af1 x1.final.length cf1) by rw [hw0]; go_simp)
  have ks1 : w.heap.size + 1 < w0.heap.size := by omega
  have HX0 := hide hx0
  have HB0 := hide (Ext.refl w0)
  clear hx0
  obtain ⟨xs0, hxs0⟩ : ∃ xs0, xs0 = sdL x0 x1 := ⟨_, rfl⟩
  have HXS0 := hide hxs0
  have HI640 := hide (show ∀ j, j < xs0.length → I64 (at0 xs0 j) by rw [hxs0]; exact (sdL_ok x0 x1).2)
  have hlb0 : xs0.length ≤ 100 := by rw [hxs0]; exact (sdL_ok x0 x1).1
  clear hxs0
  obtain ⟨ok, hok⟩ : ∃ ok : Bool, ok = sdB x0 x1 := ⟨_, rfl⟩
  have HOKV := hide hok
  clear hok
  have hbb : (ok != ok) = false := by simp
  have k0_0 := K0_0.out
  have k0_1 := K0_1.out
  go_enter Try.func8, Try.ntmps8
  go_wp2_with fail
  rw [← hw0]
  clear hw0
  refine (szAutomatonS_any _ x0 _ _ (HP0.out.ext (HX0.out)) (by omega) (by omega)).mono ?_
  rintro e w1 ⟨r0, rfl, hr0, hx1⟩
  have HX1 := hide (HX0.out.trans hx1)
  have HB1 := hide (HB0.out.trans hx1)
  clear hx1
  clear k0_0 k0_1
  try clear kz0
  rcases hr0 with rfl | ⟨hr0, hrr0⟩
  · go_wp2
    go_ret
    exact Ret.mk rfl HX1.out
  have hnr0 : ¬ (r0 < 0) := by omega
  have hle0 : r0 ≤ 1048576 := by omega
  have HRR0 := hide hrr0
  clear hrr0
  have k1_0 := (HB1.out.cells _ _ ks1).trans K1_0.out
  have k1_1 := (HB1.out.cells _ _ ks1).trans K1_1.out
  have kz1 := Nat.lt_of_lt_of_le ks1 HB1.out.size
  go_wp2_with fail
  refine (szAutomatonS_any _ x1 _ _ (HP1.out.ext (HX1.out)) (by omega) (by omega)).mono ?_
  rintro e w2 ⟨r1, rfl, hr1, hx2⟩
  have HX2 := hide (HX1.out.trans hx2)
  have HB2 := hide (HB1.out.trans hx2)
  clear hx2
  clear k1_0 k1_1
  try clear kz1
  rcases hr1 with rfl | ⟨hr1, hrr1⟩
  · go_wp2
    go_ret
    exact Ret.mk rfl HX2.out
  have hnr1 : ¬ (r1 < 0) := by omega
  have hle1 : r1 ≤ 1048576 := by omega
  have HRR1 := hide hrr1
  clear hrr1
  go_wp2_with fail
  refine wp_region_relT (n := 10) (ts := []) (sp := [RS.q [] (fun _ => .agg #[.slice An0 x0.next.length cn0, .slice Af0 x0.final.length cf0]), RS.pA [0] (fun v W => SAu W v x0) (fun _ _ _ h hx => SAu.ext h hx), RS.q [] (fun _ => .agg #[.slice An1 x1.next.length cn1, .slice Af1 x1.final.length cf1]), RS.pA [2] (fun v W => SAu W v x1) (fun _ _ _ h hx => SAu.ext h hx), RS.soFnExactShortestDifference [1, 3] xs0 ok, RS.mvFnExactShortestDifference [4], RS.q [5] (fun vs => fstFnExactShortestDifference (vs.getD 0 undef)), RS.q [5] (fun vs => sndFnExactShortestDifference (vs.getD 0 undef)), RS.q [6] (fun vs => vs.getD 0 undef), RS.q [7] (fun vs => vs.getD 0 undef)])
    (fun W => Ext w2 W) (by kernel_rfl) (relOK (D := [[], [0], [], [2], [1, 3], [4], [5], [5], [6], [7]]) rfl (by kernel_rfl) rfl) (by kernel_rfl) (fun W W' h hx => h.trans hx) (Ext.refl w2).drew ?steps8 ?ends8
  case steps8 =>
    refine ⟨?_, ?_, ?_, ?_, ?_, ?_, ?_, ?_, ?_, ?_, trivial⟩
    · intro V τ W hC hf ht h0
      have s : τ 2 = .pointer (some ⟨w.heap.size, 0, none⟩) := h0 2 (by kernel_rfl)
      have k0_0 := ((HB2.out.trans hC).cells _ _ ks0).trans K0_0.out
      have k0_1 := ((HB2.out.trans hC).cells _ _ ks0).trans K0_1.out
      refine Does.val (w' := W) (v := .agg #[.slice An0 x0.next.length cn0, .slice Af0 x0.final.length cf0]) ?_ ⟨Ext.refl W, rfl⟩
      go_simp
    · intro V τ W hC hf ht h0
      have f0 : V 0 = .agg #[.slice An0 x0.next.length cn0, .slice Af0 x0.final.length cf0] := hf 0 (show 0 ∈ [0] by decide)
      have s28 : τ 28 = .agg #[.slice An0 x0.next.length cn0, .slice Af0 x0.final.length cf0] := (ht 0 (show 0 ∈ [0] by decide) 28 rfl).trans f0
      refine Does.call (w' := W) (f := 29) (args := #[.agg #[.slice An0 x0.next.length cn0, .slice Af0 x0.final.length cf0]]) (by go_simp; all_goals (first | exact rfl | (apply And.intro <;> exact rfl))) ?_
      refine (toAutomatonS_any _ x0 _ (HP0.out.ext (HX2.out.trans hC))).mono ?_
      rintro e wa ⟨baq, bfq, rfl, hcmq, hxq⟩
      exact ⟨_, rfl, hxq, hcmq.sau HOK0.out⟩
    · intro V τ W hC hf ht h0
      have s : τ 3 = .pointer (some ⟨w.heap.size + 1, 0, none⟩) := h0 3 (by kernel_rfl)
      have k1_0 := ((HB2.out.trans hC).cells _ _ ks1).trans K1_0.out
      have k1_1 := ((HB2.out.trans hC).cells _ _ ks1).trans K1_1.out
      refine Does.val (w' := W) (v := .agg #[.slice An1 x1.next.length cn1, .slice Af1 x1.final.length cf1]) ?_ ⟨Ext.refl W, rfl⟩
      go_simp
    · intro V τ W hC hf ht h0
      have f2 : V 2 = .agg #[.slice An1 x1.next.length cn1, .slice Af1 x1.final.length cf1] := hf 2 (show 2 ∈ [2] by decide)
      have s30 : τ 30 = .agg #[.slice An1 x1.next.length cn1, .slice Af1 x1.final.length cf1] := (ht 2 (show 2 ∈ [2] by decide) 30 rfl).trans f2
      refine Does.call (w' := W) (f := 29) (args := #[.agg #[.slice An1 x1.next.length cn1, .slice Af1 x1.final.length cf1]]) (by go_simp; all_goals (first | exact rfl | (apply And.intro <;> exact rfl))) ?_
      refine (toAutomatonS_any _ x1 _ (HP1.out.ext (HX2.out.trans hC))).mono ?_
      rintro e wa ⟨baq, bfq, rfl, hcmq, hxq⟩
      exact ⟨_, rfl, hxq, hcmq.sau HOK1.out⟩
    · intro V τ W hC hf ht h0
      have g1 : SAu W (V 1) x0 := hf 1 (show 1 ∈ [1, 3] by decide)
      have s29 : τ 29 = V 1 := ht 1 (show 1 ∈ [1, 3] by decide) 29 rfl
      have g3 : SAu W (V 3) x1 := hf 3 (show 3 ∈ [1, 3] by decide)
      have s31 : τ 31 = V 3 := ht 3 (show 3 ∈ [1, 3] by decide) 31 rfl
      refine Does.call (w' := W) (f := 26) (args := #[V 1, V 3]) (by go_simp; all_goals (first | exact rfl | (apply And.intro <;> exact rfl))) ?_
      have hcc := sdS_any _ _ x0 x1 _ (g1) (g3)
      rw [← HXS0.out, ← HOKV.out] at hcc
      refine hcc.mono ?_
      rintro e wa ⟨A, c, rfl, hs, hx⟩
      exact ⟨_, rfl, hx, _, _, rfl, hs⟩
    · intro V τ W hC hf ht h0
      obtain ⟨A, c, e4, -⟩ := (show ∃ A c, V 4 = _ ∧ _ from hf 4 (show 4 ∈ [4] by decide))
      have s32 := ht 4 (show 4 ∈ [4] by decide) 32 rfl
      refine Does.val (w' := W) (v := V 4) ?_ ⟨Ext.refl W, rfl, _, _, e4⟩
      go_simp
    · intro V τ W hC hf ht h0
      obtain ⟨-, x, y, e5⟩ := (show V 5 = _ ∧ ∃ x y, V 5 = .tuple #[x, y] from hf 5 (show 5 ∈ [5] by decide))
      have s27 := (ht 5 (show 5 ∈ [5] by decide) 27 rfl).trans e5
      refine Does.val (w' := W) (v := fstFnExactShortestDifference (V 5)) ?_ ⟨Ext.refl W, rfl⟩
      rw [e5]
      go_simp
      rfl
    · intro V τ W hC hf ht h0
      obtain ⟨-, x, y, e5⟩ := (show V 5 = _ ∧ ∃ x y, V 5 = .tuple #[x, y] from hf 5 (show 5 ∈ [5] by decide))
      have s27 := (ht 5 (show 5 ∈ [5] by decide) 27 rfl).trans e5
      refine Does.val (w' := W) (v := sndFnExactShortestDifference (V 5)) ?_ ⟨Ext.refl W, rfl⟩
      rw [e5]
      go_simp
      rfl
    · intro V τ W hC hf ht h0
      have s33 := ht 6 (show 6 ∈ [6] by decide) 33 rfl
      refine Does.val (w' := W) (v := V 6) ?_ ⟨Ext.refl W, rfl⟩
      go_simp
    · intro V τ W hC hf ht h0
      have s34 := ht 7 (show 7 ∈ [7] by decide) 34 rfl
      refine Does.val (w' := W) (v := V 7) ?_ ⟨Ext.refl W, rfl⟩
      go_simp
  intro V w3 hC hf
  have f0 : V 0 = .agg #[.slice An0 x0.next.length cn0, .slice Af0 x0.final.length cf0] := hf 0 (by omega)
  obtain ⟨ga1, gb1, f1, -, -⟩ := (show SAu _ (V 1) x0 from hf 1 (by omega))
  have f2 : V 2 = .agg #[.slice An1 x1.next.length cn1, .slice Af1 x1.final.length cf1] := hf 2 (by omega)
  obtain ⟨ga3, gb3, f3, -, -⟩ := (show SAu _ (V 3) x1 from hf 3 (by omega))
  obtain ⟨A3, c3, f4, hsr3⟩ := (show ∃ A c, V 4 = _ ∧ _ from hf 4 (by omega))
  obtain ⟨f5, -⟩ := (show V 5 = V 4 ∧ _ from hf 5 (by omega))
  have f6 : V 6 = .slice A3 xs0.length c3 := by have h1 : V 6 = fstFnExactShortestDifference (V 5) := hf 6 (by omega); rw [h1, f5, f4]; rfl
  have f7 : V 7 = .bool ok := by have h1 : V 7 = sndFnExactShortestDifference (V 5) := hf 7 (by omega); rw [h1, f5, f4]; rfl
  have f8 : V 8 = .slice A3 xs0.length c3 := by have h1 : V 8 = V 6 := hf 8 (by omega); rw [h1, f6]
  have f9 : V 9 = .bool ok := by have h1 : V 9 = V 7 := hf 9 (by omega); rw [h1, f7]
  clear hf
  simp only [List.take_succ_cons, List.take_zero, putAll, Act.put, List.setIfInBounds_toArray, List.set_cons_succ, List.set_cons_zero, Nat.reduceAdd, f0, f1, f2, f3, f4, f5, f6, f7, f8, f9]
  simp only [nths]
  clear f0 f1 f2 f3 f4 f5 f6 f7 f8 f9
  have HX3 := hide (HX2.out.trans hC)
  have HB3 := hide (HB2.out.trans hC)
  clear hC
  have HS3 := hide hsr3
  clear hsr3
  have HS3x3 := hide (Ext.refl w3)
  have k0_0 := (HB3.out.cells _ _ ks0).trans K0_0.out
  have k0_1 := (HB3.out.cells _ _ ks0).trans K0_1.out
  have kz0 := Nat.lt_of_lt_of_le ks0 HB3.out.size
  go_wp2_with fail
  have HM3 := hide (Ext.refl w3)
  refine (toAutomatonS_any _ x0 _ (HP0.out.ext (HX3.out))).mono ?_
  rintro e w4 ⟨ba4, bf4, rfl, hcm4, hx4⟩
  have HC4 := hide (hcm4.sau HOK0.out)
  have HCM4 := hide hcm4.sh
  have hMs4 := HM3.out.size
  have hst4 := hx4.size
  have HX4 := hide (HX3.out.trans hx4)
  have HB4 := hide (HB3.out.trans hx4)
  have HS3x4 := hide (HS3x3.out.trans hx4)
  have HM4 := hide (HM3.out.trans hx4)
  clear hx4 hcm4
  clear k0_0 k0_1
  try clear kz0
  have HC44 := hide (Ext.refl w4)
  rw [autV] at HC4 ⊢
  have k1_0 := (HB4.out.cells _ _ ks1).trans K1_0.out
  have k1_1 := (HB4.out.cells _ _ ks1).trans K1_1.out
  have kz1 := Nat.lt_of_lt_of_le ks1 HB4.out.size
  go_wp2_with fail
  obtain ⟨z4, hz4⟩ : ∃ z, z = w4.alloc (.cells #[.slice (some ⟨ba4, 0, none⟩) x0.next.length x0.next.length, .slice (some ⟨bf4, 0, none⟩) x0.final.length x0.final.length] 26) := ⟨_, rfl⟩
  have hxz4 : Ext w4 z4 := by rw [hz4]; exact (Ext.refl w4).alloc _
  have U4_0 := hide (show z4.cell? ⟨w4.heap.size, 0, none⟩ = some (.slice (some ⟨ba4, 0, none⟩) x0.next.length x0.next.length) by rw [hz4]; go_simp)
  have U4_1 := hide (show z4.cell? ⟨w4.heap.size, 1, none⟩ = some (.slice (some ⟨bf4, 0, none⟩) x0.final.length x0.final.length) by rw [hz4]; go_simp)
  have us4 : w4.heap.size < z4.heap.size := by rw [hz4]; simp
  rw [← hz4]
  have HX5 := hide (HX4.out.trans hxz4)
  have HB5 := hide (HB4.out.trans hxz4)
  have HS3x5 := hide (HS3x4.out.trans hxz4)
  have HM5 := hide (HM4.out.trans hxz4)
  have HC45 := hide (HC44.out.trans hxz4)
  clear hz4 hxz4
  have HU45 := hide (Ext.refl z4)
  refine (toAutomatonS_any _ x1 _ (HP1.out.ext (HX5.out))).mono ?_
  rintro e w6 ⟨ba6, bf6, rfl, hcm6, hx6⟩
  have HC6 := hide (hcm6.sau HOK1.out)
  have HCM6 := hide hcm6.sh
  have hMs6 := HM5.out.size
  have hst6 := hx6.size
  have HX6 := hide (HX5.out.trans hx6)
  have HB6 := hide (HB5.out.trans hx6)
  have HS3x6 := hide (HS3x5.out.trans hx6)
  have HM6 := hide (HM5.out.trans hx6)
  have HC46 := hide (HC45.out.trans hx6)
  have HU46 := hide (HU45.out.trans hx6)
  clear hx6 hcm6
  clear k1_0 k1_1
  try clear kz1
  have HC66 := hide (Ext.refl w6)
  rw [autV] at HC6 ⊢
  have u4_0 := (HU46.out.cells _ _ us4).trans U4_0.out
  have u4_1 := (HU46.out.cells _ _ us4).trans U4_1.out
  have uz4 := Nat.lt_of_lt_of_le us4 HU46.out.size
  go_wp2_with fail
  obtain ⟨z6, hz6⟩ : ∃ z, z = w6.alloc (.cells #[.slice (some ⟨ba6, 0, none⟩) x1.next.length x1.next.length, .slice (some ⟨bf6, 0, none⟩) x1.final.length x1.final.length] 26) := ⟨_, rfl⟩
  have hxz6 : Ext w6 z6 := by rw [hz6]; exact (Ext.refl w6).alloc _
  have U6_0 := hide (show z6.cell? ⟨w6.heap.size, 0, none⟩ = some (.slice (some ⟨ba6, 0, none⟩) x1.next.length x1.next.length) by rw [hz6]; go_simp)
  have U6_1 := hide (show z6.cell? ⟨w6.heap.size, 1, none⟩ = some (.slice (some ⟨bf6, 0, none⟩) x1.final.length x1.final.length) by rw [hz6]; go_simp)
  have us6 : w6.heap.size < z6.heap.size := by rw [hz6]; simp
  rw [← hz6]
  have HX7 := hide (HX6.out.trans hxz6)
  have HB7 := hide (HB6.out.trans hxz6)
  have HS3x7 := hide (HS3x6.out.trans hxz6)
  have HM7 := hide (HM6.out.trans hxz6)
  have HC47 := hide (HC46.out.trans hxz6)
  have HU47 := hide (HU46.out.trans hxz6)
  have HC67 := hide (HC66.out.trans hxz6)
  clear hz6 hxz6
  have HU67 := hide (Ext.refl z6)
  have hcc := sdI_any _ _ x0 x1 _ (HC4.out.ext (HC47.out)) (HC6.out.ext (HC67.out))
  rw [← HXS0.out, ← HOKV.out] at hcc
  refine hcc.mono ?_
  clear hcc
  clear u4_0 u4_1 uz4
  rintro e w8 ⟨A8, c8, b8, m8, g8, rfl, hgc, -, hgb, hgo, hx8⟩
  have HX8 := hide (HX7.out.trans hx8)
  have HB8 := hide (HB7.out.trans hx8)
  have HS3x8 := hide (HS3x7.out.trans hx8)
  have HM8 := hide (HM7.out.trans hx8)
  have HC48 := hide (HC47.out.trans hx8)
  have HU48 := hide (HU47.out.trans hx8)
  have HC68 := hide (HC67.out.trans hx8)
  have HU68 := hide (HU67.out.trans hx8)
  clear hx8
  have HG8 := hide hgo
  clear hgo
  have hgs4 : w4.heap.size ≤ b8 := Nat.le_trans HC47.out.size hgb
  have hgs6 : w6.heap.size ≤ b8 := Nat.le_trans HC67.out.size hgb
  go_wp2_with fail
  refine (eqIntS_same _ _ xs0 _ (SInts.own hgc (show xs0.length * 8 ≤ 140737488355328 by omega) HG8.out HI640.out) (SInts.ext HS3.out (HS3x8.out))).mono ?_
  rintro e w9 ⟨rfl, hx9⟩
  have HX9 := hide (HX8.out.trans hx9)
  have HB9 := hide (HB8.out.trans hx9)
  have HS3x9 := hide (HS3x8.out.trans hx9)
  have HM9 := hide (HM8.out.trans hx9)
  have HC49 := hide (HC48.out.trans hx9)
  have HU49 := hide (HU48.out.trans hx9)
  have HC69 := hide (HC68.out.trans hx9)
  have HU69 := hide (HU68.out.trans hx9)
  have HG9 := hide (OwnC.ext HG8.out hx9)
  clear hx9
  go_wp2_with fail
  refine wp_region_relT (n := 5) (ts := []) (sp := [RS.q [] (fun _ => .agg #[.slice (some ⟨ba4, 0, none⟩) x0.next.length x0.next.length, .slice (some ⟨bf4, 0, none⟩) x0.final.length x0.final.length]), RS.q [] (fun _ => .agg #[.slice An0 x0.next.length cn0, .slice Af0 x0.final.length cf0]), RS.pA [1] (fun v W => SAu W v x0) (fun _ _ _ h hx => SAu.ext h hx), RS.q [0, 2] (fun _ => .bool (true)), RS.q [3] (fun _ => .bool (false))])
    (fun W => Ext w9 W) (by kernel_rfl) (relOK (D := [[], [], [1], [0, 2], [3]]) rfl (by kernel_rfl) rfl) (by kernel_rfl) (fun W W' h hx => h.trans hx) (Ext.refl w9).drew ?steps14 ?ends14
  case steps14 =>
    refine ⟨?_, ?_, ?_, ?_, ?_, trivial⟩
    · intro V τ W hC hf ht h0
      have s : τ 8 = .pointer (some ⟨w4.heap.size, 0, none⟩) := h0 8 (by kernel_rfl)
      have u4_0 := ((HU49.out.trans hC).cells _ _ us4).trans U4_0.out
      have u4_1 := ((HU49.out.trans hC).cells _ _ us4).trans U4_1.out
      refine Does.val (w' := W) (v := .agg #[.slice (some ⟨ba4, 0, none⟩) x0.next.length x0.next.length, .slice (some ⟨bf4, 0, none⟩) x0.final.length x0.final.length]) ?_ ⟨Ext.refl W, rfl⟩
      go_simp
    · intro V τ W hC hf ht h0
      have s : τ 2 = .pointer (some ⟨w.heap.size, 0, none⟩) := h0 2 (by kernel_rfl)
      have k0_0 := ((HB9.out.trans hC).cells _ _ ks0).trans K0_0.out
      have k0_1 := ((HB9.out.trans hC).cells _ _ ks0).trans K0_1.out
      refine Does.val (w' := W) (v := .agg #[.slice An0 x0.next.length cn0, .slice Af0 x0.final.length cf0]) ?_ ⟨Ext.refl W, rfl⟩
      go_simp
    · intro V τ W hC hf ht h0
      have f1 : V 1 = .agg #[.slice An0 x0.next.length cn0, .slice Af0 x0.final.length cf0] := hf 1 (show 1 ∈ [1] by decide)
      have s55 : τ 55 = .agg #[.slice An0 x0.next.length cn0, .slice Af0 x0.final.length cf0] := (ht 1 (show 1 ∈ [1] by decide) 55 rfl).trans f1
      refine Does.call (w' := W) (f := 29) (args := #[.agg #[.slice An0 x0.next.length cn0, .slice Af0 x0.final.length cf0]]) (by go_simp; all_goals (first | exact rfl | (apply And.intro <;> exact rfl))) ?_
      refine (toAutomatonS_any _ x0 _ (HP0.out.ext (HX9.out.trans hC))).mono ?_
      rintro e wa ⟨baq, bfq, rfl, hcmq, hxq⟩
      exact ⟨_, rfl, hxq, hcmq.sau HOK0.out⟩
    · intro V τ W hC hf ht h0
      have f0 : V 0 = .agg #[.slice (some ⟨ba4, 0, none⟩) x0.next.length x0.next.length, .slice (some ⟨bf4, 0, none⟩) x0.final.length x0.final.length] := hf 0 (show 0 ∈ [0, 2] by decide)
      have s54 : τ 54 = .agg #[.slice (some ⟨ba4, 0, none⟩) x0.next.length x0.next.length, .slice (some ⟨bf4, 0, none⟩) x0.final.length x0.final.length] := (ht 0 (show 0 ∈ [0, 2] by decide) 54 rfl).trans f0
      have g2 : SAu W (V 2) x0 := hf 2 (show 2 ∈ [0, 2] by decide)
      have s56 : τ 56 = V 2 := ht 2 (show 2 ∈ [0, 2] by decide) 56 rfl
      refine Does.call (w' := W) (f := 31) (args := #[.agg #[.slice (some ⟨ba4, 0, none⟩) x0.next.length x0.next.length, .slice (some ⟨bf4, 0, none⟩) x0.final.length x0.final.length], V 2]) (by go_simp; all_goals (first | exact rfl | (apply And.intro <;> exact rfl))) ?_
      refine (eqAutomatonS_same _ _ x0 _ ((HC4.out.ext HC49.out).ext hC) (g2)).mono ?_
      rintro e wa ⟨rfl, hxa⟩
      exact ⟨_, rfl, hxa, rfl⟩
    · intro V τ W hC hf ht h0
      have f3 : V 3 = .bool (true) := hf 3 (show 3 ∈ [3] by decide)
      have s57 := (ht 3 (show 3 ∈ [3] by decide) 57 rfl).trans f3
      refine Does.val (w' := W) (v := .bool (false)) ?_ ⟨Ext.refl W, rfl⟩
      go_simp
  intro V w10 hC hf
  have f0 : V 0 = .agg #[.slice (some ⟨ba4, 0, none⟩) x0.next.length x0.next.length, .slice (some ⟨bf4, 0, none⟩) x0.final.length x0.final.length] := hf 0 (by omega)
  have f1 : V 1 = .agg #[.slice An0 x0.next.length cn0, .slice Af0 x0.final.length cf0] := hf 1 (by omega)
  obtain ⟨ga2, gb2, f2, -, -⟩ := (show SAu _ (V 2) x0 from hf 2 (by omega))
  have f3 : V 3 = .bool (true) := hf 3 (by omega)
  have f4 : V 4 = .bool (false) := hf 4 (by omega)
  clear hf
  simp only [List.take_succ_cons, List.take_zero, putAll, Act.put, List.setIfInBounds_toArray, List.set_cons_succ, List.set_cons_zero, Nat.reduceAdd, f0, f1, f2, f3, f4]
  simp only [nths]
  clear f0 f1 f2 f3 f4
  have HX10 := hide (HX9.out.trans hC)
  have HB10 := hide (HB9.out.trans hC)
  have HS3x10 := hide (HS3x9.out.trans hC)
  have HM10 := hide (HM9.out.trans hC)
  have HC410 := hide (HC49.out.trans hC)
  have HU410 := hide (HU49.out.trans hC)
  have HC610 := hide (HC69.out.trans hC)
  have HU610 := hide (HU69.out.trans hC)
  have HG10 := hide (OwnC.ext HG9.out hC)
  clear hC
  go_wp2_with fail
  refine wp_region_relT (n := 5) (ts := []) (sp := [RS.q [] (fun _ => .agg #[.slice (some ⟨ba6, 0, none⟩) x1.next.length x1.next.length, .slice (some ⟨bf6, 0, none⟩) x1.final.length x1.final.length]), RS.q [] (fun _ => .agg #[.slice An1 x1.next.length cn1, .slice Af1 x1.final.length cf1]), RS.pA [1] (fun v W => SAu W v x1) (fun _ _ _ h hx => SAu.ext h hx), RS.q [0, 2] (fun _ => .bool (true)), RS.q [3] (fun _ => .bool (false))])
    (fun W => Ext w10 W) (by kernel_rfl) (relOK (D := [[], [], [1], [0, 2], [3]]) rfl (by kernel_rfl) rfl) (by kernel_rfl) (fun W W' h hx => h.trans hx) (Ext.refl w10).drew ?steps16 ?ends16
  case steps16 =>
    refine ⟨?_, ?_, ?_, ?_, ?_, trivial⟩
    · intro V τ W hC hf ht h0
      have s : τ 9 = .pointer (some ⟨w6.heap.size, 0, none⟩) := h0 9 (by kernel_rfl)
      have u6_0 := ((HU610.out.trans hC).cells _ _ us6).trans U6_0.out
      have u6_1 := ((HU610.out.trans hC).cells _ _ us6).trans U6_1.out
      refine Does.val (w' := W) (v := .agg #[.slice (some ⟨ba6, 0, none⟩) x1.next.length x1.next.length, .slice (some ⟨bf6, 0, none⟩) x1.final.length x1.final.length]) ?_ ⟨Ext.refl W, rfl⟩
      go_simp
    · intro V τ W hC hf ht h0
      have s : τ 3 = .pointer (some ⟨w.heap.size + 1, 0, none⟩) := h0 3 (by kernel_rfl)
      have k1_0 := ((HB10.out.trans hC).cells _ _ ks1).trans K1_0.out
      have k1_1 := ((HB10.out.trans hC).cells _ _ ks1).trans K1_1.out
      refine Does.val (w' := W) (v := .agg #[.slice An1 x1.next.length cn1, .slice Af1 x1.final.length cf1]) ?_ ⟨Ext.refl W, rfl⟩
      go_simp
    · intro V τ W hC hf ht h0
      have f1 : V 1 = .agg #[.slice An1 x1.next.length cn1, .slice Af1 x1.final.length cf1] := hf 1 (show 1 ∈ [1] by decide)
      have s60 : τ 60 = .agg #[.slice An1 x1.next.length cn1, .slice Af1 x1.final.length cf1] := (ht 1 (show 1 ∈ [1] by decide) 60 rfl).trans f1
      refine Does.call (w' := W) (f := 29) (args := #[.agg #[.slice An1 x1.next.length cn1, .slice Af1 x1.final.length cf1]]) (by go_simp; all_goals (first | exact rfl | (apply And.intro <;> exact rfl))) ?_
      refine (toAutomatonS_any _ x1 _ (HP1.out.ext (HX10.out.trans hC))).mono ?_
      rintro e wa ⟨baq, bfq, rfl, hcmq, hxq⟩
      exact ⟨_, rfl, hxq, hcmq.sau HOK1.out⟩
    · intro V τ W hC hf ht h0
      have f0 : V 0 = .agg #[.slice (some ⟨ba6, 0, none⟩) x1.next.length x1.next.length, .slice (some ⟨bf6, 0, none⟩) x1.final.length x1.final.length] := hf 0 (show 0 ∈ [0, 2] by decide)
      have s59 : τ 59 = .agg #[.slice (some ⟨ba6, 0, none⟩) x1.next.length x1.next.length, .slice (some ⟨bf6, 0, none⟩) x1.final.length x1.final.length] := (ht 0 (show 0 ∈ [0, 2] by decide) 59 rfl).trans f0
      have g2 : SAu W (V 2) x1 := hf 2 (show 2 ∈ [0, 2] by decide)
      have s61 : τ 61 = V 2 := ht 2 (show 2 ∈ [0, 2] by decide) 61 rfl
      refine Does.call (w' := W) (f := 31) (args := #[.agg #[.slice (some ⟨ba6, 0, none⟩) x1.next.length x1.next.length, .slice (some ⟨bf6, 0, none⟩) x1.final.length x1.final.length], V 2]) (by go_simp; all_goals (first | exact rfl | (apply And.intro <;> exact rfl))) ?_
      refine (eqAutomatonS_same _ _ x1 _ ((HC6.out.ext HC610.out).ext hC) (g2)).mono ?_
      rintro e wa ⟨rfl, hxa⟩
      exact ⟨_, rfl, hxa, rfl⟩
    · intro V τ W hC hf ht h0
      have f3 : V 3 = .bool (true) := hf 3 (show 3 ∈ [3] by decide)
      have s62 := (ht 3 (show 3 ∈ [3] by decide) 62 rfl).trans f3
      refine Does.val (w' := W) (v := .bool (false)) ?_ ⟨Ext.refl W, rfl⟩
      go_simp
  intro V w11 hC hf
  have f0 : V 0 = .agg #[.slice (some ⟨ba6, 0, none⟩) x1.next.length x1.next.length, .slice (some ⟨bf6, 0, none⟩) x1.final.length x1.final.length] := hf 0 (by omega)
  have f1 : V 1 = .agg #[.slice An1 x1.next.length cn1, .slice Af1 x1.final.length cf1] := hf 1 (by omega)
  obtain ⟨ga2, gb2, f2, -, -⟩ := (show SAu _ (V 2) x1 from hf 2 (by omega))
  have f3 : V 3 = .bool (true) := hf 3 (by omega)
  have f4 : V 4 = .bool (false) := hf 4 (by omega)
  clear hf
  simp only [List.take_succ_cons, List.take_zero, putAll, Act.put, List.setIfInBounds_toArray, List.set_cons_succ, List.set_cons_zero, Nat.reduceAdd, f0, f1, f2, f3, f4]
  simp only [nths]
  clear f0 f1 f2 f3 f4
  have HX11 := hide (HX10.out.trans hC)
  have HB11 := hide (HB10.out.trans hC)
  have HS3x11 := hide (HS3x10.out.trans hC)
  have HM11 := hide (HM10.out.trans hC)
  have HC411 := hide (HC410.out.trans hC)
  have HU411 := hide (HU410.out.trans hC)
  have HC611 := hide (HC610.out.trans hC)
  have HU611 := hide (HU610.out.trans hC)
  have HG11 := hide (OwnC.ext HG10.out hC)
  clear hC
  have u4_0 := (HU411.out.cells _ _ us4).trans U4_0.out
  have u4_1 := (HU411.out.cells _ _ us4).trans U4_1.out
  have uz4 := Nat.lt_of_lt_of_le us4 HU411.out.size
  go_wp2_with fail
  have hcc := markA_any (HCM4.out.ext HC411.out) (1) (by omega) (by omega) HRR0.out.2.1 HRR0.out.2.2.1 HRR0.out.2.2.2
  rw [autV] at hcc
  refine hcc.mono ?_
  clear hcc
  rintro e w12 ⟨k12, rfl, hka12, hkb12, hkp12⟩
  have hMq12 := HM11.out.size
  have HM12 := hide (show Ext w3 w12 from Below.trans HM11.out (hkp12.below HM11.out.size (fun k hk => Or.inl (by omega))))
  have HG12 := hide (OwnC.kpA HG11.out hkp12 (Or.inr (by omega)))
  have HCM6_12 := hide (ShA.kp (ShA.ext HCM6.out HC611.out) hkp12 (fun j hj1 hj2 => Or.inr (by omega)))
  have UP6_0 := hide ((hkp12.cell (p := ⟨w6.heap.size, 0, none⟩) (Nat.lt_of_lt_of_le us6 HU611.out.size) (Or.inr (by show _ ≤ w6.heap.size; omega))).trans ((HU611.out.cells _ _ us6).trans U6_0.out))
  have UP6_1 := hide ((hkp12.cell (p := ⟨w6.heap.size, 1, none⟩) (Nat.lt_of_lt_of_le us6 HU611.out.size) (Or.inr (by show _ ≤ w6.heap.size; omega))).trans ((HU611.out.cells _ _ us6).trans U6_1.out))
  have UZ6 := Nat.lt_of_lt_of_le (Nat.lt_of_lt_of_le us6 HU611.out.size) hkp12.size
  clear hkp12 hMq12
  clear u4_0 u4_1 uz4
  have hkn12 : ¬ (k12 < 0) := by omega
  have u6_0 := UP6_0.out
  have u6_1 := UP6_1.out
  have uz6 := UZ6
  go_wp2_with fail
  have hcc := markA_any HCM6_12.out (k12) (by omega) (by omega) HRR1.out.2.1 HRR1.out.2.2.1 HRR1.out.2.2.2
  rw [autV] at hcc
  refine hcc.mono ?_
  clear hcc
  rintro e w13 ⟨k13, rfl, hka13, hkb13, hkp13⟩
  have hMq13 := HM12.out.size
  have HM13 := hide (show Ext w3 w13 from Below.trans HM12.out (hkp13.below HM12.out.size (fun k hk => Or.inl (by omega))))
  have HG13 := hide (OwnC.kpA HG12.out hkp13 (Or.inr (by omega)))
  clear hkp13 hMq13
  clear u6_0 u6_1 uz6
  have hkn13 : ¬ (k13 < 0) := by omega
  go_wp2_with fail
  refine (eqIntS_same _ _ xs0 _ (SInts.own hgc (show xs0.length * 8 ≤ 140737488355328 by omega) HG13.out HI640.out) (SInts.ext HS3.out ((HS3x3.out.trans HM13.out)))).mono ?_
  rintro e w14 ⟨rfl, hx14⟩
  have HM14 := hide (HM13.out.trans hx14)
  have HG14 := hide (OwnC.ext HG13.out hx14)
  clear hx14
  go_wp2_with fail
  refine (markIntS_any A8 xs0.length c8 b8 m8 g8 1 _ (by omega) (by omega) (by omega) (hide fun hp => ⟨(HG14.out hp).1, (HG14.out hp).2.1, (HG14.out hp).2.2.1⟩)).mono ?_
  rintro e w15 ⟨rfl, hgr15, hrw15⟩
  have hMq15 := HM14.out.size
  have HM15 := hide (show Ext w3 w15 from Below.trans HM14.out ((Keep.of_grown hgr15).below HM14.out.size (fun k hk e => by unfold rowOf at e; split at e <;> simp at e; omega)))
  have HG15 : Hid (0 < xs0.length → A8 = some ⟨b8, 0, none⟩ ∧ w15.rowIs b8 3 m8 (mcell 1 g8 (xs0.length * 1)) ∧ xs0.length * 1 ≤ m8) := hide fun hp => ⟨(HG14.out hp).1, by rw [Nat.mul_one]; exact hrw15 (by omega), by have := (HG14.out hp).2.2.1; omega⟩
  clear hgr15 hrw15 hMq15
  have hq1 : ¬ (((1 : Int) + xs0.length) < 0) := by omega
  have hq2 : (((1 : Int) + xs0.length) != ((1 : Int) + xs0.length)) = false := by simp
  go_wp2_with fail
  refine (heldIntS_any A8 xs0.length c8 b8 m8 g8 1 _ (by omega) (by omega) (by omega) (hide fun hp => ⟨(HG15.out hp).1, by have := (HG15.out hp).2.1; rwa [Nat.mul_one] at this, by have := (HG15.out hp).2.2; omega⟩)).mono ?_
  rintro e w16 ⟨rfl, rfl⟩
  have HM16 := HM15
  have HG16 := HG15
  go_wp2_with fail
  refine wp_region_relT (n := 10) (ts := []) (sp := [RS.q [] (fun _ => .agg #[.slice An0 x0.next.length cn0, .slice Af0 x0.final.length cf0]), RS.pA [0] (fun v W => SAu W v x0) (fun _ _ _ h hx => SAu.ext h hx), RS.q [] (fun _ => .agg #[.slice An1 x1.next.length cn1, .slice Af1 x1.final.length cf1]), RS.pA [2] (fun v W => SAu W v x1) (fun _ _ _ h hx => SAu.ext h hx), RS.soFnExactShortestDifference [1, 3] xs0 ok, RS.mvFnExactShortestDifference [4], RS.q [5] (fun vs => fstFnExactShortestDifference (vs.getD 0 undef)), RS.q [5] (fun vs => sndFnExactShortestDifference (vs.getD 0 undef)), RS.q [6] (fun vs => vs.getD 0 undef), RS.q [7] (fun vs => vs.getD 0 undef)])
    (fun W => Ext w15 W) (by kernel_rfl) (relOK (D := [[], [0], [], [2], [1, 3], [4], [5], [5], [6], [7]]) rfl (by kernel_rfl) rfl) (by kernel_rfl) (fun W W' h hx => h.trans hx) (Ext.refl w15).drew ?steps31 ?ends31
  case steps31 =>
    refine ⟨?_, ?_, ?_, ?_, ?_, ?_, ?_, ?_, ?_, ?_, trivial⟩
    · intro V τ W hC hf ht h0
      have s : τ 2 = .pointer (some ⟨w.heap.size, 0, none⟩) := h0 2 (by kernel_rfl)
      have k0_0 := (((HB3.out.trans HM16.out).trans hC).cells _ _ ks0).trans K0_0.out
      have k0_1 := (((HB3.out.trans HM16.out).trans hC).cells _ _ ks0).trans K0_1.out
      refine Does.val (w' := W) (v := .agg #[.slice An0 x0.next.length cn0, .slice Af0 x0.final.length cf0]) ?_ ⟨Ext.refl W, rfl⟩
      go_simp
    · intro V τ W hC hf ht h0
      have f0 : V 0 = .agg #[.slice An0 x0.next.length cn0, .slice Af0 x0.final.length cf0] := hf 0 (show 0 ∈ [0] by decide)
      have s95 : τ 95 = .agg #[.slice An0 x0.next.length cn0, .slice Af0 x0.final.length cf0] := (ht 0 (show 0 ∈ [0] by decide) 95 rfl).trans f0
      refine Does.call (w' := W) (f := 29) (args := #[.agg #[.slice An0 x0.next.length cn0, .slice Af0 x0.final.length cf0]]) (by go_simp; all_goals (first | exact rfl | (apply And.intro <;> exact rfl))) ?_
      refine (toAutomatonS_any _ x0 _ (HP0.out.ext ((HX3.out.trans HM16.out).trans hC))).mono ?_
      rintro e wa ⟨baq, bfq, rfl, hcmq, hxq⟩
      exact ⟨_, rfl, hxq, hcmq.sau HOK0.out⟩
    · intro V τ W hC hf ht h0
      have s : τ 3 = .pointer (some ⟨w.heap.size + 1, 0, none⟩) := h0 3 (by kernel_rfl)
      have k1_0 := (((HB3.out.trans HM16.out).trans hC).cells _ _ ks1).trans K1_0.out
      have k1_1 := (((HB3.out.trans HM16.out).trans hC).cells _ _ ks1).trans K1_1.out
      refine Does.val (w' := W) (v := .agg #[.slice An1 x1.next.length cn1, .slice Af1 x1.final.length cf1]) ?_ ⟨Ext.refl W, rfl⟩
      go_simp
    · intro V τ W hC hf ht h0
      have f2 : V 2 = .agg #[.slice An1 x1.next.length cn1, .slice Af1 x1.final.length cf1] := hf 2 (show 2 ∈ [2] by decide)
      have s97 : τ 97 = .agg #[.slice An1 x1.next.length cn1, .slice Af1 x1.final.length cf1] := (ht 2 (show 2 ∈ [2] by decide) 97 rfl).trans f2
      refine Does.call (w' := W) (f := 29) (args := #[.agg #[.slice An1 x1.next.length cn1, .slice Af1 x1.final.length cf1]]) (by go_simp; all_goals (first | exact rfl | (apply And.intro <;> exact rfl))) ?_
      refine (toAutomatonS_any _ x1 _ (HP1.out.ext ((HX3.out.trans HM16.out).trans hC))).mono ?_
      rintro e wa ⟨baq, bfq, rfl, hcmq, hxq⟩
      exact ⟨_, rfl, hxq, hcmq.sau HOK1.out⟩
    · intro V τ W hC hf ht h0
      have g1 : SAu W (V 1) x0 := hf 1 (show 1 ∈ [1, 3] by decide)
      have s96 : τ 96 = V 1 := ht 1 (show 1 ∈ [1, 3] by decide) 96 rfl
      have g3 : SAu W (V 3) x1 := hf 3 (show 3 ∈ [1, 3] by decide)
      have s98 : τ 98 = V 3 := ht 3 (show 3 ∈ [1, 3] by decide) 98 rfl
      refine Does.call (w' := W) (f := 14) (args := #[V 1, V 3]) (by go_simp; all_goals (first | exact rfl | (apply And.intro <;> exact rfl))) ?_
      have hcc := sdI_any _ _ x0 x1 _ (g1) (g3)
      rw [← HXS0.out, ← HOKV.out] at hcc
      refine hcc.mono ?_
      rintro e wa ⟨A, c, b, m, f, rfl, hc, -, hb, ho, hx⟩
      exact ⟨_, rfl, hx, _, _, rfl, SInts.own hc (show xs0.length * 8 ≤ 140737488355328 by omega) ho HI640.out⟩
    · intro V τ W hC hf ht h0
      obtain ⟨A, c, e4, -⟩ := (show ∃ A c, V 4 = _ ∧ _ from hf 4 (show 4 ∈ [4] by decide))
      have s99 := ht 4 (show 4 ∈ [4] by decide) 99 rfl
      refine Does.val (w' := W) (v := V 4) ?_ ⟨Ext.refl W, rfl, _, _, e4⟩
      go_simp
    · intro V τ W hC hf ht h0
      obtain ⟨-, x, y, e5⟩ := (show V 5 = _ ∧ ∃ x y, V 5 = .tuple #[x, y] from hf 5 (show 5 ∈ [5] by decide))
      have s94 := (ht 5 (show 5 ∈ [5] by decide) 94 rfl).trans e5
      refine Does.val (w' := W) (v := fstFnExactShortestDifference (V 5)) ?_ ⟨Ext.refl W, rfl⟩
      rw [e5]
      go_simp
      rfl
    · intro V τ W hC hf ht h0
      obtain ⟨-, x, y, e5⟩ := (show V 5 = _ ∧ ∃ x y, V 5 = .tuple #[x, y] from hf 5 (show 5 ∈ [5] by decide))
      have s94 := (ht 5 (show 5 ∈ [5] by decide) 94 rfl).trans e5
      refine Does.val (w' := W) (v := sndFnExactShortestDifference (V 5)) ?_ ⟨Ext.refl W, rfl⟩
      rw [e5]
      go_simp
      rfl
    · intro V τ W hC hf ht h0
      have s100 := ht 6 (show 6 ∈ [6] by decide) 100 rfl
      refine Does.val (w' := W) (v := V 6) ?_ ⟨Ext.refl W, rfl⟩
      go_simp
    · intro V τ W hC hf ht h0
      have s101 := ht 7 (show 7 ∈ [7] by decide) 101 rfl
      refine Does.val (w' := W) (v := V 7) ?_ ⟨Ext.refl W, rfl⟩
      go_simp
  intro V w17 hC hf
  have f0 : V 0 = .agg #[.slice An0 x0.next.length cn0, .slice Af0 x0.final.length cf0] := hf 0 (by omega)
  obtain ⟨ga1, gb1, f1, -, -⟩ := (show SAu _ (V 1) x0 from hf 1 (by omega))
  have f2 : V 2 = .agg #[.slice An1 x1.next.length cn1, .slice Af1 x1.final.length cf1] := hf 2 (by omega)
  obtain ⟨ga3, gb3, f3, -, -⟩ := (show SAu _ (V 3) x1 from hf 3 (by omega))
  obtain ⟨A17, c17, f4, hsr17⟩ := (show ∃ A c, V 4 = _ ∧ _ from hf 4 (by omega))
  obtain ⟨f5, -⟩ := (show V 5 = V 4 ∧ _ from hf 5 (by omega))
  have f6 : V 6 = .slice A17 xs0.length c17 := by have h1 : V 6 = fstFnExactShortestDifference (V 5) := hf 6 (by omega); rw [h1, f5, f4]; rfl
  have f7 : V 7 = .bool ok := by have h1 : V 7 = sndFnExactShortestDifference (V 5) := hf 7 (by omega); rw [h1, f5, f4]; rfl
  have f8 : V 8 = .slice A17 xs0.length c17 := by have h1 : V 8 = V 6 := hf 8 (by omega); rw [h1, f6]
  have f9 : V 9 = .bool ok := by have h1 : V 9 = V 7 := hf 9 (by omega); rw [h1, f7]
  clear hf
  simp only [List.take_succ_cons, List.take_zero, putAll, Act.put, List.setIfInBounds_toArray, List.set_cons_succ, List.set_cons_zero, Nat.reduceAdd, f0, f1, f2, f3, f4, f5, f6, f7, f8, f9]
  simp only [nths]
  clear f0 f1 f2 f3 f4 f5 f6 f7 f8 f9
  have HM17 := hide (HM16.out.trans hC)
  have HG17 := hide (fun hp => ⟨(HG16.out hp).1, Ext.row hC (HG16.out hp).2.1, (HG16.out hp).2.2⟩ : 0 < xs0.length → A8 = some ⟨b8, 0, none⟩ ∧ w17.rowIs b8 3 m8 (mcell 1 g8 (xs0.length * 1)) ∧ xs0.length * 1 ≤ m8)
  clear hC
  have HS17 := hide hsr17
  clear hsr17
  have HS17x17 := hide (Ext.refl w17)
  go_wp2_with fail
  refine (eqIntS_same _ _ xs0 _ (SInts.ext HS17.out (HS17x17.out)) (SInts.ext HS3.out ((HS3x3.out.trans HM17.out)))).mono ?_
  rintro e w18 ⟨rfl, hx18⟩
  have HM18 := hide (HM17.out.trans hx18)
  have HS17x18 := hide (HS17x17.out.trans hx18)
  have HG18 := hide (fun hp => ⟨(HG17.out hp).1, Ext.row hx18 (HG17.out hp).2.1, (HG17.out hp).2.2⟩ : 0 < xs0.length → A8 = some ⟨b8, 0, none⟩ ∧ w18.rowIs b8 3 m8 (mcell 1 g8 (xs0.length * 1)) ∧ xs0.length * 1 ≤ m8)
  clear hx18
  go_wp2_with fail
  refine (heldIntS_any A8 xs0.length c8 b8 m8 g8 1 _ (by omega) (by omega) (by omega) (hide fun hp => ⟨(HG18.out hp).1, by have := (HG18.out hp).2.1; rwa [Nat.mul_one] at this, by have := (HG18.out hp).2.2; omega⟩)).mono ?_
  rintro e w19 ⟨rfl, rfl⟩
  have HM19 := HM18
  have HS17x19 := HS17x18
  have HG19 := HG18
  go_wp2
  go_ret
  exact Ret.mk rfl (HX3.out.trans HM19.out)
theorem lawSx (vn vf vn2 vf2 : Value) (a b : Au) (w : World) (hN : SRows w vn a.next) (hF : SInts w vf a.final) (hN2 : SRows w vn2 b.next) (hF2 : SInts w vf2 b.final) :
    Calls Try.prog 8 #[.agg #[vn, vf], .agg #[vn2, vf2]] w (Ret (.bool true) w) :=
  lawFnExactShortestDifference _ _ a b w ⟨vn, vf, rfl, hN, hF⟩ ⟨vn2, vf2, rfl, hN2, hF2⟩
end Go.Proofs.Ytdiedghaoleblaa
/- The law FnExactShortestDifference holds: the program's ShortestDifference returns what the reference's returns. No condition. -/
namespace Go.Proofs.Ytdiedghaoleblaa
open Go.ChangeShapes Go.WideShapes Go.ChangeAt Go.RowKit

theorem Try.ownFnExactShortestDifference : ownKnob Try.prog.godebug = none := by kernel_rfl
theorem Try.laidOutFnExactShortestDifference : laidOutB Try.prog = true := by kernel_rfl

set_option maxRecDepth 100000 in
theorem fnExactShortestDifference_lifted (os : Os) (started : os.Started) (H : Type) (enc : TypeId × Value → H) :
    ReturnsInHanded {} Try.checked os 8 .any (Rows.fnExactShortestDifferenceSpec.pre6 enc Try.prog Try.f8 Rows.fnExactShortestDifferenceRow.domain false) (Rows.fnExactShortestDifferenceSpec.post enc Try.prog Try.f8 false true false false) := by
  refine returnsInHanded_of_change_sized (C := Try.checked) Try.ownFnExactShortestDifference started (by kernel_rfl) Try.func8
    (ChangeSpec.witness6 (enc := enc) (C := Try.checked) false ⟨#[], #[.agg #[.slice none 0 0, .slice none 0 0], .agg #[.slice none 0 0, .slice none 0 0]], []⟩ 8 (by kernel_rfl) (by kernel_rfl) (by kernel_rfl) (by kernel_rfl)) ?_
  intro W base args ds gs before hval0 hW hcnd hsz0 _
  have hval : ∀ (j : Nat) t v, Try.f8.params[j]? = some t → args[j]? = some v → Value.okWide Try.prog W .any base t v := hval0
  have hsz : (DataW.weightsEach Try.prog (Try.f8.params.toList ++ Rows.fnExactShortestDifferenceSpec.plain.varTypes Try.prog) (ds ++ gs)).all (· ≤ reachBytes) = true := hsz0
  have hW' := hW
  obtain ⟨p, q, hA0, hV, rfl, hfz, hnd⟩ := hW
  have hA : DataW.TrodAll enc Try.prog W 0 (fun _ => true) true Try.f8.params.toList args.toList ds p := hA0
  rw [Try.params8] at hA hval hsz
  obtain ⟨v0, vs0, d0, ds0, p0, q0, hargs, rfl, rfl, h0, r0⟩ := trodAll_cons hA
  obtain ⟨v1, vs1, d1, ds1, p1, q1, rfl, rfl, rfl, h1, r1⟩ := trodAll_cons r0
  obtain ⟨rfl, rfl, rfl⟩ := trodAll_nil r1
  obtain rfl : args = #[v0, v1] := by cases args; simp_all
  obtain ⟨rfl, rfl⟩ := trodVars_none hV
  have k0 := h0
  have lt0 : ∀ x ∈ p0, x.block < W.heap.size := by obtain ⟨m, hm⟩ := k0; exact DataW.trod_lt m _ _ _ hm
  obtain ⟨vn0, vf0, x0, rfl, hN0, hF0⟩ := aut_of_trod Try.underlying44 (by kernel_rfl) (by kernel_rfl) rfl rfl Try.underlying23 Try.underlying24 Try.underlying3 (by kernel_rfl) (by kernel_rfl) (by kernel_rfl) (by kernel_rfl) (hval 0 44 v0 rfl rfl) h0 (weight_at hsz (j := 0) rfl rfl)
  have k1 := h1
  have lt1 : ∀ x ∈ p1, x.block < W.heap.size := by obtain ⟨m, hm⟩ := k1; exact DataW.trod_lt m _ _ _ hm
  obtain ⟨vn1, vf1, x1, rfl, hN1, hF1⟩ := aut_of_trod Try.underlying44 (by kernel_rfl) (by kernel_rfl) rfl rfl Try.underlying23 Try.underlying24 Try.underlying3 (by kernel_rfl) (by kernel_rfl) (by kernel_rfl) (by kernel_rfl) (hval 1 44 v1 rfl rfl) h1 (weight_at hsz (j := 1) rfl rfl)
  clear hA0 hval0 hsz0
  refine (lawSx vn0 vf0 vn1 vf1 x0 x1 W hN0 hF0 hN1 hF1).mono fun e W' ⟨he, bel⟩ => ?_
  subst he
  exact ⟨_, rfl, _, _, _, [], _, [], hW', trodAll_mk1 (shut_bool Try.underlying4 _), (trodAll_cons_mk (Below.trod Try.laidOutFnExactShortestDifference (by kernel_rfl) (of_decide_eq_true (by kernel_rfl)) k0 bel lt0) (trodAll_cons_mk (Below.trod Try.laidOutFnExactShortestDifference (by kernel_rfl) (of_decide_eq_true (by kernel_rfl)) k1 bel lt1) trodAll_mk0)), rfl, Below.frame bel _, fun h => by cases h⟩

theorem fnExactShortestDifference_holds : Rows.FnExactShortestDifferenceSaid :=
  OpenClaim.holds_of_wide 8 Try.f8 rfl rfl rfl rfl rfl rfl rfl ⟨rfl, rfl, rfl, rfl, rfl⟩ rfl rfl rfl rfl rfl (by kernel_rfl) Try.func8 (by kernel_rfl)
    (of_decide_eq_true (by kernel_rfl)) (by unfold Func.isWrapper; first | (rw [if_pos (by decide +kernel)]; kernel_rfl) | (rw [if_neg (by decide +kernel)]; exact ⟨rfl, rfl⟩))
    (fun os started H enc _ => fnExactShortestDifference_lifted os started H enc)
#print axioms fnExactShortestDifference_holds
end Go.Proofs.Ytdiedghaoleblaa
