/- Draws of the generator: a constraint, domains and a removal. Printed by gendrw27.py. -/
import Derived.Test.YtmfbdaocnijnpaaDrw26
import Derived.Test.YtmfbdaocnijnpaaExpA
namespace Go.Proofs.Ytmfbdaocnijnpaa
open Go.RowKit
attribute [local go_sem] evalOf

/-- A constraint stands in block mb, domains beside it. -/
structure DX (w0 : World) (br N mb : Nat) (W1 W : World) (c : Con) (vv va vr dv : Value) (ds : List Int) : Prop where
  c0 : W.cell? ⟨mb, 0, none⟩ = some (.int .i64 c.kk)
  c1 : W.cell? ⟨mb, 1, none⟩ = some vv
  c2 : W.cell? ⟨mb, 2, none⟩ = some va
  c3 : W.cell? ⟨mb, 3, none⟩ = some (.int .i64 c.bound)
  c4 : W.cell? ⟨mb, 4, none⟩ = some vr
  sz : mb < W.heap.size
  ge : W1.heap.size ≤ mb
  b0 : br < W1.heap.size
  iv : IV (fun k => W1.heap.size ≤ k ∧ k < mb) W vv c.vars
  ia : IV (fun k => W1.heap.size ≤ k ∧ k < mb) W va c.args
  ir : RV (fun k => W1.heap.size ≤ k ∧ k < mb) W vr c.rows
  d : IV (fun k => W1.heap.size ≤ k ∧ k < mb) W dv ds
  n1 : 1 ≤ ds.length
  n4 : ds.length ≤ 4
  kp : Keep (fun k => k ≠ br) W1 W
  rd : RdSt w0 br N W
theorem DX.cells {w0 : World} {br N mb : Nat} {W1 W : World} {c : Con} {vv va vr dv : Value} {ds : List Int} (h : DX w0 br N mb W1 W c vv va vr dv ds) :
    W.cell? ⟨mb, 0, none⟩ = some (.int .i64 c.kk) ∧ W.cell? ⟨mb, 1, none⟩ = some vv ∧ W.cell? ⟨mb, 2, none⟩ = some va ∧ W.cell? ⟨mb, 3, none⟩ = some (.int .i64 c.bound) ∧ W.cell? ⟨mb, 4, none⟩ = some vr ∧ mb < W.heap.size := ⟨h.c0, h.c1, h.c2, h.c3, h.c4, h.sz⟩
theorem DX.keep {w0 : World} {br N M mb : Nat} {W1 W W' : World} {c : Con} {vv va vr dv : Value} {ds : List Int} (h : DX w0 br N mb W1 W c vv va vr dv ds) (hR : RdSt w0 br M W') (hK : Keep (fun k => k ≠ br) W W') : DX w0 br M mb W1 W' c vv va vr dv ds := by
  have h1 := h.ge
  have h2 := h.b0
  have hb : mb ≠ br := by omega
  have cc : ∀ i, W'.cell? ⟨mb, i, none⟩ = W.cell? ⟨mb, i, none⟩ := fun i => hK.cell (p := ⟨mb, i, none⟩) h.sz hb
  exact ⟨(cc 0).trans h.c0, (cc 1).trans h.c1, (cc 2).trans h.c2, (cc 3).trans h.c3, (cc 4).trans h.c4, Nat.lt_of_lt_of_le h.sz hK.size, h1, h2, h.iv.keep hK (fun k hk => by omega), h.ia.keep hK (fun k hk => by omega), h.ir.keep hK (fun k hk => by omega), h.d.keep hK (fun k hk => by omega), h.n1, h.n4, h.kp.trans hK, hR⟩
theorem IV.ltS {S : Nat → Prop} {w : World} {v : Value} {xs : List Int} (h : IV S w v xs) : IV (fun k => S k ∧ k < w.heap.size) w v xs := ⟨h.1, fun g hg => ⟨h.2.1 g hg, h.lt g hg⟩, h.2.2⟩
theorem RV.ltS {S : Nat → Prop} {w : World} {v : Value} {rs : List (List Int)} (h : RV S w v rs) : RV (fun k => S k ∧ k < w.heap.size) w v rs := by
  obtain ⟨⟨cells, h1, h2, h3⟩, q⟩ := h
  refine ⟨⟨cells, h1, fun g hg => ⟨h2 g hg, (World.ownsRow.lt h1 g hg).2⟩, fun i hi => ?_⟩, q⟩
  obtain ⟨cv, a, b, c⟩ := h3 i hi
  refine ⟨cv, a, b, fun g hg => ⟨c g hg, ?_⟩⟩
  obtain ⟨g', cap, m, f, rfl, -, -, hr, -⟩ := b
  have hg : some g' = some g := hg
  injection hg with hg
  rw [← hg]; exact hr.lt
/-- A change that spares the constraint and all before it. -/
theorem DX.keepS {w0 : World} {br N mb : Nat} {W1 W W' : World} {c : Con} {vv va vr dv : Value} {ds : List Int} {S : Nat → Prop} (h : DX w0 br N mb W1 W c vv va vr dv ds) (hw0 : w0.heap.size ≤ W1.heap.size) (hK : Keep S W W') (hS : ∀ k, k ≤ mb → S k) : DX w0 br N mb W1 W' c vv va vr dv ds := by
  have h1 := h.ge
  have h2 := h.b0
  have cc : ∀ i, W'.cell? ⟨mb, i, none⟩ = W.cell? ⟨mb, i, none⟩ := fun i => hK.cell (p := ⟨mb, i, none⟩) h.sz (hS _ (Nat.le_refl _))
  exact ⟨(cc 0).trans h.c0, (cc 1).trans h.c1, (cc 2).trans h.c2, (cc 3).trans h.c3, (cc 4).trans h.c4, Nat.lt_of_lt_of_le h.sz hK.size, h1, h2, h.iv.keep hK (fun k hk => hS k (by omega)), h.ia.keep hK (fun k hk => hS k (by omega)), h.ir.keep hK (fun k hk => hS k (by omega)), h.d.keep hK (fun k hk => hS k (by omega)), h.n1, h.n4,
    h.kp.trans9 hK (fun k hk _ => hS k (by omega)), h.rd.keep hK (hS _ (by omega)) (fun k hk => hS k (by omega))⟩
theorem DX.mono {w0 : World} {br N M mb : Nat} {W1 W : World} {c : Con} {vv va vr dv : Value} {ds : List Int} (h : DX w0 br N mb W1 W c vv va vr dv ds) (hM : N ≤ M) : DX w0 br M mb W1 W c vv va vr dv ds := h.keep (h.rd.mono hM) (Keep.refl _ _)
theorem DX.grow {w0 : World} {br N mb : Nat} {W1 W W' : World} {c : Con} {vv va vr dv : Value} {ds : List Int} (h : DX w0 br N mb W1 W c vv va vr dv ds) (hx : Ext W W') : DX w0 br N mb W1 W' c vv va vr dv ds := h.keep (h.rd.grow hx) (hx.keep _)
/-- A constraint, domains and a removal came. -/
def DxGot (w : World) (e : Ending) (W' : World) : Prop :=
  ∃ vc c vd ds r, e = .returned (.tuple #[vc, vd, .agg #[.int .i64 (Rm.x r), .int .i64 r.v]]) ∧ SCon W' vc c ∧ SInts W' vd ds ∧ 1 ≤ ds.length ∧ ds.length ≤ 4 ∧ (-1 ≤ r.x ∧ r.x ≤ 4 ∧ 0 ≤ r.v ∧ r.v ≤ 6) ∧ Ext w W'
/-- The same, with the blocks told. -/
def DxGotB (w : World) (e : Ending) (W' : World) : Prop :=
  ∃ vc c vd ds r, e = .returned (.tuple #[vc, vd, .agg #[.int .i64 (Rm.x r), .int .i64 r.v]]) ∧ CV (fun k => w.heap.size ≤ k) W' vc c ∧ IV (fun k => w.heap.size ≤ k) W' vd ds ∧ 1 ≤ ds.length ∧ ds.length ≤ 4 ∧ (-1 ≤ r.x ∧ r.x ≤ 4 ∧ 0 ≤ r.v ∧ r.v ≤ 6) ∧ Ext w W'
theorem DxGotB.got {w : World} {e : Ending} {W' : World} (h : DxGotB w e W') : DxGot w e W' := by
  obtain ⟨vc, c, vd, ds, r, rfl, ⟨vv, va, vr, rfl, i1, i2, i3⟩, hd, q⟩ := h
  exact ⟨_, c, vd, ds, r, rfl, ⟨vv, va, vr, rfl, i1.ints, i2.ints, i3.rows⟩, hd.ints, q⟩
theorem ext_of_keepX {w W2 W3 : World} {S : Nat → Prop} (h : Keep (fun k => k < w.heap.size) w W2) (hk : Keep S W2 W3) (hS : ∀ k, k < w.heap.size → S k) : Ext w W3 := by
  have ht2 := h.then hk (fun k hk _ => hS k hk)
  exact ⟨ht2.os, ht2.tape, ht2.output, ht2.size, fun k hk => ht2.block k hk hk⟩
theorem DX.done {w : World} {br N mb : Nat} {W1 W W' : World} {c : Con} {vv va vr dv : Value} {ds : List Int} (h : DX w br N mb W1 W c vv va vr dv ds) (hx : Ext w W1) (hbr : w.heap.size + 2 ≤ br) (hws : w.heap.size + 2 ≤ W1.heap.size) {r : Rm} (hk : Keep (fun k => k ≠ w.heap.size ∧ k ≠ w.heap.size + 1) W W') (hr : -1 ≤ r.x ∧ r.x ≤ 4 ∧ 0 ≤ r.v ∧ r.v ≤ 6) :
    DxGotB w (.returned (.tuple #[.agg #[.int .i64 c.kk, vv, va, .int .i64 c.bound, vr], dv, .agg #[.int .i64 r.x, .int .i64 r.v]])) W' :=
  ⟨_, c, _, ds, r, rfl, ⟨vv, va, vr, rfl, (h.iv.keep hk (fun k hk => ⟨by omega, by omega⟩)).mono (fun k hk => by omega), (h.ia.keep hk (fun k hk => ⟨by omega, by omega⟩)).mono (fun k hk => by omega), (h.ir.keep hk (fun k hk => ⟨by omega, by omega⟩)).mono (fun k hk => by omega)⟩, (h.d.keep hk (fun k hk => ⟨by omega, by omega⟩)).mono (fun k hk => by omega), h.n1, h.n4, hr,
    ext_of_keepX ((hx.keep (fun k => k < w.heap.size)).then h.kp (fun k hk hs => by omega)) hk (fun k hk => ⟨by omega, by omega⟩)⟩
/-- The operation that the load waits for is ready beside another. -/
theorem wpAnyC_tk9 {P : Program} {ops : Array Oper} {md : Region.Mode} {C : World → Prop} {Q : Exit → Act → World → Prop} {t i : Nat} {o o' : Oper} {f : Nat} {listed : Array Bool} {a : Act} {w : World} (hr : Region.ready md ops listed = [i, t]) (ho : ops[i]? = some o) (hot : ops[t]? = some o') (hne : i ≠ t)
    (h : ∀ K' : Act → World → Prop, (∀ a w, C w → wpAnyC P md ops Q C t f (listed.setIfInBounds i true) a w → K' a w) → if Region.wanted o (yielded ops a.tmps) = true then Oper.wp P o a w K' Q else K' (a.put o.dst undef) w)
    (h' : ∀ K' : Act → World → Prop, (∀ a w, wpAny P md ops Q f (listed.setIfInBounds t true) a w → K' a w) → if Region.wanted o' (yielded ops a.tmps) = true then Oper.wp P o' a w K' Q else K' (a.put o'.dst undef) w) :
    wpAnyC P md ops Q C t (f + 1) listed a w :=
  ⟨by rw [hr]; simp, fun j hj => by
    rw [hr] at hj
    simp only [List.mem_cons, List.not_mem_nil, or_false] at hj
    rcases hj with rfl | rfl
    · exact ⟨fun e => absurd e hne, fun _ => wpOp_step ho fun K' hK' => h K' fun a w h1 h2 => hK' a w ⟨h1, h2⟩⟩
    · exact ⟨fun _ => wpOp_step hot fun K' hK' => h' K' hK', fun e => absurd rfl e⟩⟩
/-- Worlds while a region reads numbers (ten at a time). -/
def RdCN (w0 : World) (br N n : Nat) (wx : World) (m : Nat) (W : World) : Prop := ∃ M, M + 10 * m ≤ N + 10 * n ∧ RdSt w0 br M W ∧ Keep (fun k => k ≠ br) wx W
theorem RdCN.le {w0 : World} {br N n m : Nat} {wx W : World} (h : RdCN w0 br N n wx (m + 1) W) : RdCN w0 br N n wx m W := by
  obtain ⟨M, h1, h2⟩ := h
  exact ⟨M, by omega, h2⟩
theorem RdCN.start {w0 : World} {br N : Nat} {wx : World} (n : Nat) (h : RdSt w0 br N wx) : RdCN w0 br N n wx n wx.drew :=
  ⟨N, by omega, h.grow (Ext.refl _).drew, ((Ext.refl _).drew).keep _⟩
theorem RdCN.fin {w0 : World} {br N n : Nat} {wx W : World} (h : RdCN w0 br N n wx 0 W) : RdSt w0 br (N + 10 * n) W ∧ Keep (fun k => k ≠ br) wx W := by
  obtain ⟨M, h1, h2, h3⟩ := h
  exact ⟨h2.mono (by omega), h3⟩
theorem RdCN.kp {w0 : World} {br N n m : Nat} {wx W : World} (h : RdCN w0 br N n wx m W) : Keep (fun k => k ≠ br) wx W := by
  obtain ⟨M, h1, h2, h3⟩ := h
  exact h3
theorem rm_one9 (w : World) (r : Rm) : layRm.S (w.alloc (.cells #[.int .i64 r.x, .int .i64 r.v] 29)) (.slice (some ⟨w.heap.size, 0, none⟩) 1 1) [r] := by
  refine ⟨_, 1, rfl, Nat.le_refl _, by show 1 * 16 ≤ _; omega, fun _ => ⟨w.heap.size, 0, rfl, by simp, fun j u hj => ?_⟩⟩
  rw [Nat.zero_add]
  match j with
  | 0 => injection hj with hj; subst hj; exact World.cell?_alloc_at _ _ _ _ rfl
  | 1 => injection hj with hj; subst hj; exact World.cell?_alloc_at _ _ _ _ rfl
/-- Removal k of a list: its two cells. -/
theorem layRm_at {w : World} {A : Option Addr} {n c : Nat} {xs : List Rm} (h : layRm.S w (.slice A n c) xs) {k : Nat} (hk : k < xs.length) :
    ∃ b off, A = some ⟨b, off, none⟩ ∧ b < w.heap.size ∧ w.cell? ⟨b, off + k * 2, none⟩ = some (.int .i64 (rm0 xs k).x) ∧ w.cell? ⟨b, off + k * 2 + 1, none⟩ = some (.int .i64 (rm0 xs k).v) := by
  obtain ⟨b, off, e, hb, hc⟩ := LayS.at_ h (by omega)
  have e0 : rm0 xs k = xs[k] := by unfold rm0; rw [getD_lt _ _ hk]
  refine ⟨b, off, e, hb, hc (k * 2) _ ?_, ?_⟩
  · rw [e0]; exact (layRmOk.flat_at xs k 0 hk (by decide)).trans rfl
  · rw [Nat.add_assoc]
    refine hc (k * 2 + 1) _ ?_
    rw [e0]; exact (layRmOk.flat_at xs k 1 hk (by decide)).trans rfl
set_option maxRecDepth 100000 in
set_option maxHeartbeats 16000000 in
theorem DrawExplainB_any (v : Value) (nb : Nat) (w : World) (hB : SBytes w v nb) : Calls Try.prog 9 #[v] w (DxGotB w) := by
  have HB := hide hB
  obtain ⟨A, cb, rfl, -⟩ := hB
  go_enter Try.func9, Try.ntmps9
  go_wp2_with fail
  refine (newReader_any w _ _ nb HB.out (((Ext.refl w).alloc _).alloc _)).mono ?_
  rintro e W1 ⟨br, rfl, hR1, hx1, hbr⟩
  have hbr : w.heap.size + 2 ≤ br := by simpa using hbr
  have hrb5 : RB w.heap.size 5 W1 := by
    refine RB.keep (S := fun _ => True) (w := (w.alloc (.cells #[.int .i64 0, .slice none 0 0, .slice none 0 0, .int .i64 0, .slice none 0 0] 26)).alloc (.cells #[.int .i64 0, .int .i64 0] 29)) ?_ (hx1.keep _) trivial
    refine RB.keep (S := fun _ => True) (w := w.alloc (.cells #[.int .i64 0, .slice none 0 0, .slice none 0 0, .int .i64 0, .slice none 0 0] 26)) ⟨by simp, fun i => World.frozen?_alloc_new _ _ _ _, fun i hi => ?_⟩ (((Ext.refl _).alloc _).keep _) trivial
    obtain rfl | rfl | rfl | rfl | rfl : i = 0 ∨ i = 1 ∨ i = 2 ∨ i = 3 ∨ i = 4 := by omega
    all_goals exact ⟨_, World.cell?_alloc_at _ _ _ _ rfl⟩
  have hrb2 : RB (w.heap.size + 1) 2 W1 := by
    have hs1 : (w.alloc (.cells #[.int .i64 0, .slice none 0 0, .slice none 0 0, .int .i64 0, .slice none 0 0] 26)).heap.size = w.heap.size + 1 := by simp
    refine RB.keep (S := fun _ => True) (w := (w.alloc (.cells #[.int .i64 0, .slice none 0 0, .slice none 0 0, .int .i64 0, .slice none 0 0] 26)).alloc (.cells #[.int .i64 0, .int .i64 0] 29)) ?_ (hx1.keep _) trivial
    rw [← hs1]
    refine ⟨by simp, fun i => World.frozen?_alloc_new _ _ _ _, fun i hi => ?_⟩
    obtain rfl | rfl : i = 0 ∨ i = 1 := by omega
    all_goals exact ⟨_, World.cell?_alloc_at _ _ _ _ rfl⟩
  have hbrl := hR1.lt
  have hws : w.heap.size + 2 ≤ W1.heap.size := by have := hx1.size; simp at this; omega
  have HX1 := hide ((((Ext.refl w).alloc _).alloc _).trans hx1)
  have HR1 := hide hR1
  have HRB5 := hide hrb5
  have HRB2 := hide hrb2
  clear hR1 hx1 hrb5 hrb2
  go_wp2_with fail
  refine (constraintAndDomains_any w br 0 _ (by omega) HR1.out).mono ?_
  rintro e W2 ⟨vc, c, dv, n, rfl, ⟨vv, va, vr, rfl, i1, i2, i3⟩, l1, l2, hLR, n1, n4, hR2, hK2⟩
  obtain ⟨ds, hdl, hd, hdb⟩ := LN.iv (.inr hLR) (by omega) (by omega) (by omega)
  obtain rfl : n = ds.length := hdl.symm
  obtain ⟨Av, ev, rfl, -⟩ := i1.form
  obtain ⟨Aa, ea, rfl, -⟩ := i2.form
  obtain ⟨Ar, er, rfl, -⟩ := i3.1.form
  obtain ⟨Ad, ed, rfl, -⟩ := hd.form
  have hx3 : Ext W2 (W2.alloc (.cells #[.int .i64 c.kk, .slice Av c.vars.length ev, .slice Aa c.args.length ea, .int .i64 c.bound, .slice Ar c.rows.length er] 26)) := (Ext.refl W2).alloc _
  have HD := hide (show DX w br 140 W2.heap.size W1 (W2.alloc (.cells #[.int .i64 c.kk, .slice Av c.vars.length ev, .slice Aa c.args.length ea, .int .i64 c.bound, .slice Ar c.rows.length er] 26)) c (.slice Av c.vars.length ev) (.slice Aa c.args.length ea) (.slice Ar c.rows.length er) (.slice Ad ds.length ed) ds from
    ⟨World.cell?_alloc_at _ _ _ _ rfl, World.cell?_alloc_at _ _ _ _ rfl, World.cell?_alloc_at _ _ _ _ rfl, World.cell?_alloc_at _ _ _ _ rfl, World.cell?_alloc_at _ _ _ _ rfl, by simp, hK2.size, hbrl, i1.ltS.ext hx3, i2.ltS.ext hx3, i3.ltS.ext hx3, hd.ltS.ext hx3, n1, n4, hK2.trans (hx3.keep _), hR2.grow hx3⟩)
  clear i1 i2 i3 hLR hd hR2 hdl hdb
  go_upto_region 3 with fail
  obtain ⟨W3, hW3⟩ : ∃ W3, W3 = W2.alloc (.cells #[.int .i64 c.kk, .slice Av c.vars.length ev, .slice Aa c.args.length ea, .int .i64 c.bound, .slice Ar c.rows.length er] 26) := ⟨_, rfl⟩
  obtain ⟨mb, hmb⟩ : ∃ mb, mb = W2.heap.size := ⟨_, rfl⟩
  have hs2 := hK2.size
  rw [← hW3, ← hmb] at HD
  rw [← hW3, ← hmb]
  have hmbr : mb ≠ br := by omega
  clear hW3 hx3 hK2 hmb
  obtain ⟨q0, q1, q2, q3, q4, hml⟩ := HD.out.cells
  cases hvd : inR ds.length 1 4 && allR ds 0 63 with
  | false =>
    have HVD := hide hvd
    clear hvd
    go_wp2_with (go_at_call 30; refine (validDomains_any _ ds _ HD.out.d.ints).mono ?_; rintro e w' ⟨rfl, rfl⟩; rw [HVD.out])
    try clear q0 q1 q2 q3 q4 hml
    obtain ⟨q0, q1, q2, q3, q4, hml⟩ := HD.out.cells
    go_upto_region 13 with fail
    refine wp_region_any (by kernel_rfl) ?_
    change wpAny _ _ _ _ _ _ _ (World.drew _)
    refine wpAny_take (i := 1) (v := ?_) rfl (by kernel_rfl) (by kernel_rfl) (by kernel_rfl) (by first | exact fun _ _ _ h => h | (rintro _ _ _ ⟨h, _⟩; cases h)) (Or.inl ⟨by rfl, ?hy1⟩) ?_
    case hy1 => intro w; go_simp; with_reducible rfl
    simp only [Act.put, List.getElem_toArray, List.getElem_cons_zero, List.getElem_cons_succ, List.setIfInBounds_toArray, List.set_cons_succ, List.set_cons_zero]
    refine wpAny_take (i := 2) (v := ?_) rfl (by kernel_rfl) (by kernel_rfl) (by kernel_rfl) (by first | exact fun _ _ _ h => h | (rintro _ _ _ ⟨h, _⟩; cases h)) (Or.inl ⟨by rfl, ?hy2⟩) ?_
    case hy2 => intro w; go_simp; with_reducible rfl
    simp only [Act.put, List.getElem_toArray, List.getElem_cons_zero, List.getElem_cons_succ, List.setIfInBounds_toArray, List.set_cons_succ, List.set_cons_zero]
    refine wpAny_take (i := 3) (v := ?_) rfl (by kernel_rfl) (by kernel_rfl) (by kernel_rfl) (by first | exact fun _ _ _ h => h | (rintro _ _ _ ⟨h, _⟩; cases h)) (Or.inl ⟨by rfl, ?hy3⟩) ?_
    case hy3 => intro w; go_simp; with_reducible rfl
    simp only [Act.put, List.getElem_toArray, List.getElem_cons_zero, List.getElem_cons_succ, List.setIfInBounds_toArray, List.set_cons_succ, List.set_cons_zero]
    refine wpAny_take (i := 4) (v := ?_) rfl (by kernel_rfl) (by kernel_rfl) (by kernel_rfl) (by first | exact fun _ _ _ h => h | (rintro _ _ _ ⟨h, _⟩; cases h)) (Or.inl ⟨by rfl, ?hy4⟩) ?_
    case hy4 => intro w; go_simp; with_reducible rfl
    simp only [Act.put, List.getElem_toArray, List.getElem_cons_zero, List.getElem_cons_succ, List.setIfInBounds_toArray, List.set_cons_succ, List.set_cons_zero]
    refine wpAny_flt 0 6 [5] [7, 8] (.agg #[.int .i64 c.kk, .slice Av c.vars.length ev, .slice Aa c.args.length ea, .int .i64 c.bound, .slice Ar c.rows.length er]) (fun w => w.cell? ⟨mb, 0, none⟩ = some (.int .i64 c.kk) ∧ w.cell? ⟨mb, 1, none⟩ = some (.slice Av c.vars.length ev) ∧ w.cell? ⟨mb, 2, none⟩ = some (.slice Aa c.args.length ea) ∧ w.cell? ⟨mb, 3, none⟩ = some (.int .i64 c.bound) ∧ w.cell? ⟨mb, 4, none⟩ = some (.slice Ar c.rows.length er)) rfl (by kernel_rfl) rfl (fun _ _ _ h => h) ⟨q0, q1, q2, q3, q4⟩ (And.intro (by rfl) ?hys) ?_
    case hys => intro w' hw'; obtain ⟨hk0, hk1, hk2, hk3, hk4⟩ : w'.cell? ⟨mb, 0, none⟩ = some (.int .i64 c.kk) ∧ w'.cell? ⟨mb, 1, none⟩ = some (.slice Av c.vars.length ev) ∧ w'.cell? ⟨mb, 2, none⟩ = some (.slice Aa c.args.length ea) ∧ w'.cell? ⟨mb, 3, none⟩ = some (.int .i64 c.bound) ∧ w'.cell? ⟨mb, 4, none⟩ = some (.slice Ar c.rows.length er) := hw'; go_simp; all_goals exact rfl
    simp only [nths, nth1, Act.put, List.setIfInBounds_toArray, List.set_cons_succ, List.set_cons_zero]
    refine wpSeqC_cons fun K hK => ?_
    go_simp
    refine (randomRemoval_any w br (140) ds.length _ (by omega) (by omega) (by omega) (HD.out.rd.grow (Ext.refl W3).drew)).mono ?_
    rintro e W9 ⟨x, y, rfl, x0, x1, yy0, yy1, hR9, hK9⟩
    have hK9 : Keep (fun k => k ≠ br) W3 W9 := (((Ext.refl W3).drew).keep _).trans hK9
    have HD9 := hide (HD.out.keep hR9 hK9)
    refine hK _ _ ⟨HD9.out.c0, HD9.out.c1, HD9.out.c2, HD9.out.c3, HD9.out.c4⟩ ?_
    clear hK K hR9 hK9 q0 q1 q2 q3 q4 hml
    refine wpSeqC_nil ?_
    obtain ⟨hrl, u0, u1, u2, u3, u4, r0, r1, r2, r3, r4, z0, z1, z2, z3, z4⟩ := (HRB5.out.keep HD9.out.kp (by omega)).five
    obtain ⟨hrl2, t0, t1, s0, s1, y0', y1'⟩ := (HRB2.out.keep HD9.out.kp (by omega)).two
    have hne : w.heap.size ≠ w.heap.size + 1 := by omega
    go_wp2_with fail
    refine bodyPost_ret (v := .tuple #[.agg #[.int .i64 c.kk, .slice Av c.vars.length ev, .slice Aa c.args.length ea, .int .i64 c.bound, .slice Ar c.rows.length er], .slice Ad ds.length ed, .agg #[.int .i64 x, .int .i64 y]]) (by simp only [results, Try.results9]; go_simp) rfl ?_
    exact HD9.out.done HX1.out hbr hws (r := ⟨x, y⟩) (by (repeat refine Keep.set ?_ (fun _ hh => by first | exact hh.1 rfl | exact hh.2 rfl) _); exact Keep.refl _ _) ⟨by omega, by omega, by omega, by omega⟩
  | true =>
    have HVD := hide hvd
    have hdl : DomL ds := DomL.of (by simp only [Bool.and_eq_true] at hvd; exact hvd.2)
    have HDL := hide hdl
    clear hvd hdl
    go_wp2_with (go_at_call 30; refine (validDomains_any _ ds _ HD.out.d.ints).mono ?_; rintro e w' ⟨rfl, rfl⟩; rw [HVD.out])
    refine (validConstraintS_any c _ _ _ ds.length _ HD.out.iv.ints HD.out.ia.ints HD.out.ir.rows (by omega) (by omega)).mono ?_
    rintro e W4 ⟨rfl, hx4⟩
    have HD4 := hide (HD.out.grow hx4)
    clear hx4 q0 q1 q2 q3 q4 hml
    obtain ⟨q0, q1, q2, q3, q4, hml⟩ := HD4.out.cells
    cases hvc : vCs c ds.length with
    | false =>
      have HVC := hide hvc
      clear hvc
      go_wp2_with fail
      try clear q0 q1 q2 q3 q4 hml
      obtain ⟨q0, q1, q2, q3, q4, hml⟩ := HD4.out.cells
      go_upto_region 13 with fail
      refine wp_region_any (by kernel_rfl) ?_
      change wpAny _ _ _ _ _ _ _ (World.drew _)
      refine wpAny_take (i := 1) (v := ?_) rfl (by kernel_rfl) (by kernel_rfl) (by kernel_rfl) (by first | exact fun _ _ _ h => h | (rintro _ _ _ ⟨h, _⟩; cases h)) (Or.inl ⟨by rfl, ?hy1⟩) ?_
      case hy1 => intro w; go_simp; with_reducible rfl
      simp only [Act.put, List.getElem_toArray, List.getElem_cons_zero, List.getElem_cons_succ, List.setIfInBounds_toArray, List.set_cons_succ, List.set_cons_zero]
      refine wpAny_take (i := 2) (v := ?_) rfl (by kernel_rfl) (by kernel_rfl) (by kernel_rfl) (by first | exact fun _ _ _ h => h | (rintro _ _ _ ⟨h, _⟩; cases h)) (Or.inl ⟨by rfl, ?hy2⟩) ?_
      case hy2 => intro w; go_simp; with_reducible rfl
      simp only [Act.put, List.getElem_toArray, List.getElem_cons_zero, List.getElem_cons_succ, List.setIfInBounds_toArray, List.set_cons_succ, List.set_cons_zero]
      refine wpAny_take (i := 3) (v := ?_) rfl (by kernel_rfl) (by kernel_rfl) (by kernel_rfl) (by first | exact fun _ _ _ h => h | (rintro _ _ _ ⟨h, _⟩; cases h)) (Or.inl ⟨by rfl, ?hy3⟩) ?_
      case hy3 => intro w; go_simp; with_reducible rfl
      simp only [Act.put, List.getElem_toArray, List.getElem_cons_zero, List.getElem_cons_succ, List.setIfInBounds_toArray, List.set_cons_succ, List.set_cons_zero]
      refine wpAny_take (i := 4) (v := ?_) rfl (by kernel_rfl) (by kernel_rfl) (by kernel_rfl) (by first | exact fun _ _ _ h => h | (rintro _ _ _ ⟨h, _⟩; cases h)) (Or.inl ⟨by rfl, ?hy4⟩) ?_
      case hy4 => intro w; go_simp; with_reducible rfl
      simp only [Act.put, List.getElem_toArray, List.getElem_cons_zero, List.getElem_cons_succ, List.setIfInBounds_toArray, List.set_cons_succ, List.set_cons_zero]
      refine wpAny_flt 0 6 [5] [7, 8] (.agg #[.int .i64 c.kk, .slice Av c.vars.length ev, .slice Aa c.args.length ea, .int .i64 c.bound, .slice Ar c.rows.length er]) (fun w => w.cell? ⟨mb, 0, none⟩ = some (.int .i64 c.kk) ∧ w.cell? ⟨mb, 1, none⟩ = some (.slice Av c.vars.length ev) ∧ w.cell? ⟨mb, 2, none⟩ = some (.slice Aa c.args.length ea) ∧ w.cell? ⟨mb, 3, none⟩ = some (.int .i64 c.bound) ∧ w.cell? ⟨mb, 4, none⟩ = some (.slice Ar c.rows.length er)) rfl (by kernel_rfl) rfl (fun _ _ _ h => h) ⟨q0, q1, q2, q3, q4⟩ (And.intro (by rfl) ?hys) ?_
      case hys => intro w' hw'; obtain ⟨hk0, hk1, hk2, hk3, hk4⟩ : w'.cell? ⟨mb, 0, none⟩ = some (.int .i64 c.kk) ∧ w'.cell? ⟨mb, 1, none⟩ = some (.slice Av c.vars.length ev) ∧ w'.cell? ⟨mb, 2, none⟩ = some (.slice Aa c.args.length ea) ∧ w'.cell? ⟨mb, 3, none⟩ = some (.int .i64 c.bound) ∧ w'.cell? ⟨mb, 4, none⟩ = some (.slice Ar c.rows.length er) := hw'; go_simp; all_goals exact rfl
      simp only [nths, nth1, Act.put, List.setIfInBounds_toArray, List.set_cons_succ, List.set_cons_zero]
      refine wpSeqC_cons fun K hK => ?_
      go_simp
      refine (randomRemoval_any w br (140) ds.length _ (by omega) (by omega) (by omega) (HD4.out.rd.grow (Ext.refl W4).drew)).mono ?_
      rintro e W9 ⟨x, y, rfl, x0, x1, yy0, yy1, hR9, hK9⟩
      have hK9 : Keep (fun k => k ≠ br) W4 W9 := (((Ext.refl W4).drew).keep _).trans hK9
      have HD9 := hide (HD4.out.keep hR9 hK9)
      refine hK _ _ ⟨HD9.out.c0, HD9.out.c1, HD9.out.c2, HD9.out.c3, HD9.out.c4⟩ ?_
      clear hK K hR9 hK9 q0 q1 q2 q3 q4 hml
      refine wpSeqC_nil ?_
      obtain ⟨hrl, u0, u1, u2, u3, u4, r0, r1, r2, r3, r4, z0, z1, z2, z3, z4⟩ := (HRB5.out.keep HD9.out.kp (by omega)).five
      obtain ⟨hrl2, t0, t1, s0, s1, y0', y1'⟩ := (HRB2.out.keep HD9.out.kp (by omega)).two
      have hne : w.heap.size ≠ w.heap.size + 1 := by omega
      go_wp2_with fail
      refine bodyPost_ret (v := .tuple #[.agg #[.int .i64 c.kk, .slice Av c.vars.length ev, .slice Aa c.args.length ea, .int .i64 c.bound, .slice Ar c.rows.length er], .slice Ad ds.length ed, .agg #[.int .i64 x, .int .i64 y]]) (by simp only [results, Try.results9]; go_simp) rfl ?_
      exact HD9.out.done HX1.out hbr hws (r := ⟨x, y⟩) (by (repeat refine Keep.set ?_ (fun _ hh => by first | exact hh.1 rfl | exact hh.2 rfl) _); exact Keep.refl _ _) ⟨by omega, by omega, by omega, by omega⟩
    | true =>
      have hcv : vCon c ds.length = true := by rw [vCon_vCs, hvc]; simp [inR]; omega
      have HCV := hide hcv
      clear hvc hcv
      go_wp2_with fail
      refine (pick_any w br 140 4 _ (by omega) (by omega) (by omega) HD4.out.rd).mono ?_
      rintro e W5 ⟨z, z0, z1, rfl, hR5, hK5⟩
      have HD5 := hide (HD4.out.keep hR5 hK5)
      clear hR5 hK5 q0 q1 q2 q3 q4 hml
      obtain ⟨q0, q1, q2, q3, q4, hml⟩ := HD5.out.cells
      by_cases hz : 0 < z
      · go_wp2_with fail
        have hx6 : Ext W5 (W5.alloc (.cells #[] 29)) := (Ext.refl W5).alloc _
        have HD6 := hide (HD5.out.grow hx6)
        have HA6 := hide (LayApp.empty (L := layRm) W5 (o := .cells #[] 29) rfl)
        refine (supported_any _ _ c ds _ ⟨_, _, _, rfl, HD6.out.iv.ints, HD6.out.ia.ints, HD6.out.ir.rows⟩ HD6.out.d.ints HCV.out HDL.out).mono ?_
        intro e W7 hres
        obtain ⟨fv, hfe⟩ : ∃ u, e = .returned u := by obtain ⟨A, c, b, m, f, h1, -⟩ := hres; exact ⟨_, h1⟩
        subst hfe
        have hfl := (filtP_len (satB c) c.vars ds)
        have hfd : DomL (filtL c ds) ∧ (filtL c ds).length = ds.length := ⟨(GoodD.filt (cs := [c]) (n := ds.length) ⟨rfl, HDL.out, fun i hi => by
          obtain rfl : i = 0 := by simpa using hi
          exact HCV.out⟩ (i := 0) (by simp)).1.2.1, hfl⟩
        have HS7 := hide (hres.ints (fun i hi => by have := hfd.1 i hi; unfold I64; omega))
        have hx7 := hres.ext0
        obtain ⟨Af, ef, rfl⟩ := hres.form
        have HD7 := hide (HD6.out.grow hx7)
        have HA7 := hide (LayApp.ext HA6.out hx7)
        have hs7 := hx7.size
        have HFD := hide hfd
        clear hres hx7 hfl hfd q0 q1 q2 q3 q4 hml
        go_wp2_with fail
        refine (removals_any _ (filtL c ds) _ HS7.out HFD.out.1 (by rw [HFD.out.2]; omega)).mono ?_
        rintro e W8 ⟨lv, rfl, hL8, hx8⟩
        obtain ⟨L, hL⟩ : ∃ L, L = rmA0 (filtL c ds) (filtL c ds).length := ⟨_, rfl⟩
        rw [← hL] at hL8
        have hLb : ∀ x ∈ L, 0 ≤ x.x ∧ x.x < ds.length ∧ 0 ≤ x.v ∧ x.v < 6 := fun x hx => by rw [hL, HFD.out.2] at hx; exact rmA0_mem _ _ x hx
        have hLl : L.length ≤ 24 := by rw [hL, HFD.out.2]; have := rmA0_len (filtL c ds) ds.length; omega
        obtain ⟨AL, eL, rfl, -, -⟩ := LayApp.form hL8
        have hLK : layRm.K (fun k => W7.heap.size ≤ k ∧ k < W8.heap.size) W8 (.slice AL L.length eL) L := ⟨LayApp.mono hL8 (Nat.zero_le _), fun g hg => World.ownsRow.lt hL8 g hg⟩
        have HLK := hide hLK
        have HLB := hide hLb
        have HD8 := hide (HD7.out.grow hx8)
        have hs8 := hx8.size
        have hG8 : layRm.K (fun k => k = W5.heap.size ∨ W8.heap.size ≤ k) W8 (.slice (some ⟨W5.heap.size, 0, none⟩) 0 0) [] := ⟨LayApp.mono (LayApp.ext HA7.out hx8) (Nat.zero_le _), fun g hg => by have hg : some W5.heap.size = some g := hg; injection hg with hg; exact .inl hg.symm⟩
        have HG8 := hide hG8
        have hs6 := hx6.size
        simp only [World.size_alloc] at hs6 hs7
        have hmb5 := HD5.out.sz
        clear hL8 hx8 hL hLb hLK hG8
        go_wp2_with fail
        go_loopw [8, 10] (fun o i wr => ∃ (j : Nat) (gs : List Rm), i = .int .i64 j ∧ j ≤ L.length ∧ gs.length ≤ j ∧ (∀ x ∈ gs, x ∈ L) ∧ layRm.K (fun k => k = W5.heap.size ∨ W8.heap.size ≤ k) wr o gs ∧ layRm.K (fun k => W7.heap.size ≤ k ∧ k < W8.heap.size) wr (.slice AL L.length eL) L ∧ W8.heap.size ≤ wr.heap.size ∧ DX w br 200 mb W1 wr c (.slice Av c.vars.length ev) (.slice Aa c.args.length ea) (.slice Ar c.rows.length er) (.slice Ad ds.length ed) ds) (fun _ i _ => L.length - (intOf i).toNat)
        case atStart => exact ⟨0, [], rfl, Nat.zero_le _, Nat.le_refl _, (fun x hx => by cases hx), HG8.out, HLK.out, Nat.le_refl _, HD8.out.mono (by omega)⟩
        case round =>
          obtain ⟨j, gs, rfl, hj, hgl, hgm, hG, hLr, hsr, hD⟩ := hrel
          have HG := hide hG
          have HGM := hide hgm
          have HLr := hide hLr
          have HDR := hide hD
          obtain ⟨Ag, gc, rfl, hgc, -⟩ := LayK.form hG
          clear hG hgm hLr hD
          by_cases hjn : j < L.length
          · have hjI : (j : Int) < L.length := by omega
            have hLS := LayApp.S HLr.out.1 (by show L.length * 16 ≤ _; omega)
            obtain ⟨lb, lo, rfl, hlbl, hx0, hv0⟩ := layRm_at hLS hjn
            obtain ⟨b1, b2, b3, b4⟩ := HLB.out (rm0 L j) (by unfold rm0; rw [getD_lt _ _ hjn]; exact List.getElem_mem hjn)
            obtain ⟨x, hx⟩ : ∃ x : Nat, (rm0 L j).x = x := ⟨(rm0 L j).x.toNat, by omega⟩
            obtain ⟨y, hy⟩ : ∃ y : Nat, (rm0 L j).v = y := ⟨(rm0 L j).v.toNat, by omega⟩
            rw [hx] at hx0 b1 b2
            rw [hy] at hv0 b3 b4
            have hrm : rm0 L j = ⟨x, y⟩ := by
              cases hq : rm0 L j with
              | mk a b => rw [hq] at hx hy; cases hx; cases hy; rfl
            have HRM := hide hrm
            have hxn : x < ds.length := by omega
            obtain ⟨db, dof, rfl, hdbl, d1⟩ := HDR.out.d.ints.at_ hxn
            have hdx := HDL.out x hxn
            clear hLS hx hy hrm
            go_wp2_with fail
            refine wp_region_ext (by kernel_rfl) (by kernel_rfl) ?_
            iterate 13 (apply quiet_val; (focus rfl); (focus (intro w' hw'; have hk' := hw'.cells; go_simp; all_goals exact rfl)); simp only [Act.put, List.setIfInBounds_toArray, List.set_cons_succ, List.set_cons_zero])
            apply quiet_call; (focus rfl); (focus (intro w' hw'; go_simp; all_goals (first | exact rfl | (apply And.intro <;> exact rfl))))
            · exact fun w' hw' => (domainHas_any (at0 ds x) y w' hdx.1 (by omega) (by omega)).mono fun e w2 h => ⟨h.1, h.2 ▸ hw'⟩
            (simp only [Act.put, List.setIfInBounds_toArray, List.set_cons_succ, List.set_cons_zero])
            refine wpQuiet_nil ?_
            intro w6 hx6'
            have HD6' := hide (HDR.out.grow hx6')
            have HG6' := hide (LayK.ext HG.out hx6')
            have HL6' := hide (LayK.ext HLr.out hx6')
            have hl0 := (hx6'.cells _ _ hlbl).trans hx0
            have hl1 := (hx6'.cells _ _ hlbl).trans hv0
            have hs6' := hx6'.size
            clear hx6' hx0 hv0 d1
            cases hq : hasB (at0 ds x) y with
            | true =>
              have HQ := hide hq
              clear hq
              go_wp2_with (at_builtin; go_must (refine wpList_appK (L := layRm) layRmOk _ rfl _ _ rfl (fun k => k = W5.heap.size ∨ W8.heap.size ≤ k) (.slice Ag gs.length gc) (.slice (some ⟨w6.heap.size, 0, none⟩) 1 1) gs [⟨x, y⟩] rfl rfl (LayK.ext HG6'.out ((Ext.refl _).alloc _)) (rm_one9 w6 ⟨x, y⟩) (by intro n c h; cases h) (by simp; omega) (by show (gs.length + 1) * 16 ≤ _; omega) (fun k hk => by simp at hk; omega) ?_); intro v' W9 hA9 hk9; obtain ⟨A9, c9, hv9, -, -⟩ := LayK.form hA9; subst hv9; have HA9 := hide hA9; have HK9 := hide hk9; clear hA9 hk9)
              go_roundw
              case rel =>
                have hk9 := HK9.out
                have hA9 := HA9.out
                rw [show (gs ++ [(⟨x, y⟩ : Rm)]).length = gs.length + 1 by simp] at hA9
                have hsz9 := hk9.size
                simp only [World.size_alloc] at hsz9
                have hk9' : Keep (fun k => ¬ (k = W5.heap.size ∨ W8.heap.size ≤ k)) w6 W9 := (((Ext.refl w6).alloc _).keep _).trans hk9
                have hmem : ∀ z ∈ gs ++ [(⟨x, y⟩ : Rm)], z ∈ L := fun z hz => by
                  rcases List.mem_append.1 hz with hz | hz
                  · exact HGM.out z hz
                  · simp at hz; subst hz; rw [← HRM.out]; unfold rm0; rw [getD_lt _ _ hjn]; exact List.getElem_mem hjn
                exact ⟨j + 1, gs ++ [⟨x, y⟩], by go_num, by omega, by simp; omega, hmem, hA9, LayK.keep HL6'.out hk9' (fun k hk => by omega), by omega, HD6'.out.keepS (by omega) hk9' (fun k hk => by omega)⟩
              case measure => simp [intOf]; omega
            | false =>
              clear hq
              go_wp2_with fail
              go_roundw
              case rel => exact ⟨j + 1, gs, by go_num, by omega, by omega, HGM.out, HG6'.out, HL6'.out, by omega, HD6'.out⟩
              case measure => simp [intOf]; omega
          · obtain rfl : j = L.length := by omega
            have hjI : ¬ ((L.length : Int) < L.length) := by omega
            clear HLr hmb5
            by_cases hg0 : 0 < gs.length
            · have hgI : (0 : Int) < gs.length := by omega
              obtain ⟨q0, q1, q2, q3, q4, hml⟩ := HDR.out.cells
              have hGS := LayApp.S HG.out.1 (by show gs.length * 16 ≤ _; omega)
              obtain ⟨gb, hgb, hgbl, hgbS⟩ : ∃ gb, Ag = some ⟨gb, 0, none⟩ ∧ gb < wr.heap.size ∧ (gb = W5.heap.size ∨ W8.heap.size ≤ gb) := by
                rcases HG.out.1.2 with ⟨-, e2⟩ | ⟨gb, cap, cur, e1, -, hh, -⟩
                · omega
                · injection e1 with e1
                  exact ⟨gb, e1, (Array.getElem?_eq_some_iff.1 hh).1, HG.out.2 gb (by rw [e1]; rfl)⟩
              subst hgb
              have hgbr : gb ≠ br := by have := HD5.out.kp.size; omega
              have HGC := hide (show ∀ k, k < gs.length → ∃ x y : Int, -1 ≤ x ∧ x ≤ 4 ∧ 0 ≤ y ∧ y ≤ 6 ∧ wr.cell? ⟨gb, 0 + k * 2, none⟩ = some (.int .i64 x) ∧ wr.cell? ⟨gb, 0 + k * 2 + 1, none⟩ = some (.int .i64 y) from fun k hk => by
                obtain ⟨b, off, e, -, e0, e1⟩ := layRm_at hGS hk
                injection e with e
                injection e with e2 e3
                subst e2; subst e3
                obtain ⟨b1, b2, b3, b4⟩ := HLB.out (rm0 gs k) (HGM.out _ (by unfold rm0; rw [getD_lt _ _ hk]; exact List.getElem_mem hk))
                exact ⟨_, _, by omega, by omega, by omega, by omega, e0, e1⟩)
              clear hGS
              go_upto_region 12 with fail
              refine wp_region_any (by kernel_rfl) ?_
              change wpAny _ _ _ _ _ _ _ (World.drew _)
              refine wpAny_take (i := 1) (v := ?_) rfl (by kernel_rfl) (by kernel_rfl) (by kernel_rfl) (by first | exact fun _ _ _ h => h | (rintro _ _ _ ⟨h, _⟩; cases h)) (Or.inl ⟨by rfl, ?hy1⟩) ?_
              case hy1 => intro w; go_simp; with_reducible rfl
              simp only [Act.put, List.getElem_toArray, List.getElem_cons_zero, List.getElem_cons_succ, List.setIfInBounds_toArray, List.set_cons_succ, List.set_cons_zero]
              refine wpAny_take (i := 2) (v := ?_) rfl (by kernel_rfl) (by kernel_rfl) (by kernel_rfl) (by first | exact fun _ _ _ h => h | (rintro _ _ _ ⟨h, _⟩; cases h)) (Or.inl ⟨by rfl, ?hy2⟩) ?_
              case hy2 => intro w; go_simp; with_reducible rfl
              simp only [Act.put, List.getElem_toArray, List.getElem_cons_zero, List.getElem_cons_succ, List.setIfInBounds_toArray, List.set_cons_succ, List.set_cons_zero]
              refine wpAny_take (i := 3) (v := ?_) rfl (by kernel_rfl) (by kernel_rfl) (by kernel_rfl) (by first | exact fun _ _ _ h => h | (rintro _ _ _ ⟨h, _⟩; cases h)) (Or.inl ⟨by rfl, ?hy3⟩) ?_
              case hy3 => intro w; go_simp; with_reducible rfl
              simp only [Act.put, List.getElem_toArray, List.getElem_cons_zero, List.getElem_cons_succ, List.setIfInBounds_toArray, List.set_cons_succ, List.set_cons_zero]
              refine wpAny_take (i := 4) (v := ?_) rfl (by kernel_rfl) (by kernel_rfl) (by kernel_rfl) (by first | exact fun _ _ _ h => h | (rintro _ _ _ ⟨h, _⟩; cases h)) (Or.inl ⟨by rfl, ?hy4⟩) ?_
              case hy4 => intro w; go_simp; with_reducible rfl
              simp only [Act.put, List.getElem_toArray, List.getElem_cons_zero, List.getElem_cons_succ, List.setIfInBounds_toArray, List.set_cons_succ, List.set_cons_zero]
              refine wpAny_take (i := 5) (v := ?_) rfl (by kernel_rfl) (by kernel_rfl) (by kernel_rfl) (by first | exact fun _ _ _ h => h | (rintro _ _ _ ⟨h, _⟩; cases h)) (Or.inl ⟨by rfl, ?hy5⟩) ?_
              case hy5 => intro w; go_simp; with_reducible rfl
              simp only [Act.put, List.getElem_toArray, List.getElem_cons_zero, List.getElem_cons_succ, List.setIfInBounds_toArray, List.set_cons_succ, List.set_cons_zero]
              refine wpAny_fltA 0 9 (.agg #[.int .i64 c.kk, .slice Av c.vars.length ev, .slice Aa c.args.length ea, .int .i64 c.bound, .slice Ar c.rows.length er]) (fun w => w.cell? ⟨mb, 0, none⟩ = some (.int .i64 c.kk) ∧ w.cell? ⟨mb, 1, none⟩ = some (.slice Av c.vars.length ev) ∧ w.cell? ⟨mb, 2, none⟩ = some (.slice Aa c.args.length ea) ∧ w.cell? ⟨mb, 3, none⟩ = some (.int .i64 c.bound) ∧ w.cell? ⟨mb, 4, none⟩ = some (.slice Ar c.rows.length er)) rfl (by kernel_rfl) (fun _ _ _ h => h) ⟨q0, q1, q2, q3, q4⟩ (And.intro (by rfl) ?hys) ?_
              case hys => intro w' hw'; obtain ⟨hk0, hk1, hk2, hk3, hk4⟩ : w'.cell? ⟨mb, 0, none⟩ = some (.int .i64 c.kk) ∧ w'.cell? ⟨mb, 1, none⟩ = some (.slice Av c.vars.length ev) ∧ w'.cell? ⟨mb, 2, none⟩ = some (.slice Aa c.args.length ea) ∧ w'.cell? ⟨mb, 3, none⟩ = some (.int .i64 c.bound) ∧ w'.cell? ⟨mb, 4, none⟩ = some (.slice Ar c.rows.length er) := hw'; go_simp; all_goals exact rfl
              simp only [Act.put, List.setIfInBounds_toArray, List.set_cons_succ, List.set_cons_zero]
              refine wpAnyC_one (i := 6) (by kernel_rfl) rfl (by omega) (fun K hK => ?_)
              go_simp
              refine (pick_any w br 200 gs.length _ (by omega) (by omega) (by omega) (HDR.out.rd.grow (Ext.refl wr).drew)).mono ?_
              rintro e W9 ⟨z9, zz0, zz1, rfl, hR9, hK9⟩
              obtain ⟨k, rfl⟩ : ∃ k : Nat, z9 = k := ⟨z9.toNat, by omega⟩
              have hkl : k < gs.length := by omega
              have hK9 : Keep (fun k => k ≠ br) wr W9 := (((Ext.refl wr).drew).keep _).trans hK9
              have HD9 := hide (HDR.out.keep hR9 hK9)
              obtain ⟨x, y, x0, x1, yy0, yy1, d0, d1⟩ := HGC.out k hkl
              have d0 := (hK9.cell (p := ⟨gb, 0 + k * 2, none⟩) hgbl hgbr).trans d0
              have d1 := (hK9.cell (p := ⟨gb, 0 + k * 2 + 1, none⟩) hgbl hgbr).trans d1
              rw [Nat.zero_add] at d0 d1
              have hgb9 := Nat.lt_of_lt_of_le hgbl hK9.size
              refine hK _ _ ⟨HD9.out.c0, HD9.out.c1, HD9.out.c2, HD9.out.c3, HD9.out.c4⟩ ?_
              clear hK K hR9 hK9 q0 q1 q2 q3 q4 hml
              obtain ⟨q0, q1, q2, q3, q4, hml⟩ := HD9.out.cells
              obtain ⟨hrl, u0, u1, u2, u3, u4, r0, r1, r2, r3, r4, z0, z1, z2, z3, z4⟩ := (HRB5.out.keep HD9.out.kp (by omega)).five
              obtain ⟨hrl2, t0, t1, s0, s1, y0', y1'⟩ := (HRB2.out.keep HD9.out.kp (by omega)).two
              have hne : w.heap.size ≠ w.heap.size + 1 := by omega
              have hgr : gb ≠ w.heap.size := by have := HD5.out.kp.size; omega
              have hkI : (k : Int) < gs.length := by omega
              refine wpAnyC_tk9 (i := 7) (by kernel_rfl) rfl rfl (by omega) (fun K hK => ?_) (fun K hK => ?_)
              · go_simp
                refine hK _ _ ⟨q0, q1, q2, q3, q4⟩ ?_
                clear hK K
                refine wpAnyC_tk9 (i := 8) (by kernel_rfl) rfl rfl (by omega) (fun K hK => ?_) (fun K hK => ?_)
                · go_simp
                  refine hK _ _ ⟨q0, q1, q2, q3, q4⟩ ?_
                  clear hK K
                  refine wpAnyC_end (t := 9) (ts := [10, 11]) (l := [_, _, _]) rfl (by kernel_rfl) ?_
                  skip
                  go_wp2_with fail
                  refine bodyPost_ret (v := .tuple #[.agg #[.int .i64 c.kk, .slice Av c.vars.length ev, .slice Aa c.args.length ea, .int .i64 c.bound, .slice Ar c.rows.length er], .slice Ad ds.length ed, .agg #[.int .i64 x, .int .i64 y]]) (by simp only [results, Try.results9]; go_simp) rfl ?_
                  exact HD9.out.done HX1.out hbr hws (r := ⟨x, y⟩) (by (repeat refine Keep.set ?_ (fun _ hh => by first | exact hh.1 rfl | exact hh.2 rfl) _); exact Keep.refl _ _) ⟨by omega, by omega, by omega, by omega⟩
                · go_simp
                  refine hK _ _ ?_
                  clear hK K
                  refine wpAny_flt 8 11 [10] [] (.agg #[.int .i64 x, .int .i64 y]) (fun w => w.cell? ⟨gb, k * 2, none⟩ = some (.int .i64 x) ∧ w.cell? ⟨gb, k * 2 + 1, none⟩ = some (.int .i64 y)) rfl (by kernel_rfl) rfl (fun _ _ _ h => h) ⟨by go_simp, by go_simp⟩ (And.intro (by rfl) ?hyt) ?_
                  case hyt => intro w' hw'; obtain ⟨hk0, hk1⟩ : w'.cell? ⟨gb, k * 2, none⟩ = some (.int .i64 x) ∧ w'.cell? ⟨gb, k * 2 + 1, none⟩ = some (.int .i64 y) := hw'; go_simp; all_goals exact rfl
                  simp only [nths, nth1, Act.put, List.setIfInBounds_toArray, List.set_cons_succ, List.set_cons_zero]
                  refine wpSeqC_cons fun K hK => ?_
                  go_simp
                  refine hK _ _ ⟨by go_simp, by go_simp⟩ ?_
                  clear hK K
                  refine wpSeqC_nil ?_
                  go_wp2_with fail
                  refine bodyPost_ret (v := .tuple #[.agg #[.int .i64 c.kk, .slice Av c.vars.length ev, .slice Aa c.args.length ea, .int .i64 c.bound, .slice Ar c.rows.length er], .slice Ad ds.length ed, .agg #[.int .i64 x, .int .i64 y]]) (by simp only [results, Try.results9]; go_simp) rfl ?_
                  exact HD9.out.done HX1.out hbr hws (r := ⟨x, y⟩) (by (repeat refine Keep.set ?_ (fun _ hh => by first | exact hh.1 rfl | exact hh.2 rfl) _); exact Keep.refl _ _) ⟨by omega, by omega, by omega, by omega⟩
              · go_simp
                refine hK _ _ ?_
                clear hK K
                refine wpAny_take (i := 7) (v := ?_) rfl (by kernel_rfl) (by kernel_rfl) (by kernel_rfl) (by first | exact fun _ _ _ h => h | (rintro _ _ _ ⟨h, _⟩; cases h)) (Or.inl ⟨by rfl, ?hy7⟩) ?_
                case hy7 => intro w; go_simp; with_reducible rfl
                simp only [Act.put, List.getElem_toArray, List.getElem_cons_zero, List.getElem_cons_succ, List.setIfInBounds_toArray, List.set_cons_succ, List.set_cons_zero]
                refine wpAny_flt 8 11 [10] [] (.agg #[.int .i64 x, .int .i64 y]) (fun w => w.cell? ⟨gb, k * 2, none⟩ = some (.int .i64 x) ∧ w.cell? ⟨gb, k * 2 + 1, none⟩ = some (.int .i64 y)) rfl (by kernel_rfl) rfl (fun _ _ _ h => h) ⟨by go_simp, by go_simp⟩ (And.intro (by rfl) ?hyt) ?_
                case hyt => intro w' hw'; obtain ⟨hk0, hk1⟩ : w'.cell? ⟨gb, k * 2, none⟩ = some (.int .i64 x) ∧ w'.cell? ⟨gb, k * 2 + 1, none⟩ = some (.int .i64 y) := hw'; go_simp; all_goals exact rfl
                simp only [nths, nth1, Act.put, List.setIfInBounds_toArray, List.set_cons_succ, List.set_cons_zero]
                refine wpSeqC_cons fun K hK => ?_
                go_simp
                refine hK _ _ ⟨by go_simp, by go_simp⟩ ?_
                clear hK K
                refine wpSeqC_nil ?_
                go_wp2_with fail
                refine bodyPost_ret (v := .tuple #[.agg #[.int .i64 c.kk, .slice Av c.vars.length ev, .slice Aa c.args.length ea, .int .i64 c.bound, .slice Ar c.rows.length er], .slice Ad ds.length ed, .agg #[.int .i64 x, .int .i64 y]]) (by simp only [results, Try.results9]; go_simp) rfl ?_
                exact HD9.out.done HX1.out hbr hws (r := ⟨x, y⟩) (by (repeat refine Keep.set ?_ (fun _ hh => by first | exact hh.1 rfl | exact hh.2 rfl) _); exact Keep.refl _ _) ⟨by omega, by omega, by omega, by omega⟩
            · have hgI : ¬ (0 : Int) < gs.length := by omega
              try clear q0 q1 q2 q3 q4 hml
              obtain ⟨q0, q1, q2, q3, q4, hml⟩ := HDR.out.cells
              go_upto_region 13 with fail
              refine wp_region_any (by kernel_rfl) ?_
              change wpAny _ _ _ _ _ _ _ (World.drew _)
              refine wpAny_take (i := 1) (v := ?_) rfl (by kernel_rfl) (by kernel_rfl) (by kernel_rfl) (by first | exact fun _ _ _ h => h | (rintro _ _ _ ⟨h, _⟩; cases h)) (Or.inl ⟨by rfl, ?hy1⟩) ?_
              case hy1 => intro w; go_simp; with_reducible rfl
              simp only [Act.put, List.getElem_toArray, List.getElem_cons_zero, List.getElem_cons_succ, List.setIfInBounds_toArray, List.set_cons_succ, List.set_cons_zero]
              refine wpAny_take (i := 2) (v := ?_) rfl (by kernel_rfl) (by kernel_rfl) (by kernel_rfl) (by first | exact fun _ _ _ h => h | (rintro _ _ _ ⟨h, _⟩; cases h)) (Or.inl ⟨by rfl, ?hy2⟩) ?_
              case hy2 => intro w; go_simp; with_reducible rfl
              simp only [Act.put, List.getElem_toArray, List.getElem_cons_zero, List.getElem_cons_succ, List.setIfInBounds_toArray, List.set_cons_succ, List.set_cons_zero]
              refine wpAny_take (i := 3) (v := ?_) rfl (by kernel_rfl) (by kernel_rfl) (by kernel_rfl) (by first | exact fun _ _ _ h => h | (rintro _ _ _ ⟨h, _⟩; cases h)) (Or.inl ⟨by rfl, ?hy3⟩) ?_
              case hy3 => intro w; go_simp; with_reducible rfl
              simp only [Act.put, List.getElem_toArray, List.getElem_cons_zero, List.getElem_cons_succ, List.setIfInBounds_toArray, List.set_cons_succ, List.set_cons_zero]
              refine wpAny_take (i := 4) (v := ?_) rfl (by kernel_rfl) (by kernel_rfl) (by kernel_rfl) (by first | exact fun _ _ _ h => h | (rintro _ _ _ ⟨h, _⟩; cases h)) (Or.inl ⟨by rfl, ?hy4⟩) ?_
              case hy4 => intro w; go_simp; with_reducible rfl
              simp only [Act.put, List.getElem_toArray, List.getElem_cons_zero, List.getElem_cons_succ, List.setIfInBounds_toArray, List.set_cons_succ, List.set_cons_zero]
              refine wpAny_flt 0 6 [5] [7, 8] (.agg #[.int .i64 c.kk, .slice Av c.vars.length ev, .slice Aa c.args.length ea, .int .i64 c.bound, .slice Ar c.rows.length er]) (fun w => w.cell? ⟨mb, 0, none⟩ = some (.int .i64 c.kk) ∧ w.cell? ⟨mb, 1, none⟩ = some (.slice Av c.vars.length ev) ∧ w.cell? ⟨mb, 2, none⟩ = some (.slice Aa c.args.length ea) ∧ w.cell? ⟨mb, 3, none⟩ = some (.int .i64 c.bound) ∧ w.cell? ⟨mb, 4, none⟩ = some (.slice Ar c.rows.length er)) rfl (by kernel_rfl) rfl (fun _ _ _ h => h) ⟨q0, q1, q2, q3, q4⟩ (And.intro (by rfl) ?hys) ?_
              case hys => intro w' hw'; obtain ⟨hk0, hk1, hk2, hk3, hk4⟩ : w'.cell? ⟨mb, 0, none⟩ = some (.int .i64 c.kk) ∧ w'.cell? ⟨mb, 1, none⟩ = some (.slice Av c.vars.length ev) ∧ w'.cell? ⟨mb, 2, none⟩ = some (.slice Aa c.args.length ea) ∧ w'.cell? ⟨mb, 3, none⟩ = some (.int .i64 c.bound) ∧ w'.cell? ⟨mb, 4, none⟩ = some (.slice Ar c.rows.length er) := hw'; go_simp; all_goals exact rfl
              simp only [nths, nth1, Act.put, List.setIfInBounds_toArray, List.set_cons_succ, List.set_cons_zero]
              refine wpSeqC_cons fun K hK => ?_
              go_simp
              refine (randomRemoval_any w br (200) ds.length _ (by omega) (by omega) (by omega) (HDR.out.rd.grow (Ext.refl wr).drew)).mono ?_
              rintro e W9 ⟨x, y, rfl, x0, x1, yy0, yy1, hR9, hK9⟩
              have hK9 : Keep (fun k => k ≠ br) wr W9 := (((Ext.refl wr).drew).keep _).trans hK9
              have HD9 := hide (HDR.out.keep hR9 hK9)
              refine hK _ _ ⟨HD9.out.c0, HD9.out.c1, HD9.out.c2, HD9.out.c3, HD9.out.c4⟩ ?_
              clear hK K hR9 hK9 q0 q1 q2 q3 q4 hml
              refine wpSeqC_nil ?_
              obtain ⟨hrl, u0, u1, u2, u3, u4, r0, r1, r2, r3, r4, z0, z1, z2, z3, z4⟩ := (HRB5.out.keep HD9.out.kp (by omega)).five
              obtain ⟨hrl2, t0, t1, s0, s1, y0', y1'⟩ := (HRB2.out.keep HD9.out.kp (by omega)).two
              have hne : w.heap.size ≠ w.heap.size + 1 := by omega
              go_wp2_with fail
              refine bodyPost_ret (v := .tuple #[.agg #[.int .i64 c.kk, .slice Av c.vars.length ev, .slice Aa c.args.length ea, .int .i64 c.bound, .slice Ar c.rows.length er], .slice Ad ds.length ed, .agg #[.int .i64 x, .int .i64 y]]) (by simp only [results, Try.results9]; go_simp) rfl ?_
              exact HD9.out.done HX1.out hbr hws (r := ⟨x, y⟩) (by (repeat refine Keep.set ?_ (fun _ hh => by first | exact hh.1 rfl | exact hh.2 rfl) _); exact Keep.refl _ _) ⟨by omega, by omega, by omega, by omega⟩
      · go_wp2_with fail
        try clear q0 q1 q2 q3 q4 hml
        obtain ⟨q0, q1, q2, q3, q4, hml⟩ := HD5.out.cells
        go_upto_region 13 with fail
        refine wp_region_any (by kernel_rfl) ?_
        change wpAny _ _ _ _ _ _ _ (World.drew _)
        refine wpAny_take (i := 1) (v := ?_) rfl (by kernel_rfl) (by kernel_rfl) (by kernel_rfl) (by first | exact fun _ _ _ h => h | (rintro _ _ _ ⟨h, _⟩; cases h)) (Or.inl ⟨by rfl, ?hy1⟩) ?_
        case hy1 => intro w; go_simp; with_reducible rfl
        simp only [Act.put, List.getElem_toArray, List.getElem_cons_zero, List.getElem_cons_succ, List.setIfInBounds_toArray, List.set_cons_succ, List.set_cons_zero]
        refine wpAny_take (i := 2) (v := ?_) rfl (by kernel_rfl) (by kernel_rfl) (by kernel_rfl) (by first | exact fun _ _ _ h => h | (rintro _ _ _ ⟨h, _⟩; cases h)) (Or.inl ⟨by rfl, ?hy2⟩) ?_
        case hy2 => intro w; go_simp; with_reducible rfl
        simp only [Act.put, List.getElem_toArray, List.getElem_cons_zero, List.getElem_cons_succ, List.setIfInBounds_toArray, List.set_cons_succ, List.set_cons_zero]
        refine wpAny_take (i := 3) (v := ?_) rfl (by kernel_rfl) (by kernel_rfl) (by kernel_rfl) (by first | exact fun _ _ _ h => h | (rintro _ _ _ ⟨h, _⟩; cases h)) (Or.inl ⟨by rfl, ?hy3⟩) ?_
        case hy3 => intro w; go_simp; with_reducible rfl
        simp only [Act.put, List.getElem_toArray, List.getElem_cons_zero, List.getElem_cons_succ, List.setIfInBounds_toArray, List.set_cons_succ, List.set_cons_zero]
        refine wpAny_take (i := 4) (v := ?_) rfl (by kernel_rfl) (by kernel_rfl) (by kernel_rfl) (by first | exact fun _ _ _ h => h | (rintro _ _ _ ⟨h, _⟩; cases h)) (Or.inl ⟨by rfl, ?hy4⟩) ?_
        case hy4 => intro w; go_simp; with_reducible rfl
        simp only [Act.put, List.getElem_toArray, List.getElem_cons_zero, List.getElem_cons_succ, List.setIfInBounds_toArray, List.set_cons_succ, List.set_cons_zero]
        refine wpAny_flt 0 6 [5] [7, 8] (.agg #[.int .i64 c.kk, .slice Av c.vars.length ev, .slice Aa c.args.length ea, .int .i64 c.bound, .slice Ar c.rows.length er]) (fun w => w.cell? ⟨mb, 0, none⟩ = some (.int .i64 c.kk) ∧ w.cell? ⟨mb, 1, none⟩ = some (.slice Av c.vars.length ev) ∧ w.cell? ⟨mb, 2, none⟩ = some (.slice Aa c.args.length ea) ∧ w.cell? ⟨mb, 3, none⟩ = some (.int .i64 c.bound) ∧ w.cell? ⟨mb, 4, none⟩ = some (.slice Ar c.rows.length er)) rfl (by kernel_rfl) rfl (fun _ _ _ h => h) ⟨q0, q1, q2, q3, q4⟩ (And.intro (by rfl) ?hys) ?_
        case hys => intro w' hw'; obtain ⟨hk0, hk1, hk2, hk3, hk4⟩ : w'.cell? ⟨mb, 0, none⟩ = some (.int .i64 c.kk) ∧ w'.cell? ⟨mb, 1, none⟩ = some (.slice Av c.vars.length ev) ∧ w'.cell? ⟨mb, 2, none⟩ = some (.slice Aa c.args.length ea) ∧ w'.cell? ⟨mb, 3, none⟩ = some (.int .i64 c.bound) ∧ w'.cell? ⟨mb, 4, none⟩ = some (.slice Ar c.rows.length er) := hw'; go_simp; all_goals exact rfl
        simp only [nths, nth1, Act.put, List.setIfInBounds_toArray, List.set_cons_succ, List.set_cons_zero]
        refine wpSeqC_cons fun K hK => ?_
        go_simp
        refine (randomRemoval_any w br (141) ds.length _ (by omega) (by omega) (by omega) (HD5.out.rd.grow (Ext.refl W5).drew)).mono ?_
        rintro e W9 ⟨x, y, rfl, x0, x1, yy0, yy1, hR9, hK9⟩
        have hK9 : Keep (fun k => k ≠ br) W5 W9 := (((Ext.refl W5).drew).keep _).trans hK9
        have HD9 := hide (HD5.out.keep hR9 hK9)
        refine hK _ _ ⟨HD9.out.c0, HD9.out.c1, HD9.out.c2, HD9.out.c3, HD9.out.c4⟩ ?_
        clear hK K hR9 hK9 q0 q1 q2 q3 q4 hml
        refine wpSeqC_nil ?_
        obtain ⟨hrl, u0, u1, u2, u3, u4, r0, r1, r2, r3, r4, z0, z1, z2, z3, z4⟩ := (HRB5.out.keep HD9.out.kp (by omega)).five
        obtain ⟨hrl2, t0, t1, s0, s1, y0', y1'⟩ := (HRB2.out.keep HD9.out.kp (by omega)).two
        have hne : w.heap.size ≠ w.heap.size + 1 := by omega
        go_wp2_with fail
        refine bodyPost_ret (v := .tuple #[.agg #[.int .i64 c.kk, .slice Av c.vars.length ev, .slice Aa c.args.length ea, .int .i64 c.bound, .slice Ar c.rows.length er], .slice Ad ds.length ed, .agg #[.int .i64 x, .int .i64 y]]) (by simp only [results, Try.results9]; go_simp) rfl ?_
        exact HD9.out.done HX1.out hbr hws (r := ⟨x, y⟩) (by (repeat refine Keep.set ?_ (fun _ hh => by first | exact hh.1 rfl | exact hh.2 rfl) _); exact Keep.refl _ _) ⟨by omega, by omega, by omega, by omega⟩
theorem DrawExplain_any (v : Value) (nb : Nat) (w : World) (hB : SBytes w v nb) : Calls Try.prog 9 #[v] w (DxGot w) := (DrawExplainB_any v nb w hB).mono fun _ _ h => h.got
end Go.Proofs.Ytmfbdaocnijnpaa
