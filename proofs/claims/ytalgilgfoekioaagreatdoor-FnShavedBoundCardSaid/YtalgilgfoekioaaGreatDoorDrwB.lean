/- Draws of the generator: a model with few solutions or none. -/
import Derived.Test.YtalgilgfoekioaaGreatDoorDrwF
import Derived.Deep.CutBlock
import Derived.Deep.DeepCutAuto
import Derived.Test.YtalgilgfoekioaaGreatDoorRelZ
namespace Go.Proofs.YtalgilgfoekioaaGreatDoor
open Go.RowKit

set_option maxRecDepth 100000 in
/-- append of one constraint: which block is written, where the result lies. -/
theorem run_appCB (L base : Nat) (S : Nat → Prop) (w : World) (ty : TypeId) (v : Value) (cs : List Con) (c : Con) (b cp : Nat)
    (hown : CA L base S w v cs) (hc : CV5 L S w (fun j => w.cell? ⟨b, j, none⟩) c) (hl : cs.length ≤ 1000000) (hb : base ≤ w.heap.size) :
    ∃ v' w', (Builtin.append_ #[24, 24] ty #[v, .slice (some ⟨b, 0, none⟩) 1 cp]).run Tryz.prog w = .ok v' w' ∧ CA L base S w' v' (cs ++ [c]) ∧ w.grownBy w' v.ownBlock ∧ (∀ g, v.ownBlock = some g → base ≤ g) ∧ (∀ g, v'.ownBlock = some g → v.ownBlock = some g ∨ w.heap.size = g) := by
  obtain ⟨i, hi, hz⟩ := Option.map_eq_some_iff.1 Tryz.infoCd
  simp only [Prod.mk.injEq] at hz
  obtain ⟨hz1, hz2, hz3⟩ := hz
  obtain ⟨cells, h1, h2⟩ := hown
  have hc0 := hc
  obtain ⟨vv, va, vr, e0, e1, e2, e3, e4, q1, q2, q3, q4⟩ := hc
  obtain ⟨v', w', r1, r2, r3, -, r4⟩ := run_append_own_at (P := Tryz.prog) w base 24 ty 60 i _ 5 88 Tryz.underlying24 hi hz1 hz2 hz3 rfl (by omega) v cs.length cells h1 ⟨b, 0, none⟩ 1 cp [.int .i64 c.kk, vv, va, .int .i64 c.bound, vr] rfl
    (fun j u hj => by
      have hadd : (⟨b, 0, none⟩ : Addr).add j = ⟨b, j, none⟩ := by unfold Addr.add; split <;> simp_all
      rw [hadd]
      match j with
      | 0 => simp at hj; subst hj; exact e0
      | 1 => simp at hj; subst hj; exact e1
      | 2 => simp at hj; subst hj; exact e2
      | 3 => simp at hj; subst hj; exact e3
      | 4 => simp at hj; subst hj; exact e4
      | j + 5 => simp at hj)
    (fun u hu => by
      simp only [List.mem_cons, List.not_mem_nil, or_false] at hu
      rcases hu with rfl | rfl | rfl | rfl | rfl
      · rfl
      · exact q1.oneC
      · exact q2.oneC
      · rfl
      · exact q3.oneC)
    (by unfold maxLen; omega) (by omega) hb
  have hcl : cells.length = cs.length * 5 := h1.1
  have hkeep : ∀ {F : Nat → Option Value} {d : Con}, CV5 L S w F d → CV5 L S w' F d := by
    intro F d hd
    rcases h1.2 with ⟨hv, -⟩ | ⟨g, cap, cur, hv, -, hgg, -⟩
    · refine hd.keep (T := fun _ => True) ⟨r3.os, r3.tape, r3.output, r3.size, fun k hk _ => r3.block k hk (by rw [hv]; simp [Value.ownBlock])⟩ (fun _ _ => trivial)
    · exact ((hd.apart (g := g) ⟨cur, hgg⟩).keep (T := fun k => k ≠ g) ⟨r3.os, r3.tape, r3.output, r3.size, fun k hk hne => r3.block k hk (by rw [hv]; intro e; have e : some k = some g := e; injection e with e; exact hne e)⟩ (fun k hk => hk.2)).mono (fun k hk => hk.1)
  refine ⟨v', w', r1, ⟨cells ++ [.int .i64 c.kk, vv, va, .int .i64 c.bound, vr], by simpa using r2, fun i hi => ?_⟩, r3, fun g hg => (World.ownsRow.lt h1 g hg).1, fun g hg => r4.imp (fun e => e.symm.trans hg) (fun e => by rw [hg] at e; injection e with e; exact e.symm)⟩
  simp at hi
  by_cases hlt : i < cs.length
  · rw [show con0 (cs ++ [c]) i = con0 cs i by simp [con0, List.getD_eq_getElem?_getD, List.getElem?_append_left hlt]]
    exact (hkeep (h2 i hlt)).cast fun j hj => (List.getElem?_append_left (by omega)).symm
  · obtain rfl : i = cs.length := by omega
    rw [show con0 (cs ++ [c]) cs.length = c by simp [con0]]
    refine (hkeep (F := fun j => [Value.int .i64 c.kk, vv, va, .int .i64 c.bound, vr][j]?) ⟨vv, va, vr, rfl, rfl, rfl, rfl, rfl, q1, q2, q3, q4⟩).cast fun j hj => ?_
    show _ = (cells ++ _)[cs.length * 5 + j]?
    rw [List.getElem?_append_right (by omega), hcl, show cs.length * 5 + j - cs.length * 5 = j by omega]
theorem wpList_appCB (w : World) {ops : Array Oper} {rest : List Oper} {o : Oper} {a : Act} {Q : Exit → Act → World → Prop} (hgd : o.guard = none) (s x : Operand)
    (ho : o.op = .call { callee := .builtin .append, args := #[s, x], argTypes := #[24, 24] })
    (L base : Nat) (S : Nat → Prop) (v : Value) (cs : List Con) (c : Con) (b cp : Nat) (hs : a.eval s = v) (hx : a.eval x = .slice (some ⟨b, 0, none⟩) 1 cp)
    (hown : CA L base S w v cs) (hc : CV5 L S w (fun j => w.cell? ⟨b, j, none⟩) c) (hl : cs.length ≤ 1000000) (hb : base ≤ w.heap.size)
    (h : ∀ v' w', CA L base S w' v' (cs ++ [c]) → Keep (fun k => v.ownBlock ≠ some k) w w' → (∀ g, v'.ownBlock = some g → v.ownBlock = some g ∨ w.heap.size = g) → wpList Tryz.prog ops Q rest (a.put o.dst v') w') : wpList Tryz.prog ops Q (o :: rest) a w := by
  obtain ⟨v', w', hrun, h1, h2, -, h4⟩ := run_appCB L base S w o.type v cs c b cp hown hc hl hb
  refine wpList_plain hgd fun K hK => ?_
  unfold Oper.wp
  simp [execOp, ho, resolve, invoke, builtin, hs, hx, hrun, Result.andThen]
  exact hK _ _ (h v' w' h1 (Keep.of_grown h2) h4)
theorem MB.keepS {w0 : World} {br rb mc N : Nat} {W wr w2 : World} {dv cv : Value} {S : Nat → Prop} (h : MB w0 br rb mc N W wr dv cv) (hk : Keep S wr w2) (h1 : S mc) (h2 : S rb) (h3 : S br) (h4 : ∀ k, k < W.heap.size → S k) : MB w0 br rb mc N W w2 dv cv := by
  have b0 := h.b0
  have hw0 := h.w00
  exact ⟨(hk.cell (p := ⟨mc, 0, none⟩) h.b1 h1).trans h.c0, (hk.cell (p := ⟨mc, 1, none⟩) h.b1 h1).trans h.c1, fun i => (hk.frz (p := ⟨mc, i, none⟩) h.b1 h1).trans (h.fz i),
    h.r.keep hk h2, h.rd.keep hk h3 (fun k hk => h4 k (by omega)), h.kp.trans9 hk (fun k hk _ => h4 k hk), b0, Nat.lt_of_lt_of_le h.b1 hk.size, h.r0, h.ne, h.br0, hw0⟩
theorem CA.keepO {L base : Nat} {S T : Nat → Prop} {w w' : World} {v : Value} {cs : List Con} (h : CA L base S w v cs) (hk : Keep T w w') (hb : ∀ g, v.ownBlock = some g → T g) (hS : ∀ k, S k → T k) : CA L base S w' v cs := by
  obtain ⟨cells, h1, h2⟩ := h
  refine ⟨cells, ⟨h1.1, ?_⟩, fun i hi => (h2 i hi).keep hk hS⟩
  rcases h1.2 with hn | ⟨g, cap, cur, e, hbg, hgg, rest⟩
  · exact .inl hn
  · exact .inr ⟨g, cap, cur, e, hbg, (hk.block g (Array.getElem?_eq_some_iff.1 hgg).1 (hb g (by rw [e]; rfl))).trans hgg, rest⟩
theorem CA.mono9 {L base : Nat} {S T : Nat → Prop} {w : World} {v : Value} {cs : List Con} (h : CA L base S w v cs) (hS : ∀ k, S k → T k) : CA L base T w v cs := by
  obtain ⟨cells, h1, h2⟩ := h
  exact ⟨cells, h1, fun i hi => (h2 i hi).mono hS⟩
theorem CA.nb {L base : Nat} {S : Nat → Prop} {w : World} {v : Value} {cs : List Con} (h : CA L base S w v cs) : CA L base (fun k => S k ∧ k ≠ w.heap.size) w v cs := by
  obtain ⟨cells, h1, h2⟩ := h
  refine ⟨cells, h1, fun i hi => ?_⟩
  obtain ⟨vv, va, vr, e0, e1, e2, e3, e4, q1, q2, q3, q4⟩ := h2 i hi
  exact ⟨vv, va, vr, e0, e1, e2, e3, e4, q1.nb, q2.nb, q3.nb, q4⟩
/-- The model is copied into the result's block. -/
theorem MB.done {w0 : World} {br rb mc N M B n : Nat} {W wr w' : World} {dv cv : Value} {cs : List Con} {S : Nat → Prop} (h : MB w0 br rb mc N W wr dv cv) (hr : rb = W.heap.size) (hn1 : 1 ≤ n) (hn4 : n ≤ 4) (hL : LR (W.heap.size + 1) 3 1 wr dv n 0 63) (hdb : ∀ g, dv.ownBlock = some g → g < B)
    (hA : CA 99 B S wr cv cs) (hS : ∀ k, S k → B ≤ k) (hB1 : W.heap.size + 1 ≤ B) (hB2 : B ≤ wr.heap.size) (hk : Keep (fun k => k ≠ rb) wr w') (hN : N ≤ M) :
    MV 99 W.heap.size B 0 63 w' dv cv n cs ∧ RdSt w0 br M w' ∧ Keep (fun k => k ≠ br) W w' := by
  subst hr
  have hbr := h.br0
  have hw0 := h.w00
  refine ⟨⟨hn1, hn4, (hL.keep hk (fun k hk => by omega)).mono (by omega) (by omega) (by omega), hdb, (hA.mono9 hS).keep hk (fun k hk => by omega) (fun k hk => by omega), by omega, Nat.le_trans hB2 hk.size⟩, (h.rd.mono hN).keep hk (by omega) (fun k hk => by omega), h.kp.trans9 hk (fun k hk _ => by omega)⟩
/-- A row of numbers becomes a list of the draw, in other blocks. -/
theorem LR.iv9 {base : Nat} {w : World} {v : Value} {n : Nat} {lo hi : Int} (h : LR base 3 1 w v n lo hi) (hn : n ≤ 100) (h1 : -100000 ≤ lo) (h2 : hi ≤ 100000) : ∃ xs, xs.length = n ∧ IV (fun k => base ≤ k) w v xs := by
  obtain ⟨xs, a, b, -⟩ := LN.iv (.inr h) hn h1 h2
  exact ⟨xs, a, b⟩
set_option maxRecDepth 100000 in
set_option maxHeartbeats 4000000 in
theorem allIndicesD_any (n : Nat) (W : World) (hn : n ≤ 100) :
    Calls Tryz.prog 56 #[.int .i64 n] W (fun e W' => ∃ v, e = .returned v ∧ LR W.heap.size 3 1 W' v n 0 100 ∧ Ext W W') := by
  go_enter Tryz.func56, Tryz.ntmps56
  go_wp2_with fail
  go_loopw [3, 4] (fun o i wr => ∃ j : Nat, i = .int .i64 j ∧ j ≤ n ∧ LR W.heap.size 3 1 wr o j 0 100 ∧ Ext W wr) (fun _ i _ => n - (intOf i).toNat)
  case atStart => exact ⟨0, rfl, Nat.zero_le _, LR.empty 3 1 W 0 100, (Ext.refl W).alloc _⟩
  case round =>
    obtain ⟨j, rfl, hj, hL, hX⟩ := hrel
    have HL := hide hL
    have HX := hide hX
    obtain ⟨g, cap, rfl, hg, hgl, hcap⟩ := hL.form
    have hsz := hX.size
    clear hL hX
    by_cases hjk : j < n
    · have hjI : (j : Int) < n := by omega
      go_wp2_with (at_builtin; go_must (refine wpList_appLI _ rfl _ _ rfl W.heap.size (.slice (some ⟨g, 0, none⟩) j cap) j 1 0 100 wr.heap.size 1 rfl rfl (HL.out.ext ((Ext.refl _).alloc _)) (by omega) (new1 wr _ (by omega)) (by omega) (by simp; omega) ?_); intro v' W3 hL3 hb3; obtain ⟨g3, cap3, rfl, -, -, -⟩ := hL3.form; have HL3 := hide hL3; have HX3 := hide ((HX.out.alloc _).below hb3); clear hL3 hb3)
      go_roundw
      case rel => exact ⟨j + 1, by go_num, by omega, HL3.out, HX3.out⟩
      case measure => simp [intOf]; omega
    · obtain rfl : j = n := by omega
      have hjI : ¬ ((j : Int) < j) := by omega
      go_wp2_with fail
      go_ret
      exact ⟨_, rfl, HL.out, HX.out⟩
set_option maxRecDepth 100000 in
set_option maxHeartbeats 8000000 in
theorem hardModel_any (w0 : World) (br N : Nat) (W : World) (hN : N ≤ 60000) (hR : RdSt w0 br N W) :
    Calls Tryz.prog 27 #[.pointer (some ⟨br, 0, none⟩)] W (MGot 99 w0 br (N + 900) 0 63 6 W) := by
  have HR := hide hR
  have hbr := hR.lt
  have hw0 := hR.ext.size
  clear hR
  go_enter Tryz.func27, Tryz.ntmps27
  go_wp2_with fail
  refine (randomModel_any w0 br N _ hN (HR.out.grow ((Ext.refl W).alloc _))).mono ?_
  rintro e W1 ⟨dv, cv, n, cs, B, rfl, hmv, hcs, hR1, hK1⟩
  obtain ⟨g, cap, hdv, hgA, hgl, -⟩ := hmv.ds.form
  subst hdv
  obtain ⟨Ac, ec, hcv, -⟩ := hmv.ca.form
  subst hcv
  have hsA : (W.alloc (.cells #[.slice none 0 0, .slice none 0 0] 26)).heap.size = W.heap.size + 1 := by simp
  rw [hsA] at hgA hmv
  have hs1 : W.heap.size + 1 ≤ W1.heap.size := by have := hK1.size; rw [hsA] at this; exact this
  have hrb1 : RB W.heap.size 2 W1 := by
    refine RB.keep (S := fun k => k ≠ br) ⟨by rw [hsA]; omega, fun i => World.frozen?_alloc_new _ _ _ _, fun i hi => ?_⟩ hK1 (by omega)
    obtain rfl | rfl : i = 0 ∨ i = 1 := by omega
    all_goals exact ⟨_, World.cell?_alloc_at _ _ _ _ rfl⟩
  have hgB : g < B := hmv.db g rfl
  have hBw := hmv.bw
  have hAB := hmv.ab
  have hn1 := hmv.n1
  have hn4 := hmv.n4
  have HAc := hide (show ∀ h', (Value.slice Ac cs.length ec).ownBlock = some h' → h' < W1.heap.size from by
    obtain ⟨cells, q1, -⟩ := hmv.ca
    exact fun h' hh' => (World.ownsRow.lt q1 h' hh').2)
  have hx2 : Ext W1 (W1.alloc (.cells #[.slice (some ⟨g, 0, none⟩) n cap, .slice Ac cs.length ec] 26)) := (Ext.refl W1).alloc _
  have HCA := hide (hmv.ca.nb.ext hx2)
  have HDS := hide (hmv.ds.ext hx2)
  have hkw := (((Ext.refl W).alloc (.cells #[.slice none 0 0, .slice none 0 0] 26)).keep (fun k => k ≠ br)).trans hK1
  have HMB := hide (show MB w0 br W.heap.size W1.heap.size (N + 500) W (W1.alloc (.cells #[.slice (some ⟨g, 0, none⟩) n cap, .slice Ac cs.length ec] 26)) (.slice (some ⟨g, 0, none⟩) n cap) (.slice Ac cs.length ec) from
    ⟨World.cell?_alloc_at _ _ _ _ rfl, World.cell?_alloc_at _ _ _ _ rfl, fun i => World.frozen?_alloc_new _ _ _ _, hrb1.keep (hx2.keep (fun _ => True)) trivial, hR1.grow hx2, hkw.trans (hx2.keep _), by omega, by simp, Nat.le_refl _, by omega, hbr, hw0⟩)
  clear hmv hrb1 hR1 hK1 hkw hx2
  go_wp2_with fail
  refine (pick_any w0 br (N + 500) 3 _ (by omega) (by omega) (by omega) HMB.out.rd).mono ?_
  rintro e W2 ⟨y, y0, y1, rfl, hR2, hK2⟩
  have hs2 := hK2.size
  have hbrW1 : br < W1.heap.size := by omega
  have HM2 := hide (HMB.out.keep hR2 hK2)
  have HCA2 := hide (HCA.out.keep hK2 (fun k hk => by omega) (fun k hk => by omega))
  have HDS2 := hide (HDS.out.keep hK2 (fun k hk => by omega))
  clear hR2 hK2
  obtain ⟨y, rfl⟩ : ∃ k : Nat, y = k := ⟨y.toNat, by omega⟩
  go_wp2_with fail
  go_loopw [4] (fun i wr => ∃ (j : Nat) (cv : Value) (cs : List Con), i = .int .i64 j ∧ j ≤ 2 ∧ cs.length + j ≤ 6 ∧ CA 99 B (fun k => B ≤ k ∧ k ≠ W1.heap.size) wr cv cs ∧ (∀ h', cv.ownBlock = some h' → h' ≠ W1.heap.size) ∧ LR (W.heap.size + 1) 3 1 wr (.slice (some ⟨g, 0, none⟩) n cap) n 0 63 ∧ MB w0 br W.heap.size W1.heap.size (N + 501 + 100 * (2 - j)) W wr (.slice (some ⟨g, 0, none⟩) n cap) cv) (fun i _ => (intOf i).toNat)
  case atStart => exact ⟨y, _, cs, rfl, by omega, by omega, HCA2.out, fun h' hh' => by have := HAc.out h' hh'; omega, HDS2.out, HM2.out.mono (by omega)⟩
  case round =>
    obtain ⟨j, cv, cs, rfl, hj2, hj, hA, hO, hL, hmb⟩ := hrel
    obtain ⟨Ac', ec', rfl, -⟩ := hA.form
    have HA := hide hA
    have HO := hide hO
    have HM4 := hide hmb
    have HL4 := hide hL
    have k0' := hmb.c0
    have k1' := hmb.c1
    have q0 := hmb.fz 0
    have q1 := hmb.fz 1
    have hmc4 := hmb.b1
    clear hA hmb hL hO
    by_cases hj0 : 0 < j
    · have hjI : 0 < (j : Int) := by omega
      have hjw : IntKind.i64.wrap ((j : Int) - 1) = (j : Int) - 1 := IntWalk.i64_in _ (by omega)
      have hcl : (cs.length : Int) < 6 := by omega
      go_upto_region 5 with fail
      refine wp_region_any (by kernel_rfl) ?_
      change wpAny _ _ _ _ _ _ _ (World.drew _)
      refine wpAny_take (i := 0) (v := ?_) rfl (by kernel_rfl) (by kernel_rfl) (by kernel_rfl) (by first | exact fun _ _ _ h => h | (rintro _ _ _ ⟨h, _⟩; cases h)) (Or.inl ⟨by rfl, ?hy0⟩) ?_
      case hy0 => intro w; go_simp; with_reducible rfl
      simp only [Act.put, List.getElem_toArray, List.getElem_cons_zero, List.setIfInBounds_toArray, List.set_cons_succ, List.set_cons_zero]
      refine wpAny_take (i := 2) (v := ?_) rfl (by kernel_rfl) (by kernel_rfl) (by kernel_rfl) (by first | exact fun _ _ _ h => h | (rintro _ _ _ ⟨h, _⟩; cases h)) (Or.inl ⟨by rfl, ?hy2⟩) ?_
      case hy2 => intro w; go_simp; with_reducible rfl
      simp only [Act.put, List.getElem_toArray, List.getElem_cons_zero, List.getElem_cons_succ, List.setIfInBounds_toArray, List.set_cons_succ, List.set_cons_zero]
      refine wpAny_take (i := 3) (v := ?_) rfl (by kernel_rfl) (by kernel_rfl) (by kernel_rfl) (by first | exact fun _ _ _ h => h | (rintro _ _ _ ⟨h, _⟩; cases h)) (Or.inl ⟨by rfl, ?hy3⟩) ?_
      case hy3 => intro w; go_simp; with_reducible rfl
      simp only [Act.put, List.getElem_toArray, List.getElem_cons_zero, List.getElem_cons_succ, List.setIfInBounds_toArray, List.set_cons_succ, List.set_cons_zero]
      refine wpAny_flt 1 8 [4, 5, 6, 7] [9, 10] (.slice Ac' cs.length ec') (fun w => w.cell? ⟨W1.heap.size, 1, none⟩ = some (.slice Ac' cs.length ec')) rfl (by kernel_rfl) rfl (fun _ _ _ h => h) k1' (And.intro (by rfl) ?hys) ?_
      case hys => intro w' hw'; have hk' : w'.cell? ⟨W1.heap.size, 1, none⟩ = some (.slice Ac' cs.length ec') := hw'; go_simp; all_goals exact rfl
      simp only [nths, nth1, Act.put, List.setIfInBounds_toArray, List.set_cons_succ, List.set_cons_zero]
      refine wpSeqC_cons fun K hK => ?_
      go_simp
      refine hK _ _ k1' ?_
      clear hK K
      refine wpSeqC_cons fun K hK => ?_
      go_simp
      refine hK _ _ k1' ?_
      clear hK K
      refine wpSeqC_cons fun K hK => ?_
      go_simp
      refine (randomConstraint_any w0 br _ n _ (by omega) (by omega) ?_ (HM4.out.rd.grow ((Ext.refl wr).drew))).mono ?_
      · omega
      rintro e W5 ⟨v, c, rfl, hlen, ⟨vv, va, vr, rfl, i1, i2, i3⟩, hR5, hK5⟩
      have hK5 : Keep (fun k => k ≠ br) wr W5 := (((Ext.refl wr).drew).keep _).trans hK5
      obtain ⟨A1, e1, hv1, -⟩ := i1.form
      obtain ⟨A3, e3, hv2, -⟩ := i2.form
      obtain ⟨A4, e4, hv3, -⟩ := i3.1.form
      subst hv1 hv2 hv3
      have HM5 := hide (HM4.out.keep hR5 hK5)
      have h5 := HM5.out.c1
      have hl5 := HM5.out.b1
      have hs5 := hK5.size
      have HL5 := hide (HL4.out.keep hK5 (fun k hk => by omega))
      have HA5 := hide (HA.out.keep hK5 (fun k hk => by omega) (fun k hk => by omega))
      have I1 := hide (i1.mono (T := fun k => B ≤ k ∧ k ≠ W1.heap.size) (fun k hk => by have hk : wr.heap.size ≤ k := hk; omega))
      have I2 := hide (i2.mono (T := fun k => B ≤ k ∧ k ≠ W1.heap.size) (fun k hk => by have hk : wr.heap.size ≤ k := hk; omega))
      have I3 := hide (i3.mono (T := fun k => B ≤ k ∧ k ≠ W1.heap.size) (fun k hk => by have hk : wr.heap.size ≤ k := hk; omega))
      refine hK _ _ h5 ?_
      clear hK K hR5 hK5 i1 i2 i3
      refine wpSeqC_cons fun K hK => ?_
      go_simp
      refine hK _ _ ?_ ?_
      · show World.cell? (World.alloc _ _) _ = _
        exact (((Ext.refl W5).alloc _).cells _ _ (by omega)).trans h5
      clear hK K
      refine wpSeqC_nil ?_
      refine wpList_appCB _ rfl _ _ rfl 99 B (fun k => B ≤ k ∧ k ≠ W1.heap.size) (.slice Ac' cs.length ec') cs c W5.heap.size 1 rfl rfl (HA5.out.ext ((Ext.refl _).alloc _)) ⟨_, _, _, World.cell?_alloc_at _ _ _ _ rfl, World.cell?_alloc_at _ _ _ _ rfl, World.cell?_alloc_at _ _ _ _ rfl, World.cell?_alloc_at _ _ _ _ rfl, World.cell?_alloc_at _ _ _ _ rfl, I1.out.ext ((Ext.refl _).alloc _), I2.out.ext ((Ext.refl _).alloc _), I3.out.ext ((Ext.refl _).alloc _), hlen⟩ (by omega) (by simp; omega) ?_
      intro v' W6 hA6 hk6 ho6
      have hxa : Ext W5 (W5.alloc (.cells #[.int .i64 c.kk, .slice A1 c.vars.length e1, .slice A3 c.args.length e3, .int .i64 c.bound, .slice A4 c.rows.length e4] 60)) := (Ext.refl W5).alloc _
      have hown : ∀ h', (Value.slice Ac' cs.length ec').ownBlock = some h' → B ≤ h' := fun h' hh' => by
        obtain ⟨cells, q1, -⟩ := HA5.out
        exact (World.ownsRow.lt q1 h' hh').1
      have HM6 := hide ((HM5.out.grow hxa).keepS hk6 (fun e => HO.out _ e rfl) (fun e => by have := hown _ e; omega) (fun e => by have := hown _ e; omega) (fun k hk e => by have := hown _ e; omega))
      have HL6 := hide ((HL5.out.ext hxa).keepb hk6 (fun g' hg' e => by have hg' : some g = some g' := hg'; injection hg' with hg'; have := hown _ e; omega))
      have HO6 := hide (show ∀ h', v'.ownBlock = some h' → h' ≠ W1.heap.size from fun h' hh' => (ho6 h' hh').elim (fun e => HO.out _ e) (fun e => by rw [World.size_alloc] at e; omega))
      have hs6 := hk6.size
      rw [World.size_alloc] at hs6
      have HA6 := hide hA6
      obtain ⟨Ac2, ec2, hcv, -⟩ := hA6.form
      rw [show (cs ++ [c]).length = cs.length + 1 by simp] at hcv
      subst hcv
      clear hA6 hk6 ho6 h5 k0' k1' q0 q1 hxa hown
      have h6 := HM6.out.c1
      have q6 := HM6.out.fz 1
      have hl6 := HM6.out.b1
      go_wp2_with fail
      go_roundw
      case rel =>
        refine ⟨j - 1, _, cs ++ [c], by go_num, by omega, by simp; omega, HA6.out.keepO (HM6.out.setk 1 _) HO6.out (fun k hk => hk.2), HO6.out, HL6.out.keepb (HM6.out.setk 1 _) (fun g' hg' => by have hg' : some g = some g' := hg'; injection hg' with hg'; omega), MB.set1 (HM6.out.mono (by omega)) _⟩
      case measure => simp [intOf]; omega
    · obtain rfl : j = 0 := by omega
      go_wp2_with fail
      refine (pick_any w0 br _ 3 _ (by omega) (by omega) ?_ HM4.out.rd).mono ?_
      · omega
      rintro e W7 ⟨z, z0, z1, rfl, hR7, hK7⟩
      have HM7 := hide (HM4.out.keep hR7 hK7)
      have HL7 := hide (HL4.out.keep hK7 (fun k hk => by omega))
      have HA7 := hide (HA.out.keep hK7 (fun k hk => by omega) (fun k hk => by omega))
      have hs7 := hK7.size
      clear hR7 hK7 k0' k1' q0 q1
      have m0 := HM7.out.c0
      have m1 := HM7.out.c1
      have hm7 := HM7.out.b1
      have hBwr : B ≤ W7.heap.size := by omega
      obtain ⟨hrl, u0, u1, r0, r1, s0, s1⟩ := HM7.out.r.two
      by_cases hz : z = 0
      · subst hz
        by_cases hc6 : cs.length < 6
        · have hc6I : (cs.length : Int) < 6 := by omega
          by_cases hn2 : 2 < n
          · have hn2I : 2 < (n : Int) := by omega
            have hnw : IntKind.i64.wrap ((n : Int) - 2) = (n : Int) - 2 := IntWalk.i64_in _ (by omega)
            go_wp2_with fail
            clear m0 m1 r0 r1 s0 s1
            go_loopw [5] (fun i wr => ∃ k : Nat, i = .int .i64 k ∧ k ≤ n ∧ LR (W.heap.size + 1) 3 1 wr (.slice (some ⟨g, 0, none⟩) n cap) n 0 63 ∧ MB w0 br W.heap.size W1.heap.size (N + 702) W wr (.slice (some ⟨g, 0, none⟩) n cap) (.slice Ac' cs.length ec') ∧ CA 99 B (fun k => B ≤ k ∧ k ≠ W1.heap.size) wr (.slice Ac' cs.length ec') cs ∧ W7.heap.size ≤ wr.heap.size) (fun i _ => n - (intOf i).toNat)
            case atStart => exact ⟨0, rfl, Nat.zero_le _, HL7.out, HM7.out.mono (by omega), HA7.out, Nat.le_refl _⟩
            case round =>
              obtain ⟨k, rfl, hkn, hL, hmb, hA8, hsz8⟩ := hrel
              have HL8 := hide hL
              have HM8 := hide hmb
              have HA8 := hide hA8
              have m0 := hmb.c0
              have m1 := hmb.c1
              have hm8 := hmb.b1
              clear hL hmb hA8
              by_cases hkl : k < n
              · have hkI : (k : Int) < n := by omega
                have hk0 : (0 : Int) ≤ k := by omega
                obtain ⟨⟨x, fx, -, -⟩, fz⟩ := HL8.out.cell (i := k) (by omega)
                have hgl8 : g < wr.heap.size := by omega
                go_upto_region 10 with fail
                refine wp_region_any (by kernel_rfl) ?_
                change wpAny _ _ _ _ _ _ _ (World.drew _)
                refine wpAny_take (i := 0) (v := ?_) rfl (by kernel_rfl) (by kernel_rfl) (by kernel_rfl) (by first | exact fun _ _ _ h => h | (rintro _ _ _ ⟨h, _⟩; cases h)) (Or.inl ⟨by rfl, ?hy0⟩) ?_
                case hy0 => intro w; go_simp; with_reducible rfl
                simp only [Act.put, List.getElem_toArray, List.getElem_cons_zero, List.setIfInBounds_toArray, List.set_cons_succ, List.set_cons_zero]
                refine wpAny_take (i := 2) (v := ?_) rfl (by kernel_rfl) (by kernel_rfl) (by kernel_rfl) (by first | exact fun _ _ _ h => h | (rintro _ _ _ ⟨h, _⟩; cases h)) (Or.inl ⟨by rfl, ?hy2⟩) ?_
                case hy2 => intro w; go_simp; with_reducible rfl
                simp only [Act.put, List.getElem_toArray, List.getElem_cons_zero, List.getElem_cons_succ, List.setIfInBounds_toArray, List.set_cons_succ, List.set_cons_zero]
                refine wpAny_take (i := 3) (v := ?_) rfl (by kernel_rfl) (by kernel_rfl) (by kernel_rfl) (by first | exact fun _ _ _ h => h | (rintro _ _ _ ⟨h, _⟩; cases h)) (Or.inl ⟨by rfl, ?hy3⟩) ?_
                case hy3 => intro w; go_simp; with_reducible rfl
                simp only [Act.put, List.getElem_toArray, List.getElem_cons_zero, List.getElem_cons_succ, List.setIfInBounds_toArray, List.set_cons_succ, List.set_cons_zero]
                refine wpAny_ofK (C := fun w => w.cell? ⟨W1.heap.size, 0, none⟩ = some (.slice (some ⟨g, 0, none⟩) n cap)) (n := 8) _ _ _ _ ?_
                refine wpAnyK_take 1 (.slice (some ⟨g, 0, none⟩) n cap) rfl (by kernel_rfl) (fun _ _ _ h => h) m0 (And.intro (by rfl) ?hy1) ?_
                case hy1 => intro w' hw'; have hk1 : w'.cell? ⟨W1.heap.size, 0, none⟩ = some (.slice (some ⟨g, 0, none⟩) n cap) := hw'; go_simp; all_goals exact rfl
                simp only [Act.put, List.setIfInBounds_toArray, List.set_cons_succ, List.set_cons_zero]
                refine wpAnyK_take 4 (.slice (some ⟨g, 0, none⟩) n cap) rfl (by kernel_rfl) (fun _ _ _ h => h) m0 (And.intro (by rfl) ?hy4) ?_
                case hy4 => intro w' hw'; have hk1 : w'.cell? ⟨W1.heap.size, 0, none⟩ = some (.slice (some ⟨g, 0, none⟩) n cap) := hw'; go_simp; all_goals exact rfl
                simp only [Act.put, List.setIfInBounds_toArray, List.set_cons_succ, List.set_cons_zero]
                refine wpAnyK_take 5 (.int .i64 n) rfl (by kernel_rfl) (fun _ _ _ h => h) m0 (And.intro (by rfl) ?hy5) ?_
                case hy5 => intro w' hw'; clear hw'; go_simp; all_goals exact rfl
                simp only [Act.put, List.setIfInBounds_toArray, List.set_cons_succ, List.set_cons_zero]
                refine wpAnyK_take 6 (.int .i64 ((n : Int) - 2)) rfl (by kernel_rfl) (fun _ _ _ h => h) m0 (And.intro (by rfl) ?hy6) ?_
                case hy6 => intro w' hw'; clear hw'; go_simp; all_goals exact rfl
                simp only [Act.put, List.setIfInBounds_toArray, List.set_cons_succ, List.set_cons_zero]
                refine wpAnyK_one (i := 7) (by kernel_rfl) rfl (by omega) (fun K hK => ?_)
                go_simp
                refine (DomainRangeS_any _ _ _).mono ?_
                rintro e W9 ⟨d, d0, d1, rfl, rfl⟩
                refine hK _ _ m0 ?_
                clear hK K
                refine wpAnyK_fin 8 [9] (by omega) (by kernel_rfl) ?_
                simp only [nths, nth1]
                go_wp2_with fail
                go_roundw
                case rel =>
                  have hks := (Keep.refl (fun k => k ≠ g) wr).set (p := ⟨g, k, none⟩) (fun _ hh => hh rfl) (.int .i64 d)
                  have hks : Keep (fun k => k ≠ g) wr ((wr.setCell ⟨g, k, none⟩ (.int .i64 d)).drew) := hks.trans (((Ext.refl _).drew).keep _)
                  have hown : ∀ g', (Value.slice Ac' cs.length ec').ownBlock = some g' → B ≤ g' := fun g' hg' => by
                    obtain ⟨cells, q1, -⟩ := HA8.out
                    exact (World.ownsRow.lt q1 g' hg').1
                  have hS1 : ∀ k, B ≤ k ∧ k ≠ W1.heap.size → k ≠ g := fun k hk => by omega
                  exact ⟨k + 1, by go_num, by omega, HL8.out.set k d ⟨by omega, by omega⟩, HM8.out.keepS hks (show W1.heap.size ≠ g by omega) (show W.heap.size ≠ g by omega) (show br ≠ g by omega) (fun k hk => show k ≠ g by omega), HA8.out.keepO hks (fun g' hg' => show g' ≠ g by have := hown g' hg'; omega) hS1, Nat.le_trans hsz8 hks.size⟩
                case measure => simp [intOf]; omega
              · obtain rfl : k = n := by omega
                have hkI : ¬ ((k : Int) < k) := by omega
                go_upto_region 11 with fail
                obtain ⟨hrl8, u0, u1, r0, r1, s0, s1⟩ := HM8.out.r.two
                clear r0 r1 s0 s1
                refine wp_region_any (by kernel_rfl) ?_
                change wpAny _ _ _ _ _ _ _ (World.drew _)
                refine wpAny_take (i := 0) (v := ?_) rfl (by kernel_rfl) (by kernel_rfl) (by kernel_rfl) (by first | exact fun _ _ _ h => h | (rintro _ _ _ ⟨h, _⟩; cases h)) (Or.inl ⟨by rfl, ?hy0⟩) ?_
                case hy0 => intro w; go_simp; with_reducible rfl
                simp only [Act.put, List.getElem_toArray, List.getElem_cons_zero, List.setIfInBounds_toArray, List.set_cons_succ, List.set_cons_zero]
                refine wpAny_take (i := 2) (v := ?_) rfl (by kernel_rfl) (by kernel_rfl) (by kernel_rfl) (by first | exact fun _ _ _ h => h | (rintro _ _ _ ⟨h, _⟩; cases h)) (Or.inl ⟨by rfl, ?hy2⟩) ?_
                case hy2 => intro w; go_simp; with_reducible rfl
                simp only [Act.put, List.getElem_toArray, List.getElem_cons_zero, List.getElem_cons_succ, List.setIfInBounds_toArray, List.set_cons_succ, List.set_cons_zero]
                refine wpAny_flt 1 8 [3, 4, 5, 6, 7] [9, 10] (.slice Ac' cs.length ec') (fun w => w.cell? ⟨W1.heap.size, 1, none⟩ = some (.slice Ac' cs.length ec')) rfl (by kernel_rfl) rfl (fun _ _ _ h => h) m1 (And.intro (by rfl) ?hys) ?_
                case hys => intro w' hw'; have hk' : w'.cell? ⟨W1.heap.size, 1, none⟩ = some (.slice Ac' cs.length ec') := hw'; go_simp; all_goals exact rfl
                simp only [nths, nth1, Act.put, List.setIfInBounds_toArray, List.set_cons_succ, List.set_cons_zero]
                refine wpSeqC_cons fun K hK => ?_
                go_simp
                refine hK _ _ m1 ?_
                clear hK K
                refine wpSeqC_cons fun K hK => ?_
                go_simp
                refine hK _ _ m1 ?_
                clear hK K
                refine wpSeqC_cons fun K hK => ?_
                go_simp
                refine (allIndicesD_any k _ (by omega)).mono ?_
                rintro e W9 ⟨v9, rfl, hL9, hX9⟩
                have hX9 : Ext wr W9 := ((Ext.refl wr).drew).trans hX9
                have hL9 : LR wr.heap.size 3 1 W9 v9 k 0 100 := hL9
                obtain ⟨g9, cap9, rfl, -, -, -⟩ := hL9.form
                obtain ⟨xs, hxl, hxv⟩ := hL9.iv9 (by omega) (by omega) (by omega)
                subst hxl
                refine hK _ _ ((hX9.cells _ _ hm8).trans m1) ?_
                clear hK K
                refine wpSeqC_cons fun K hK => ?_
                go_simp
                refine hK _ _ ((hX9.cells _ _ hm8).trans m1) ?_
                clear hK K
                refine wpSeqC_cons fun K hK => ?_
                go_simp
                have hxa : Ext wr (W9.alloc (.cells #[.int .i64 3, .slice (some ⟨g9, 0, none⟩) xs.length cap9, .slice none 0 0, .int .i64 0, .slice none 0 0] 60)) := hX9.alloc _
                refine hK _ _ ((hxa.cells _ _ hm8).trans m1) ?_
                clear hK K
                refine wpSeqC_nil ?_
                have hsz9 := hX9.size
                refine wpList_appCB _ rfl _ _ rfl 99 B (fun k => B ≤ k ∧ k ≠ W1.heap.size) (.slice Ac' cs.length ec') cs ⟨3, xs, [], 0, []⟩ W9.heap.size 1 rfl rfl (HA8.out.ext hxa) ⟨_, _, _, World.cell?_alloc_at _ _ _ _ rfl, World.cell?_alloc_at _ _ _ _ rfl, World.cell?_alloc_at _ _ _ _ rfl, World.cell?_alloc_at _ _ _ _ rfl, World.cell?_alloc_at _ _ _ _ rfl, (hxv.mono (fun k hk => by have hk : wr.heap.size ≤ k := hk; omega)).ext ((Ext.refl _).alloc _), IV.nil_ _ _, RV.nil_ _ _, by show 0 < xs.length ∧ xs.length ≤ 99 ∧ 0 ≤ 99; omega⟩ (by omega) (by simp; omega) ?_
                intro v' W10 hA10 hk10 ho10
                have hownA : ∀ h', (Value.slice Ac' cs.length ec').ownBlock = some h' → B ≤ h' ∧ h' ≠ W1.heap.size := fun h' hh' => by
                  obtain ⟨cells, q1, -⟩ := HA8.out
                  exact ⟨(World.ownsRow.lt q1 h' hh').1, HO.out h' hh'⟩
                have HM10 := hide ((HM8.out.grow hxa).keepS hk10 (fun e => (hownA _ e).2 rfl) (fun e => by have := (hownA _ e).1; omega) (fun e => by have := (hownA _ e).1; omega) (fun k hk e => by have := (hownA _ e).1; omega))
                have HL10 := hide ((HL8.out.ext hxa).keepb hk10 (fun g' hg' e => by have hg' : some g = some g' := hg'; injection hg' with hg'; have := (hownA _ e).1; omega))
                have HO10 := hide (show ∀ h', v'.ownBlock = some h' → h' ≠ W1.heap.size from fun h' hh' => (ho10 h' hh').elim (fun e => (hownA _ e).2) (fun e => by rw [World.size_alloc] at e; omega))
                have hs10 := hk10.size
                rw [World.size_alloc] at hs10
                have HA10 := hide hA10
                obtain ⟨Ac3, ec3, hcv, -⟩ := hA10.form
                rw [show (cs ++ [(⟨3, xs, [], 0, []⟩ : Con)]).length = cs.length + 1 by simp] at hcv
                subst hcv
                clear hA10 hk10 ho10 hxa m0 m1
                have m0 := HM10.out.c0
                have h6 := HM10.out.c1
                have q6 := HM10.out.fz 1
                have hl6 := HM10.out.b1
                obtain ⟨hrl9, u2, u3, r0, r1, s0, s1⟩ := HM10.out.r.two
                go_wp2_with fail
                refine bodyPost_ret (v := .agg #[.slice (some ⟨g, 0, none⟩) xs.length cap, .slice Ac3 (cs.length + 1) ec3]) (by simp only [results, Tryz.results27]; go_simp) rfl ?_
                obtain ⟨f1, f2, f3⟩ := (HM10.out.set1 (.slice Ac3 (cs.length + 1) ec3)).done rfl hn1 hn4 (HL10.out.keepb (HM10.out.setk 1 _) (fun g' hg' => by have hg' : some g = some g' := hg'; injection hg' with hg'; omega)) (fun g' hg' => by have hg' : some g = some g' := hg'; injection hg' with hg'; omega) (HA10.out.keepO (HM10.out.setk 1 (.slice Ac3 (cs.length + 1) ec3)) HO10.out (fun k hk => hk.2)) (fun k hk => hk.1) hAB (Nat.le_trans (by omega) (HM10.out.setk 1 (.slice Ac3 (cs.length + 1) ec3)).size) (M := N + 900) (w' := ((W10.setCell ⟨W1.heap.size, 1, none⟩ (.slice Ac3 (cs.length + 1) ec3)).setCell ⟨W.heap.size, 0, none⟩ (.slice (some ⟨g, 0, none⟩) xs.length cap)).setCell ⟨W.heap.size, 1, none⟩ (.slice Ac3 (cs.length + 1) ec3)) (by (repeat refine Keep.set ?_ (fun _ hh => hh rfl) _); exact Keep.refl _ _) (by omega)
                exact ⟨_, _, xs.length, cs ++ [⟨3, xs, [], 0, []⟩], B, rfl, f1, by simp; omega, f2, f3⟩
          · have hn2I : ¬ (2 < (n : Int)) := by omega
            go_wp2_with fail
            refine bodyPost_ret (v := .agg #[.slice (some ⟨g, 0, none⟩) n cap, .slice Ac' cs.length ec']) (by simp only [results, Tryz.results27]; go_simp) rfl ?_
            obtain ⟨f1, f2, f3⟩ := HM7.out.done rfl hn1 hn4 HL7.out (fun g' hg' => by have hg' : some g = some g' := hg'; injection hg' with hg'; omega) HA7.out (fun k hk => hk.1) hAB (by omega) (M := N + 900) (w' := (W7.setCell ⟨W.heap.size, 0, none⟩ (.slice (some ⟨g, 0, none⟩) n cap)).setCell ⟨W.heap.size, 1, none⟩ (.slice Ac' cs.length ec')) (by (repeat refine Keep.set ?_ (fun _ hh => hh rfl) _); exact Keep.refl _ _) (by omega)
            exact ⟨_, _, n, cs, B, rfl, f1, by first | omega | (simp; omega), f2, f3⟩
        · have hc6I : ¬ ((cs.length : Int) < 6) := by omega
          go_wp2_with fail
          refine bodyPost_ret (v := .agg #[.slice (some ⟨g, 0, none⟩) n cap, .slice Ac' cs.length ec']) (by simp only [results, Tryz.results27]; go_simp) rfl ?_
          obtain ⟨f1, f2, f3⟩ := HM7.out.done rfl hn1 hn4 HL7.out (fun g' hg' => by have hg' : some g = some g' := hg'; injection hg' with hg'; omega) HA7.out (fun k hk => hk.1) hAB (by omega) (M := N + 900) (w' := (W7.setCell ⟨W.heap.size, 0, none⟩ (.slice (some ⟨g, 0, none⟩) n cap)).setCell ⟨W.heap.size, 1, none⟩ (.slice Ac' cs.length ec')) (by (repeat refine Keep.set ?_ (fun _ hh => hh rfl) _); exact Keep.refl _ _) (by omega)
          exact ⟨_, _, n, cs, B, rfl, f1, by first | omega | (simp; omega), f2, f3⟩
      · have hzb : (z == 0) = false := by simp [hz]
        go_wp2_with fail
        refine bodyPost_ret (v := .agg #[.slice (some ⟨g, 0, none⟩) n cap, .slice Ac' cs.length ec']) (by simp only [results, Tryz.results27]; go_simp) rfl ?_
        obtain ⟨f1, f2, f3⟩ := HM7.out.done rfl hn1 hn4 HL7.out (fun g' hg' => by have hg' : some g = some g' := hg'; injection hg' with hg'; omega) HA7.out (fun k hk => hk.1) hAB (by omega) (M := N + 900) (w' := (W7.setCell ⟨W.heap.size, 0, none⟩ (.slice (some ⟨g, 0, none⟩) n cap)).setCell ⟨W.heap.size, 1, none⟩ (.slice Ac' cs.length ec')) (by (repeat refine Keep.set ?_ (fun _ hh => hh rfl) _); exact Keep.refl _ _) (by omega)
        exact ⟨_, _, n, cs, B, rfl, f1, by first | omega | (simp; omega), f2, f3⟩
end Go.Proofs.YtalgilgfoekioaaGreatDoor
/- Draws of the generator: regions that draw their order and read numbers. -/
namespace Go.Proofs.YtalgilgfoekioaaGreatDoor
open Go.RowKit

/-- Worlds while a region reads numbers: m operations are left of n. -/
def RdCn (w0 : World) (br N n : Nat) (wx : World) (m : Nat) (W : World) : Prop := ∃ M, M + m ≤ N + n ∧ RdSt w0 br M W ∧ Keep (fun k => k ≠ br) wx W
theorem RdCn.le {w0 : World} {br N n m : Nat} {wx W : World} (h : RdCn w0 br N n wx (m + 1) W) : RdCn w0 br N n wx m W := by
  obtain ⟨M, h1, h2⟩ := h
  exact ⟨M, by omega, h2⟩
theorem RdCn.ext {w0 : World} {br N n m : Nat} {wx W W' : World} (h : RdCn w0 br N n wx (m + 1) W) (hx : Ext W W') : RdCn w0 br N n wx m W' := by
  obtain ⟨M, h1, h2, h3⟩ := h
  exact ⟨M, by omega, h2.grow hx, h3.trans (hx.keep _)⟩
theorem RdCn.step {w0 : World} {br N n m : Nat} {wx W : World} (h : RdCn w0 br N n wx (m + 1) W) (hN : N + n ≤ 900000) : ∃ M, RdSt w0 br M W ∧ M ≤ 1000000 ∧ ∀ W', RdSt w0 br (M + 1) W' → Keep (fun k => k ≠ br) W W' → RdCn w0 br N n wx m W' := by
  obtain ⟨M, h1, h2, h3⟩ := h
  exact ⟨M, h2, by omega, fun W' a b => ⟨M + 1, by omega, a, h3.trans b⟩⟩
theorem RdCn.start {w0 : World} {br N : Nat} {wx : World} (n : Nat) (h : RdSt w0 br N wx) : RdCn w0 br N n wx n wx.drew :=
  ⟨N, by omega, h.grow (Ext.refl _).drew, ((Ext.refl _).drew).keep _⟩
theorem RdCn.fin {w0 : World} {br N n : Nat} {wx W : World} (h : RdCn w0 br N n wx 0 W) : RdSt w0 br (N + n) W ∧ Keep (fun k => k ≠ br) wx W := by
  obtain ⟨M, h1, h2, h3⟩ := h
  exact ⟨h2.mono (by omega), h3⟩
theorem RdCn.size {w0 : World} {br N n m : Nat} {wx W : World} (h : RdCn w0 br N n wx m W) : wx.heap.size ≤ W.heap.size := by
  obtain ⟨M, h1, h2, h3⟩ := h
  exact h3.size
theorem RdCn.kp {w0 : World} {br N n m : Nat} {wx W : World} (h : RdCn w0 br N n wx m W) : Keep (fun k => k ≠ br) wx W := by
  obtain ⟨M, h1, h2, h3⟩ := h
  exact h3
theorem IV.two (S : Nat → Prop) (w : World) (x y : Int) (hS : S w.heap.size) (hx : -100000 ≤ x ∧ x ≤ 100000) (hy : -100000 ≤ y ∧ y ≤ 100000) : IV S (w.alloc (.cells #[.int .i64 x, .int .i64 y] 3)) (.slice (some ⟨w.heap.size, 0, none⟩) 2 2) [x, y] := by
  refine ⟨.inr ⟨w.heap.size, 2, 2, fun i => if i = 0 then vI x else vI y, rfl, Nat.le_refl _, Nat.le_refl _, ⟨#[.int .i64 x, .int .i64 y], World.alloc_heap_new w _, rfl, fun i hi => ?_⟩, fun i hi => ?_⟩, (fun g hg => ?_), by simp, fun i hi => ?_⟩
  · obtain rfl | rfl : i = 0 ∨ i = 1 := by omega
    all_goals rfl
  · obtain rfl | rfl : i = 0 ∨ i = 1 := by simp at hi; omega
    all_goals rfl
  · have hg : some w.heap.size = some g := hg
    injection hg with hg
    subst hg
    exact hS
  · obtain rfl | rfl : i = 0 ∨ i = 1 := by simp at hi; omega
    · exact hx
    · exact hy
theorem IV.old {S : Nat → Prop} {w : World} {v : Value} {xs : List Int} (h : IV S w v xs) : IV (fun k => S k ∧ k < w.heap.size) w v xs := ⟨h.1, fun g hg => ⟨h.2.1 g hg, h.lt g hg⟩, h.2.2⟩
theorem RV.old {S : Nat → Prop} {w : World} {v : Value} {rs : List (List Int)} (h : RV S w v rs) : RV (fun k => S k ∧ k < w.heap.size) w v rs := by
  have hb := h.1.blk9
  obtain ⟨⟨cells, h1, h2, h3⟩, h4⟩ := h
  refine ⟨⟨cells, h1, fun g hg => ⟨h2 g hg, (hb g hg).2⟩, fun i hi => ?_⟩, h4⟩
  obtain ⟨cv, q1, q2, q3⟩ := h3 i hi
  exact ⟨cv, q1, q2, fun g hg => ⟨q3 g hg, q2.lt9 g hg⟩⟩
theorem CA.old {L base : Nat} {S : Nat → Prop} {w : World} {v : Value} {cs : List Con} (h : CA L base S w v cs) : CA L base (fun k => S k ∧ k < w.heap.size) w v cs := by
  obtain ⟨cells, h1, h2⟩ := h
  refine ⟨cells, h1, fun i hi => ?_⟩
  obtain ⟨vv, va, vr, e0, e1, e2, e3, e4, q1, q2, q3, q4⟩ := h2 i hi
  exact ⟨vv, va, vr, e0, e1, e2, e3, e4, q1.old, q2.old, q3.old, q4⟩
theorem CA.own9 {L base : Nat} {S : Nat → Prop} {w : World} {v : Value} {cs : List Con} (h : CA L base S w v cs) : ∀ g, v.ownBlock = some g → base ≤ g ∧ g < w.heap.size := by
  obtain ⟨cells, h1, -⟩ := h
  exact fun g hg => World.ownsRow.lt h1 g hg
theorem MF.model {A B : Nat} {lo hi : Int} {w : World} {dv cv : Value} {n : Nat} {cs : List Con} (h : MF A B lo hi w dv cv n cs) (hlo : -100000 ≤ lo) (hhi : hi ≤ 100000) (hc : cs.length ≤ 1000) : ∃ ds, ds.length = n ∧ SInts w dv ds ∧ SCons w cv cs := by
  obtain ⟨xs, h1, h2, -⟩ := LN.iv (.inr h.ds) (by have := h.n4; omega) hlo hhi
  exact ⟨xs, h1, h2.ints, h.ca.cons (by omega)⟩
end Go.Proofs.YtalgilgfoekioaaGreatDoor
