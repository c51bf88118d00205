/- Draws of the generator: a model that needs search. -/
import Derived.Test.YtalgilgfoekioaaGreatDoorDrwB
import Derived.Deep.CutBlock
import Derived.Deep.DeepCutAuto
import Derived.Test.YtalgilgfoekioaaGreatDoorRdA
namespace Go.Proofs.YtalgilgfoekioaaGreatDoor
open Go.RowKit
attribute [local go_sem] evalOf

/-- A constraint in the making, in block b. -/
structure TJ (w0 : World) (br N B : Nat) (W4 wx : World) (b : Nat) (c : Con) : Prop where
  b0 : W4.heap.size ≤ b
  rb : RB b 5 wx
  cv : CV5 99 (fun k => B ≤ k ∧ k ≠ b) wx (fun j => wx.cell? ⟨b, j, none⟩) c
  rd : RdSt w0 br N wx
  kp : Keep (fun k => k ≠ br) W4 wx
theorem CV5.mono9 {L : Nat} {S : Nat → Prop} {w : World} {b : Nat} {w' : World} {c : Con} (h : CV5 L S w' (fun j => w.cell? ⟨b, j, none⟩) c) (hc : ∀ j, w'.cell? ⟨b, j, none⟩ = w.cell? ⟨b, j, none⟩) : CV5 L S w' (fun j => w'.cell? ⟨b, j, none⟩) c := h.cast fun j _ => (hc j).symm
theorem TJ.keep {w0 : World} {br N M B : Nat} {W4 wx w2 : World} {b : Nat} {c : Con} (h : TJ w0 br N B W4 wx b c) (hbr : br < W4.heap.size) (hB : br < B) (hR : RdSt w0 br M w2) (hK : Keep (fun k => k ≠ br) wx w2) : TJ w0 br M B W4 w2 b c := by
  have b0 := h.b0
  refine ⟨b0, h.rb.keep hK (by omega), CV5.mono9 (h.cv.keep hK (fun k hk => by omega)) (fun j => hK.cell (p := ⟨b, j, none⟩) h.rb.1 (by show b ≠ br; omega)), hR, h.kp.trans hK⟩
theorem TJ.mono {w0 : World} {br N M B : Nat} {W4 wx : World} {b : Nat} {c : Con} (h : TJ w0 br N B W4 wx b c) (hM : N ≤ M) : TJ w0 br M B W4 wx b c := ⟨h.b0, h.rb, h.cv, h.rd.mono hM, h.kp⟩
theorem TJ.mk9 {w0 : World} {br N M B : Nat} {W4 w : World} {b : Nat} {c : Con} {vv va vr : Value} (hb0 : W4.heap.size ≤ b) (hrb : RB b 5 w) (hR : RdSt w0 br N w) (hK : Keep (fun k => k ≠ br) W4 w)
    (i1 : IV (fun k => B ≤ k ∧ k ≠ b) w vv c.vars) (i2 : IV (fun k => B ≤ k ∧ k ≠ b) w va c.args) (i3 : RV (fun k => B ≤ k ∧ k ≠ b) w vr c.rows) (hl : 0 < c.vars.length ∧ c.vars.length ≤ 99 ∧ c.args.length ≤ 99) (hbr : br < W4.heap.size) (hM : N ≤ M) :
    TJ w0 br M B W4 (((((w.setCell ⟨b, 0, none⟩ (.int .i64 c.kk)).setCell ⟨b, 1, none⟩ vv).setCell ⟨b, 2, none⟩ va).setCell ⟨b, 3, none⟩ (.int .i64 c.bound)).setCell ⟨b, 4, none⟩ vr) b c := by
  have hk : Keep (fun k => k ≠ b) w (((((w.setCell ⟨b, 0, none⟩ (.int .i64 c.kk)).setCell ⟨b, 1, none⟩ vv).setCell ⟨b, 2, none⟩ va).setCell ⟨b, 3, none⟩ (.int .i64 c.bound)).setCell ⟨b, 4, none⟩ vr) := by
    (repeat refine Keep.set ?_ (fun _ hh => hh rfl) _); exact Keep.refl _ _
  obtain ⟨hbl, u0, u1, u2, u3, u4, t0, t1, t2, t3, t4, -⟩ := hrb.five
  have hge := hR.ge
  have hex := hR.ext.size
  have g0 : (w.setCell ⟨b, 0, none⟩ (.int .i64 c.kk)).cell? ⟨b, 0, none⟩ = some (.int .i64 c.kk) := World.cell?_setCell_same' _ _ _ (by rw [t0]; rfl)
  have oth : ∀ (w : World) (i j : Nat) (x : Value), i ≠ j → (w.setCell ⟨b, j, none⟩ x).cell? ⟨b, i, none⟩ = w.cell? ⟨b, i, none⟩ := fun w i j x hij => World.cell?_setCell_other _ _ _ _ (by intro e; injection e with _ e; omega)
  have sam : ∀ (w : World) (i : Nat) (x u : Value), w.cell? ⟨b, i, none⟩ = some u → (w.setCell ⟨b, i, none⟩ x).cell? ⟨b, i, none⟩ = some x := fun w i x u hu => World.cell?_setCell_same' _ _ _ (by rw [hu]; rfl)
  refine ⟨hb0, ⟨Nat.lt_of_lt_of_le hbl hk.size, fun i => ?_, fun i hi => ?_⟩, ⟨vv, va, vr, ?_, ?_, ?_, ?_, ?_, i1.keep hk (fun k hk => hk.2), i2.keep hk (fun k hk => hk.2), i3.keep hk (fun k hk => hk.2), hl⟩, (hR.mono hM).keep hk (by omega) (fun k hk => by omega), hK.trans9 hk (fun k hk _ => by omega)⟩
  · rw [World.frozen?_setCell, World.frozen?_setCell, World.frozen?_setCell, World.frozen?_setCell, World.frozen?_setCell]
    exact hrb.2.1 i
  · obtain rfl | rfl | rfl | rfl | rfl : i = 0 ∨ i = 1 ∨ i = 2 ∨ i = 3 ∨ i = 4 := by omega
    · exact ⟨_, by rw [oth _ 0 4 _ (by omega), oth _ 0 3 _ (by omega), oth _ 0 2 _ (by omega), oth _ 0 1 _ (by omega)]; exact sam _ _ _ _ t0⟩
    · exact ⟨_, by rw [oth _ 1 4 _ (by omega), oth _ 1 3 _ (by omega), oth _ 1 2 _ (by omega)]; exact sam _ _ _ _ (by rw [oth _ 1 0 _ (by omega)]; exact t1)⟩
    · exact ⟨_, by rw [oth _ 2 4 _ (by omega), oth _ 2 3 _ (by omega)]; exact sam _ _ _ _ (by rw [oth _ 2 1 _ (by omega), oth _ 2 0 _ (by omega)]; exact t2)⟩
    · exact ⟨_, by rw [oth _ 3 4 _ (by omega)]; exact sam _ _ _ _ (by rw [oth _ 3 2 _ (by omega), oth _ 3 1 _ (by omega), oth _ 3 0 _ (by omega)]; exact t3)⟩
    · exact ⟨_, sam _ _ _ _ (by rw [oth _ 4 3 _ (by omega), oth _ 4 2 _ (by omega), oth _ 4 1 _ (by omega), oth _ 4 0 _ (by omega)]; exact t4)⟩
  · show World.cell? _ _ = _
    rw [oth _ 0 4 _ (by omega), oth _ 0 3 _ (by omega), oth _ 0 2 _ (by omega), oth _ 0 1 _ (by omega)]; exact sam _ _ _ _ t0
  · show World.cell? _ _ = _
    rw [oth _ 1 4 _ (by omega), oth _ 1 3 _ (by omega), oth _ 1 2 _ (by omega)]; exact sam _ _ _ _ (by rw [oth _ 1 0 _ (by omega)]; exact t1)
  · show World.cell? _ _ = _
    rw [oth _ 2 4 _ (by omega), oth _ 2 3 _ (by omega)]; exact sam _ _ _ _ (by rw [oth _ 2 1 _ (by omega), oth _ 2 0 _ (by omega)]; exact t2)
  · show World.cell? _ _ = _
    rw [oth _ 3 4 _ (by omega)]; exact sam _ _ _ _ (by rw [oth _ 3 2 _ (by omega), oth _ 3 1 _ (by omega), oth _ 3 0 _ (by omega)]; exact t3)
  · exact sam _ _ _ _ (by rw [oth _ 4 3 _ (by omega), oth _ 4 2 _ (by omega), oth _ 4 1 _ (by omega), oth _ 4 0 _ (by omega)]; exact t4)

set_option maxRecDepth 100000 in
set_option maxHeartbeats 8000000 in
theorem tightModel_any (w0 : World) (br N : Nat) (W : World) (hN : N ≤ 60000) (hR : RdSt w0 br N W) :
    Calls Tryz.prog 28 #[.pointer (some ⟨br, 0, none⟩)] W (MGot 99 w0 br (N + 900) 0 63 6 W) := by
  have HR := hide hR
  have hbr := hR.lt
  have hw0 := hR.ext.size
  clear hR
  go_enter Tryz.func28, Tryz.ntmps28
  go_wp2_with fail
  refine (pick_any w0 br N 2 _ (by omega) (by omega) (by omega) (HR.out.grow (((Ext.refl W).alloc _).alloc _))).mono ?_
  rintro e W1 ⟨k, k0, k1, rfl, hR1, hK1⟩
  have HMB := hide (MB.start hR1 hK1 hbr hw0)
  have hs1 : W.heap.size + 2 ≤ W1.heap.size := by have := hK1.size; simp at this; omega
  clear hR1 hK1
  obtain ⟨k, rfl⟩ : ∃ k' : Nat, k = k' := ⟨k.toNat, by omega⟩
  have hwk : IntKind.i64.wrap (3 + (k : Int)) = 3 + (k : Int) := IntWalk.i64_in _ (by omega)
  have c0 := HMB.out.c0
  have hmc := HMB.out.b1
  go_wp2_with fail
  go_loopw [5] (fun i wr => ∃ (t : Nat) (dv : Value), i = .int .i64 t ∧ t ≤ k + 3 ∧ LN (W.heap.size + 2) wr dv t 0 63 ∧ MB w0 br W.heap.size (W.heap.size + 1) (N + 1 + 3 * t) W wr dv (.slice none 0 0)) (fun i _ => k + 3 - (intOf i).toNat)
  case atStart => exact ⟨0, _, rfl, by omega, .inl ⟨rfl, rfl⟩, HMB.out⟩
  case round =>
    obtain ⟨t, dv, rfl, ht, hL, hmb⟩ := hrel
    obtain ⟨A2, e2, rfl, -⟩ := hL.form
    have HL := hide hL
    have HM2 := hide hmb
    have k0' := hmb.c0
    have k1' := hmb.c1
    have q0 := hmb.fz 0
    have q1 := hmb.fz 1
    have hmc2 := hmb.b1
    clear hL hmb c0
    by_cases htk : t < k + 3
    · have htI : (t : Int) < 3 + (k : Int) := by omega
      go_upto_region 6 with fail
      refine wp_region_any (by kernel_rfl) ?_
      change wpAny _ _ _ _ _ _ _ (World.drew _)
      refine wpAny_take (i := 0) (v := ?_) rfl (by kernel_rfl) (by kernel_rfl) (by kernel_rfl) (by first | exact fun _ _ _ h => h | (rintro _ _ _ ⟨h, _⟩; cases h)) (Or.inl ⟨by rfl, ?hy0⟩) ?_
      case hy0 => intro w; go_simp; with_reducible rfl
      simp only [Act.put, List.getElem_toArray, List.getElem_cons_zero, List.setIfInBounds_toArray, List.set_cons_succ, List.set_cons_zero]
      refine wpAny_take (i := 2) (v := ?_) rfl (by kernel_rfl) (by kernel_rfl) (by kernel_rfl) (by first | exact fun _ _ _ h => h | (rintro _ _ _ ⟨h, _⟩; cases h)) (Or.inl ⟨by rfl, ?hy2⟩) ?_
      case hy2 => intro w; go_simp; with_reducible rfl
      simp only [Act.put, List.getElem_toArray, List.getElem_cons_zero, List.getElem_cons_succ, List.setIfInBounds_toArray, List.set_cons_succ, List.set_cons_zero]
      refine wpAny_flt 1 7 [3, 4, 5, 6] [8, 9] (.slice A2 t e2) (fun w => w.cell? ⟨W.heap.size + 1, 0, none⟩ = some (.slice A2 t e2)) rfl (by kernel_rfl) rfl (fun _ _ _ h => h) k0' (And.intro (by rfl) ?hys) ?_
      case hys => intro w' hw'; have hk' : w'.cell? ⟨W.heap.size + 1, 0, none⟩ = some (.slice A2 t e2) := hw'; go_simp; all_goals exact rfl
      simp only [nths, nth1, Act.put, List.setIfInBounds_toArray, List.set_cons_succ, List.set_cons_zero]
      refine wpSeqC_cons fun K hK => ?_
      go_simp
      refine (pick_any w0 br _ 3 _ (by omega) (by omega) ?_ (HM2.out.rd.grow ((Ext.refl wr).drew))).mono ?_
      · omega
      rintro e W5 ⟨z, zz0, zz1, rfl, hR5, hK5⟩
      have hK5 : Keep (fun k => k ≠ br) wr W5 := (((Ext.refl wr).drew).keep _).trans hK5
      have hzw : IntKind.i64.wrap (2 + z) = 2 + z := IntWalk.i64_in _ (by omega)
      have HM5 := hide (HM2.out.keep hR5 hK5)
      have h5 := HM5.out.c0
      have hl5 := HM5.out.b1
      have HL5 := hide (HL.out.keep hK5 (fun k hk => by omega))
      refine hK _ _ h5 ?_
      clear hK K hR5 hK5
      refine wpSeqC_cons fun K hK => ?_
      go_simp
      refine hK _ _ h5 ?_
      clear hK K
      refine wpSeqC_cons fun K hK => ?_
      go_simp
      refine (DomainRangeS_any _ _ _).mono ?_
      rintro e W9 ⟨d, d0, d1, rfl, rfl⟩
      refine hK _ _ h5 ?_
      clear hK K
      refine wpSeqC_cons fun K hK => ?_
      go_simp
      refine hK _ _ ?_ ?_
      · show World.cell? (World.alloc _ _) _ = _
        exact (((Ext.refl W5).alloc _).cells _ _ (by omega)).trans h5
      clear hK K
      refine wpSeqC_nil ?_
      refine wpList_appLN _ rfl _ _ rfl (W.heap.size + 2) (.slice A2 t e2) t 0 63 d W5.heap.size 1 rfl rfl (HL5.out.ext ((Ext.refl _).alloc _)) (World.cell?_alloc_at _ _ _ _ rfl) (by omega) (by omega) (by simp; omega) ?_
      intro v' W6 hL6 hb6
      have HM6 := hide ((HM5.out.grow ((Ext.refl W5).alloc (.cells #[.int .i64 d] 3))).far (Below.keep12 hb6) (by omega) (by omega))
      have HL6 := hide hL6
      obtain ⟨g6, cap6, rfl, -, -, -⟩ := hL6.form
      clear hL6 hb6 h5 k0' k1' q0 q1
      have h6 := HM6.out.c0
      have q6 := HM6.out.fz 0
      have hl6 := HM6.out.b1
      go_wp2_with fail
      go_roundw
      case rel => exact ⟨t + 1, _, by go_num, by omega, .inr (HL6.out.keep (HM6.out.setk 0 _) (fun k hk => by omega)), (HM6.out.mono (by omega)).set0 _⟩
      case measure => simp [intOf]; omega
    · obtain rfl : t = k + 3 := by omega
      rcases HL.out with ⟨-, h0⟩ | hL
      · omega
      obtain ⟨g, cap, hgv, hgb, hgl, -⟩ := hL.form
      injection hgv with hgv _ hgc
      subst hgv
      subst hgc
      have HLR := hide hL
      clear hL HL
      have htI : ¬ (((k + 3 : Nat) : Int) < 3 + (k : Int)) := by omega
      obtain ⟨n, hn⟩ : ∃ n, n = k + 3 := ⟨_, rfl⟩
      rw [← hn] at HLR HM2 htI k0' ⊢
      rw [show 3 + (k : Int) = (n : Int) by omega] at htI ⊢
      have hn4 : n ≤ 4 := by omega
      have hn3 : 3 ≤ n := by omega
      have HM2 := hide (HM2.out.mono (M := N + 15) (by omega))
      clear hn hwk k0 k1 ht
      go_wp2_with fail
      refine (pick_any w0 br _ 4 _ (by omega) (by omega) ?_ HM2.out.rd).mono ?_
      · omega
      rintro e W3 ⟨y, yy0, yy1, rfl, hR3, hK3⟩
      have HM3 := hide (MB.mono (M := N + 20) (HM2.out.keep hR3 hK3) (by omega))
      have HL3 := hide (HLR.out.keep hK3 (fun k hk => by omega))
      have hs3 := hK3.size
      clear hR3 hK3 k0' k1' q0 q1 HM2 HLR
      obtain ⟨y, rfl⟩ : ∃ k' : Nat, y = k' := ⟨y.toNat, by omega⟩
      have hwy : IntKind.i64.wrap (2 + (y : Int)) = 2 + (y : Int) := IntWalk.i64_in _ (by omega)
      obtain ⟨B, hB⟩ : ∃ B, B = W3.heap.size := ⟨_, rfl⟩
      have hbrB : br < B := by omega
      go_wp2_with fail
      go_loopw [6] (fun i wr => ∃ (j : Nat) (cv : Value) (cs : List Con), i = .int .i64 j ∧ cs.length + j = y + 2 ∧ CA 99 B (fun k => B ≤ k) wr cv cs ∧ B ≤ wr.heap.size ∧ LR (W.heap.size + 2) 3 1 wr (.slice (some ⟨g, 0, none⟩) n e2) n 0 63 ∧ MB w0 br W.heap.size (W.heap.size + 1) (N + 20 + 130 * cs.length) W wr (.slice (some ⟨g, 0, none⟩) n e2) cv) (fun i _ => (intOf i).toNat)
      case atStart => exact ⟨y + 2, _, [], by go_num, by simp, CA.nil_ _ _ _ _, Nat.le_of_eq hB, HL3.out, HM3.out⟩
      case round =>
        obtain ⟨j, cv, cs, rfl, hj, hA, hsz, hL, hmb⟩ := hrel
        obtain ⟨Ac, ec, rfl, -⟩ := hA.form
        have HA := hide hA
        have HM4 := hide hmb
        have HL4 := hide hL
        have k0' := hmb.c0
        have k1' := hmb.c1
        have q0 := hmb.fz 0
        have q1 := hmb.fz 1
        have hmc4 := hmb.b1
        obtain ⟨hrb1, u0, u1, r0, r1, z0, z1⟩ := hmb.r.two
        clear hA hmb hL
        by_cases hj0 : 0 < j
        · have hjI : 0 < (j : Int) := by omega
          have hjw : IntKind.i64.wrap ((j : Int) - 1) = (j : Int) - 1 := IntWalk.i64_in _ (by omega)
          clear r0 r1 z0 z1 k0' k1' q0 q1 u0 u1
          go_wp2_with fail
          refine (pick_any w0 br _ n _ (by omega) (by omega) ?_ HM4.out.rd).mono ?_
          · omega
          rintro e W4 ⟨u, uu0, uu1, rfl, hR4, hK4⟩
          have hs4 := hK4.size
          have HR4 := hide (RdSt.mono (M := N + 21 + 130 * cs.length) hR4 (by omega))
          have HK4 := hide hK4
          have HK := hide hK4
          have hbr4 : br < W4.heap.size := by omega
          have hB4 : B ≤ W4.heap.size := by omega
          clear hR4 hK4
          go_upto_region 11 with fail
          go_cut [8] from 37 to 64 (fun s8 wx => ∃ b c, s8 = .pointer (some ⟨b, 0, none⟩) ∧ TJ w0 br (N + 40 + 130 * cs.length) B W4 wx b c)
          case first =>
            refine wp_region_relKT (Rl := Keep (fun k => k ≠ br)) (n := 17) (ts := [17]) (sp := [RK.q [] (fun _ => .int .i64 u), RK.q [] (fun _ => .int .i64 u), RK.q [1] (fun _ => .int .i64 (u + 1)), RK.q [] (fun _ => .pointer (some ⟨br, 0, none⟩)), RK.q [] (fun _ => .int .i64 n), RK.q [4] (fun _ => .int .i64 ((n - 1 : Nat) : Int)), RK.p [3, 5] (fun _ v => ∃ z : Int, 0 ≤ z ∧ z ≤ 2 ∧ v = .int .i64 z), RK.p [2, 6] (fun _ v => ∃ z : Int, 0 ≤ z ∧ z ≤ 20 ∧ v = .int .i64 z), RK.q [] (fun _ => .int .i64 n), RK.p [7, 8] (fun _ v => ∃ z : Int, 0 ≤ z ∧ z ≤ 20 ∧ v = .int .i64 z), ⟨[0, 9], fun _ v w => ∃ x y : Int, IV (fun k => B ≤ k) w v [x, y], fun _ _ _ _ ⟨x, y, h⟩ hk => ⟨x, y, h.keep hk (fun k hk => by omega)⟩⟩, RK.q [] (fun _ => .pointer (some ⟨br, 0, none⟩)), RK.p [11] (fun _ v => ∃ z : Int, 0 ≤ z ∧ z ≤ 2 ∧ v = .int .i64 z), RK.p [12] (fun _ v => ∃ z : Int, -1 ≤ z ∧ z ≤ 1 ∧ v = .int .i64 z), ⟨[13], fun _ v w => ∃ x : Int, IV (fun k => B ≤ k) w v [x], fun _ _ _ _ ⟨x, h⟩ hk => ⟨x, h.keep hk (fun k hk => by omega)⟩⟩, RK.p [10, 14] (fun vs v => v = .agg #[.int .i64 2, vs.getD 0 undef, vs.getD 1 undef, .int .i64 0, .slice none 0 0]), ⟨[], fun _ v w => ∃ b, v = .pointer (some ⟨b, 0, none⟩) ∧ W4.heap.size ≤ b ∧ RB b 5 w ∧ HasC w b, fun _ _ _ _ ⟨b, h1, h2, h3, h4⟩ hk => ⟨b, h1, h2, h3.keep hk (by omega), h4.keep hk (by omega)⟩⟩])
              (RdCn w0 br (N + 21 + 130 * cs.length) 17 W4) (by kernel_rfl) (relOKK (D := [[], [], [1], [], [], [4], [3, 5], [2, 6], [], [7, 8], [0, 9], [], [11], [12], [13], [10, 14], []]) rfl (by kernel_rfl) rfl) (by kernel_rfl) (fun m w h => by exact h.le) (fun w => by exact Keep.refl _ _) (RdCn.start 17 HR4.out) ?steps ?ends
            case steps =>
              refine ⟨?_, ?_, ?_, ?_, ?_, ?_, ?_, ?_, ?_, ?_, ?_, ?_, ?_, ?_, ?_, ?_, ?_, trivial⟩
              · intro m V τ W hC hf ht h0
                have s7 : τ 7 = .int .i64 u := h0 7 (by kernel_rfl)
                refine Does.val (w' := W) (v := .int .i64 u) ?_ ⟨(by exact Keep.refl _ _), (by exact hC.le), rfl⟩
                go_simp
              · intro m V τ W hC hf ht h0
                have s7 : τ 7 = .int .i64 u := h0 7 (by kernel_rfl)
                refine Does.val (w' := W) (v := .int .i64 u) ?_ ⟨(by exact Keep.refl _ _), (by exact hC.le), rfl⟩
                go_simp
              · intro m V τ W hC hf ht h0
                have f1 : V 1 = .int .i64 u := hf 1 (by simp [RK.at_, RK.q, RK.p])
                have s38 := (ht 1 (by simp [RK.at_, RK.q, RK.p]) 38 rfl).trans f1
                have hw : IntKind.i64.wrap (u + 1) = u + 1 := IntWalk.i64_in _ (by omega)
                refine Does.val (w' := W) (v := .int .i64 (u + 1)) ?_ ⟨(by exact Keep.refl _ _), (by exact hC.le), rfl⟩
                go_simp
              · intro m V τ W hC hf ht h0
                have s0 : τ 0 = .pointer (some ⟨br, 0, none⟩) := h0 0 (by kernel_rfl)
                refine Does.val (w' := W) (v := .pointer (some ⟨br, 0, none⟩)) ?_ ⟨(by exact Keep.refl _ _), (by exact hC.le), rfl⟩
                go_simp
              · intro m V τ W hC hf ht h0
                have s4 : τ 4 = .int .i64 n := h0 4 (by kernel_rfl)
                refine Does.val (w' := W) (v := .int .i64 n) ?_ ⟨(by exact Keep.refl _ _), (by exact hC.le), rfl⟩
                go_simp
              · intro m V τ W hC hf ht h0
                have f4 : V 4 = .int .i64 n := hf 4 (by simp [RK.at_, RK.q, RK.p])
                have s41 := (ht 4 (by simp [RK.at_, RK.q, RK.p]) 41 rfl).trans f4
                have hw : IntKind.i64.wrap ((n : Int) - 1) = ((n - 1 : Nat) : Int) := by rw [IntWalk.i64_in _ (by omega)]; omega
                refine Does.val (w' := W) (v := .int .i64 ((n - 1 : Nat) : Int)) ?_ ⟨(by exact Keep.refl _ _), (by exact hC.le), rfl⟩
                go_simp
              · intro m V τ W hC hf ht h0
                have f3 : V 3 = .pointer (some ⟨br, 0, none⟩) := hf 3 (by simp [RK.at_, RK.q, RK.p])
                have s40 := (ht 3 (by simp [RK.at_, RK.q, RK.p]) 40 rfl).trans f3
                have f5 : V 5 = .int .i64 ((n - 1 : Nat) : Int) := hf 5 (by simp [RK.at_, RK.q, RK.p])
                have s42 := (ht 5 (by simp [RK.at_, RK.q, RK.p]) 42 rfl).trans f5
                obtain ⟨M, hR, hM, hnext⟩ := hC.step (by omega)
                refine Does.call (w' := W) (f := 25) (args := #[.pointer (some ⟨br, 0, none⟩), .int .i64 ((n - 1 : Nat) : Int)]) (by go_simp; all_goals (first | exact rfl | (apply And.intro <;> exact rfl))) ?_
                refine (pick_any w0 br M (n - 1) W (by omega) (by omega) hM hR).mono ?_
                rintro e wa ⟨z, z0, z1, rfl, hR1, hK1⟩
                exact ⟨_, rfl, hK1, hnext _ hR1 hK1, z, by omega, by omega, rfl⟩
              · intro m V τ W hC hf ht h0
                have f2 : V 2 = .int .i64 (u + 1) := hf 2 (by simp [RK.at_, RK.q, RK.p])
                have s39 := (ht 2 (by simp [RK.at_, RK.q, RK.p]) 39 rfl).trans f2
                have f6 : ∃ z : Int, 0 ≤ z ∧ z ≤ 2 ∧ V 6 = .int .i64 z := hf 6 (by simp [RK.at_, RK.q, RK.p])
                have s43 : τ 43 = V 6 := ht 6 (by simp [RK.at_, RK.q, RK.p]) 43 rfl
                obtain ⟨z, z0, z1, hz⟩ := f6
                rw [hz] at s43
                have hw : IntKind.i64.wrap (u + 1 + z) = u + 1 + z := IntWalk.i64_in _ (by omega)
                refine Does.val (w' := W) (v := .int .i64 (u + 1 + z)) ?_ ⟨Keep.refl _ _, hC.le, _, by omega, by omega, rfl⟩
                go_simp
              · intro m V τ W hC hf ht h0
                have s4 : τ 4 = .int .i64 n := h0 4 (by kernel_rfl)
                refine Does.val (w' := W) (v := .int .i64 n) ?_ ⟨(by exact Keep.refl _ _), (by exact hC.le), rfl⟩
                go_simp
              · intro m V τ W hC hf ht h0
                have f7 : ∃ z : Int, 0 ≤ z ∧ z ≤ 20 ∧ V 7 = .int .i64 z := hf 7 (by simp [RK.at_, RK.q, RK.p])
                have s44 : τ 44 = V 7 := ht 7 (by simp [RK.at_, RK.q, RK.p]) 44 rfl
                have f8 : V 8 = .int .i64 n := hf 8 (by simp [RK.at_, RK.q, RK.p])
                have s45 := (ht 8 (by simp [RK.at_, RK.q, RK.p]) 45 rfl).trans f8
                obtain ⟨z, z0, z1, hz⟩ := f7
                rw [hz] at s44
                have hm0 := Int.emod_nonneg z (b := (n : Int)) (by omega)
                have hm1 := Int.emod_lt_of_pos z (b := (n : Int)) (by omega)
                have hw : IntKind.i64.wrap (z % (n : Int)) = z % (n : Int) := IntWalk.i64_in _ (by omega)
                have ht : Int.tmod z (n : Int) = z % (n : Int) := Int.tmod_eq_emod_of_nonneg z0
                have hn0 : ¬ ((n : Int) = 0) := by omega
                have hn0' : ¬ (n = 0) := by omega
                refine Does.val (w' := W) (v := .int .i64 (z % (n : Int))) ?_ ⟨Keep.refl _ _, hC.le, _, by omega, by omega, rfl⟩
                go_simp
              · intro m V τ W hC hf ht h0
                have f0 : V 0 = .int .i64 u := hf 0 (by simp [RK.at_, RK.q, RK.p])
                have s37 := (ht 0 (by simp [RK.at_, RK.q, RK.p]) 37 rfl).trans f0
                have f9 : ∃ z : Int, 0 ≤ z ∧ z ≤ 20 ∧ V 9 = .int .i64 z := hf 9 (by simp [RK.at_, RK.q, RK.p])
                have s46 : τ 46 = V 9 := ht 9 (by simp [RK.at_, RK.q, RK.p]) 46 rfl
                obtain ⟨z, z0, z1, hz⟩ := f9
                rw [hz] at s46
                have hsz := hC.size
                refine Does.val (w' := W.alloc (.cells #[.int .i64 u, .int .i64 z] 3)) (v := .slice (some ⟨W.heap.size, 0, none⟩) 2 2) ?_ ⟨((Ext.refl W).alloc _).keep _, hC.ext ((Ext.refl W).alloc _), u, z, IV.two _ W u z (by show B ≤ _; omega) (by omega) (by omega)⟩
                go_simp
              · intro m V τ W hC hf ht h0
                have s0 : τ 0 = .pointer (some ⟨br, 0, none⟩) := h0 0 (by kernel_rfl)
                refine Does.val (w' := W) (v := .pointer (some ⟨br, 0, none⟩)) ?_ ⟨(by exact Keep.refl _ _), (by exact hC.le), rfl⟩
                go_simp
              · intro m V τ W hC hf ht h0
                have f11 : V 11 = .pointer (some ⟨br, 0, none⟩) := hf 11 (by simp [RK.at_, RK.q, RK.p])
                have s48 := (ht 11 (by simp [RK.at_, RK.q, RK.p]) 48 rfl).trans f11
                obtain ⟨M, hR, hM, hnext⟩ := hC.step (by omega)
                refine Does.call (w' := W) (f := 25) (args := #[.pointer (some ⟨br, 0, none⟩), .int .i64 3]) (by go_simp; all_goals (first | exact rfl | (apply And.intro <;> exact rfl))) ?_
                refine (pick_any w0 br M 3 W (by omega) (by omega) hM hR).mono ?_
                rintro e wa ⟨z, z0, z1, rfl, hR1, hK1⟩
                exact ⟨_, rfl, hK1, hnext _ hR1 hK1, z, by omega, by omega, rfl⟩
              · intro m V τ W hC hf ht h0
                have f12 : ∃ z : Int, 0 ≤ z ∧ z ≤ 2 ∧ V 12 = .int .i64 z := hf 12 (by simp [RK.at_, RK.q, RK.p])
                have s49 : τ 49 = V 12 := ht 12 (by simp [RK.at_, RK.q, RK.p]) 49 rfl
                obtain ⟨z, z0, z1, hz⟩ := f12
                rw [hz] at s49
                have hw : IntKind.i64.wrap (z - 1) = z - 1 := IntWalk.i64_in _ (by omega)
                refine Does.val (w' := W) (v := .int .i64 (z - 1)) ?_ ⟨Keep.refl _ _, hC.le, _, by omega, by omega, rfl⟩
                go_simp
              · intro m V τ W hC hf ht h0
                have f13 : ∃ z : Int, -1 ≤ z ∧ z ≤ 1 ∧ V 13 = .int .i64 z := hf 13 (by simp [RK.at_, RK.q, RK.p])
                have s50 : τ 50 = V 13 := ht 13 (by simp [RK.at_, RK.q, RK.p]) 50 rfl
                obtain ⟨z, z0, z1, hz⟩ := f13
                rw [hz] at s50
                have hsz := hC.size
                refine Does.val (w' := W.alloc (.cells #[.int .i64 z] 3)) (v := .slice (some ⟨W.heap.size, 0, none⟩) 1 1) ?_ ⟨((Ext.refl W).alloc _).keep _, hC.ext ((Ext.refl W).alloc _), z, IV.one _ W z (by show B ≤ _; omega) (by omega)⟩
                go_simp
              · intro m V τ W hC hf ht h0
                have f10 : ∃ x y : Int, IV (fun k => B ≤ k) W (V 10) [x, y] := hf 10 (by simp [RK.at_, RK.q, RK.p])
                have s47 : τ 47 = V 10 := ht 10 (by simp [RK.at_, RK.q, RK.p]) 47 rfl
                have f14 : ∃ x : Int, IV (fun k => B ≤ k) W (V 14) [x] := hf 14 (by simp [RK.at_, RK.q, RK.p])
                have s51 : τ 51 = V 14 := ht 14 (by simp [RK.at_, RK.q, RK.p]) 51 rfl
                obtain ⟨x, y, i10⟩ := f10
                obtain ⟨x', i14⟩ := f14
                obtain ⟨A1, c1, g10, -⟩ := i10.form
                obtain ⟨A2, c2, g14, -⟩ := i14.form
                rw [g10] at s47
                rw [g14] at s51
                clear i10 i14
                refine Does.val (w' := W) (v := .agg #[.int .i64 2, .slice A1 [x, y].length c1, .slice A2 [x'].length c2, .int .i64 0, .slice none 0 0]) ?_ ⟨Keep.refl _ _, hC.le, by show _ = Value.agg #[_, V 10, V 14, _, _]; rw [g10, g14]⟩
                go_simp
              · intro m V τ W hC hf ht h0
                have hsz := hC.size
                refine Does.val (w' := W.alloc (.cells #[.int .i64 0, .slice none 0 0, .slice none 0 0, .int .i64 0, .slice none 0 0] 60)) (v := .pointer (some ⟨W.heap.size, 0, none⟩)) ?_ ⟨((Ext.refl W).alloc _).keep _, hC.ext ((Ext.refl W).alloc _), W.heap.size, rfl, hsz, ⟨by simp, fun i => World.frozen?_alloc_new _ _ _ _, fun i hi => ?_⟩, _, World.alloc_heap_new W _⟩
                · go_simp
                · obtain rfl | rfl | rfl | rfl | rfl : i = 0 ∨ i = 1 ∨ i = 2 ∨ i = 3 ∨ i = 4 := by omega
                  all_goals exact ⟨_, World.cell?_alloc_at _ _ _ _ rfl⟩
            case ends =>
              intro V W hC hf
              have e0 : V 0 = .int .i64 u := hf 0 (by omega)
              have e1 : V 1 = .int .i64 u := hf 1 (by omega)
              have e2 : V 2 = .int .i64 (u + 1) := hf 2 (by omega)
              have e3 : V 3 = .pointer (some ⟨br, 0, none⟩) := hf 3 (by omega)
              have e4 : V 4 = .int .i64 n := hf 4 (by omega)
              have e5 : V 5 = .int .i64 ((n - 1 : Nat) : Int) := hf 5 (by omega)
              have e6 : ∃ z : Int, 0 ≤ z ∧ z ≤ 2 ∧ V 6 = .int .i64 z := hf 6 (by omega)
              have e7 : ∃ z : Int, 0 ≤ z ∧ z ≤ 20 ∧ V 7 = .int .i64 z := hf 7 (by omega)
              have e8 : V 8 = .int .i64 n := hf 8 (by omega)
              have e9 : ∃ z : Int, 0 ≤ z ∧ z ≤ 20 ∧ V 9 = .int .i64 z := hf 9 (by omega)
              have e10 : ∃ x y : Int, IV (fun k => B ≤ k) W (V 10) [x, y] := hf 10 (by omega)
              have e11 : V 11 = .pointer (some ⟨br, 0, none⟩) := hf 11 (by omega)
              have e12 : ∃ z : Int, 0 ≤ z ∧ z ≤ 2 ∧ V 12 = .int .i64 z := hf 12 (by omega)
              have e13 : ∃ z : Int, -1 ≤ z ∧ z ≤ 1 ∧ V 13 = .int .i64 z := hf 13 (by omega)
              have e14 : ∃ x : Int, IV (fun k => B ≤ k) W (V 14) [x] := hf 14 (by omega)
              have e15 : V 15 = .agg #[.int .i64 2, V 10, V 14, .int .i64 0, .slice none 0 0] := hf 15 (by omega)
              have e16 : ∃ b, V 16 = .pointer (some ⟨b, 0, none⟩) ∧ W4.heap.size ≤ b ∧ RB b 5 W ∧ HasC W b := hf 16 (by omega)
              clear hf
              obtain ⟨hRf, hKf⟩ := hC.fin
              obtain ⟨z6, -, -, e6⟩ := e6
              obtain ⟨z7, -, -, e7⟩ := e7
              obtain ⟨z9, -, -, e9⟩ := e9
              obtain ⟨z12, -, -, e12⟩ := e12
              obtain ⟨z13, -, -, e13⟩ := e13
              obtain ⟨x, y, i10⟩ := e10
              obtain ⟨x', i14⟩ := e14
              obtain ⟨b, e16, hb0, hrb, hcc⟩ := e16
              obtain ⟨A1, c1, e10, -⟩ := i10.form
              obtain ⟨A2, c2, e14, -⟩ := i14.form
              rw [e10] at i10
              rw [e14] at i14
              rw [e10, e14] at e15
              simp only [List.take_succ_cons, List.take_zero, putAll, Act.put, List.setIfInBounds_toArray, List.set_cons_succ, List.set_cons_zero, Nat.reduceAdd, e0, e1, e2, e3, e4, e5, e6, e7, e8, e9, e10, e11, e12, e13, e14, e15, e16]
              simp only [nths, nth1]
              clear e0 e1 e2 e3 e4 e5 e6 e7 e8 e9 e10 e11 e12 e13 e14 e15 e16
              have HRB := hide hrb
              obtain ⟨hbl, u0', u1', u2', u3', u4', t0, t1, t2, t3, t4, y0', y1', y2', y3', y4'⟩ := hrb.five
              have I1 := hide (i10.apart hcc)
              have I2 := hide (i14.apart hcc)
              have HRf := hide hRf
              have HKf := hide hKf
              have HCC := hide hcc
              clear hrb i10 i14 hRf hKf hcc hC
              go_wp2_with fail
              go_meet
              exact ⟨b, _, rfl, TJ.mk9 (c := ⟨2, [x, y], [x'], 0, []⟩) hb0 HRB.out HRf.out HKf.out I1.out I2.out (RV.nil_ _ _) (by simp) hbr4 (by omega)⟩
          case rest =>
            obtain ⟨b, c, rfl, htj⟩ := hcut
            have HTJ := hide htj
            clear htj HR4 HK4 uu0 uu1
            rename_i aK0
            refine aK0 _ _ (wp_seq_k fun K2 aK2 => ?_)
            clear aK0
            go_cut [8] from 53 to 64 (fun s8 wx => ∃ c, s8 = .pointer (some ⟨b, 0, none⟩) ∧ TJ w0 br (N + 145 + 130 * cs.length) B W4 wx b c)
            case first =>
              go_wp2_with fail
              refine (pick_any w0 br _ 3 _ (by omega) (by omega) ?_ HTJ.out.rd).mono ?_
              · omega
              rintro e W5 ⟨z, zz0, zz1, rfl, hR5, hK5⟩
              have HTJ5 := hide (HTJ.out.keep hbr4 hbrB hR5 hK5)
              clear hR5 hK5 HTJ
              by_cases hz : z = 0
              · subst hz
                go_wp2_with fail
                refine (randomConstraint_any w0 br _ n _ (by omega) (by omega) ?_ HTJ5.out.rd).mono ?_
                · omega
                rintro e W6 ⟨v, c6, rfl, hlen, ⟨vv, va, vr, rfl, i1, i2, i3⟩, hR6, hK6⟩
                obtain ⟨A1, e1, hv1, -⟩ := i1.form
                obtain ⟨A3, e3, hv2, -⟩ := i2.form
                obtain ⟨A4, e4, hv3, -⟩ := i3.1.form
                subst hv1 hv2 hv3
                have hb5 := HTJ5.out.rb.1
                have hbb := HTJ5.out.b0
                have hk5 := HTJ5.out.kp.size
                have HTJ6 := hide (HTJ5.out.keep hbr4 hbrB hR6 hK6)
                have I1 := hide (i1.mono (T := fun k => B ≤ k ∧ k ≠ b) (fun k hk => by have hk : W5.heap.size ≤ k := hk; omega))
                have I2 := hide (i2.mono (T := fun k => B ≤ k ∧ k ≠ b) (fun k hk => by have hk : W5.heap.size ≤ k := hk; omega))
                have I3 := hide (i3.mono (T := fun k => B ≤ k ∧ k ≠ b) (fun k hk => by have hk : W5.heap.size ≤ k := hk; omega))
                obtain ⟨hbl, u0', u1', u2', u3', u4', t0, t1, t2, t3, t4, y0', y1', y2', y3', y4'⟩ := HTJ6.out.rb.five
                clear i1 i2 i3 hR6 hK6
                go_wp2_with fail
                go_meet
                exact ⟨c6, rfl, TJ.mk9 (c := c6) HTJ6.out.b0 HTJ6.out.rb HTJ6.out.rd HTJ6.out.kp I1.out I2.out I3.out hlen hbr4 (by omega)⟩
              · have hzb : (z == 0) = false := by simp [hz]
                go_wp2_with fail
                go_meet
                exact ⟨c, rfl, HTJ5.out.mono (by omega)⟩
            case rest =>
              clear HTJ
              obtain ⟨c, rfl, htj⟩ := hcut
              have HTJ := hide htj
              obtain ⟨vv, va, vr, t0, t1, t2, t3, t4, i1, i2, i3, hlen⟩ := htj.cv
              obtain ⟨A1, e1, hv1, -⟩ := i1.form
              obtain ⟨A3, e3, hv2, -⟩ := i2.form
              obtain ⟨A4, e4, hv3, -⟩ := i3.1.form
              subst hv1 hv2 hv3
              have hbl := htj.rb.1
              have hks := htj.kp.size
              have hb0 := htj.b0
              have HK4c := hide (HK.out.trans htj.kp)
              have HM5 := hide (HM4.out.keep htj.rd HK4c.out)
              have HL5 := hide (HL4.out.keep HK4c.out (fun k hk => by omega))
              have HA5 := hide (HA.out.keep HK4c.out (fun k hk => by omega) (fun k hk => by omega))
              have k0' := HM5.out.c0
              have k1' := HM5.out.c1
              have q1 := HM5.out.fz 1
              have hmc5 := HM5.out.b1
              have I1 := hide (i1.mono (T := fun k => B ≤ k) (fun k hk => hk.1))
              have I2 := hide (i2.mono (T := fun k => B ≤ k) (fun k hk => hk.1))
              have I3 := hide (i3.mono (T := fun k => B ≤ k) (fun k hk => hk.1))
              clear htj i1 i2 i3
              go_wp2_with (at_builtin; go_must (refine wpList_appCA _ rfl _ _ rfl 99 B (fun k => B ≤ k) (.slice Ac cs.length ec) cs c wc.heap.size 1 rfl rfl (HA5.out.ext ((Ext.refl _).alloc _)) ⟨_, _, _, World.cell?_alloc_at _ _ _ _ rfl, World.cell?_alloc_at _ _ _ _ rfl, World.cell?_alloc_at _ _ _ _ rfl, World.cell?_alloc_at _ _ _ _ rfl, World.cell?_alloc_at _ _ _ _ rfl, I1.out.ext ((Ext.refl _).alloc _), I2.out.ext ((Ext.refl _).alloc _), I3.out.ext ((Ext.refl _).alloc _), hlen⟩ (by omega) (by simp; omega) ?_); intro v' W6 hA6 hb6; have hb6 := Below.keep12 hb6; have HM6 := hide ((HM5.out.grow ((Ext.refl wc).alloc (.cells #[.int .i64 c.kk, .slice A1 c.vars.length e1, .slice A3 c.args.length e3, .int .i64 c.bound, .slice A4 c.rows.length e4] 60))).far hb6 (by omega) (by omega)); have HL6 := hide ((HL5.out.ext ((Ext.refl wc).alloc (.cells #[.int .i64 c.kk, .slice A1 c.vars.length e1, .slice A3 c.args.length e3, .int .i64 c.bound, .slice A4 c.rows.length e4] 60))).keepb hb6 (fun g' hg' => by have hg' : some g = some g' := hg'; injection hg' with hg'; omega)); have hs6 := hb6.size; rw [World.size_alloc] at hs6; have HA6 := hide hA6; obtain ⟨Ac', ec', hcv, -⟩ := hA6.form; rw [show (cs ++ [c]).length = cs.length + 1 by simp] at hcv; subst hcv; clear hA6 hb6 k0' k1' q1; have h6 := HM6.out.c1; have q6 := HM6.out.fz 1; have hl6 := HM6.out.b1)
              go_roundw
              case rel => exact ⟨j - 1, _, cs ++ [c], by go_num, by simp; omega, HA6.out.keep (HM6.out.setk 1 _) (fun k hk => by omega) (fun k hk => by omega), Nat.le_trans (by omega) (HM6.out.setk 1 (.slice Ac' (cs.length + 1) ec')).size, HL6.out.keepb (HM6.out.setk 1 _) (fun g' hg' => by have hg' : some g = some g' := hg'; injection hg' with hg'; omega), MB.set1 (HM6.out.mono (by simp; omega)) _⟩
              case measure => simp [intOf]; omega
        · obtain rfl : j = 0 := by omega
          go_wp2_with fail
          refine bodyPost_ret (v := .agg #[.slice (some ⟨g, 0, none⟩) n e2, .slice Ac cs.length ec]) (by simp only [results, Tryz.results28]; go_simp) rfl ?_
          have hk1 : Keep (fun k => k ≠ W.heap.size) wr ((wr.setCell ⟨W.heap.size, 0, none⟩ (.slice (some ⟨g, 0, none⟩) n e2)).setCell ⟨W.heap.size, 1, none⟩ (.slice Ac cs.length ec)) :=
            ((Keep.refl (fun k => k ≠ W.heap.size) wr).set (p := ⟨W.heap.size, 0, none⟩) (fun _ hh => hh rfl) _).set (p := ⟨W.heap.size, 1, none⟩) (fun _ hh => hh rfl) _
          refine ⟨_, _, n, cs, B, rfl, MV.mono (L := 99) (A := W.heap.size + 2) (lo := 0) (hi := 63) ?_ (by omega) (by omega) (by omega), by omega, (HM4.out.rd.mono (by omega)).keep hk1 (by omega) (fun k hk => by omega), HM4.out.kp.trans9 hk1 (fun k hk _ => by omega)⟩
          exact ⟨by omega, by omega, HL4.out.keep hk1 (fun k hk => by omega), fun g' hg' => by have hg' : some g = some g' := hg'; injection hg' with hg'; omega, HA.out.keep hk1 (fun k hk => by omega) (fun k hk => by omega), by omega, Nat.le_trans hsz hk1.size⟩
end Go.Proofs.YtalgilgfoekioaaGreatDoor
/- Draws of the generator: a model that is mostly hard; models and numbers. -/
namespace Go.Proofs.YtalgilgfoekioaaGreatDoor
open Go.RowKit

/-- A model is copied into the result's block rb. -/
theorem FGot.done {w0 : World} {br N M K B n rb : Nat} {lo hi : Int} {W Wx w w' : World} {dv cv : Value} {cs : List Con} (hmf : MF Wx.heap.size B lo hi w dv cv n cs) (hlo : -1 ≤ lo) (hhi : hi ≤ 64) (hcs : cs.length ≤ K) (hR : RdSt w0 br N w) (hK : Keep (fun k => k ≠ br) W w)
    (hk : Keep (fun k => k ≠ rb) w w') (hrb : rb = W.heap.size) (hWx : W.heap.size < Wx.heap.size) (hbr : br < W.heap.size) (hw0 : w0.heap.size ≤ W.heap.size) (hN : N ≤ M) : FGot w0 br M K W (.returned (.agg #[dv, cv])) w' :=
  ⟨dv, cv, n, cs, B, rfl, (hmf.keep hk (fun k hk => by omega)).mono (by omega) hlo hhi, hcs, (hR.keep hk (by omega) (fun k hk => by omega)).mono hN, hK.trans9 hk (fun k hk _ => by omega)⟩
set_option maxRecDepth 100000 in
set_option maxHeartbeats 8000000 in
theorem searchModel_any (w0 : World) (br N : Nat) (W : World) (hN : N ≤ 50000) (hR : RdSt w0 br N W) :
    Calls Tryz.prog 11 #[.pointer (some ⟨br, 0, none⟩)] W (FGot w0 br (N + 910) 6 W) := by
  have HR := hide hR
  have hbr := hR.lt
  have hw0 := hR.ext.size
  clear hR
  go_enter Tryz.func11, Tryz.ntmps11
  go_wp2_with fail
  refine (pick_any w0 br N 5 _ (by omega) (by omega) (by omega) (HR.out.grow ((Ext.refl W).alloc _))).mono ?_
  rintro e W1 ⟨k, k0, k1, rfl, hR1, hK1⟩
  have hsA : (W.alloc (.cells #[.slice none 0 0, .slice none 0 0] 26)).heap.size = W.heap.size + 1 := by simp
  have hs1 : W.heap.size + 1 ≤ W1.heap.size := by have := hK1.size; rw [hsA] at this; exact this
  have HRB := hide (show RB W.heap.size 2 W1 from by
    refine RB.keep (S := fun k => k ≠ br) ⟨by rw [hsA]; omega, fun i => World.frozen?_alloc_new _ _ _ _, fun i hi => ?_⟩ hK1 (by omega)
    obtain rfl | rfl : i = 0 ∨ i = 1 := by omega
    all_goals exact ⟨_, World.cell?_alloc_at _ _ _ _ rfl⟩)
  have HK1 := hide ((((Ext.refl W).alloc (.cells #[.slice none 0 0, .slice none 0 0] 26)).keep (fun k => k ≠ br)).trans hK1)
  have HR1 := hide hR1
  clear hR1 hK1 hsA
  by_cases hk0 : k = 0
  · subst hk0
    go_wp2_with fail
    refine (anyModel_any w0 br _ _ (by omega) HR1.out).mono ?_
    rintro e W2 ⟨dv, cv, n, cs, B, rfl, hmf, hcs, hR2, hK2⟩
    obtain ⟨g, cap, rfl, -, -, -⟩ := hmf.ds.form
    obtain ⟨Ac, ec, rfl, -⟩ := hmf.ca.form
    obtain ⟨hrl, u0, u1, r0, r1, z0, z1⟩ := (HRB.out.keep hK2 (by omega)).two
    have HF := hide (FGot.done (w0 := w0) (br := br) (N := N + 1 + 504) (M := N + 910) (K := 6) (rb := W.heap.size) (W := W) (w' := ((W2.setCell ⟨W.heap.size, 0, none⟩ (.slice (some ⟨g, 0, none⟩) n cap)).setCell ⟨W.heap.size, 1, none⟩ (.slice Ac cs.length ec))) hmf (by omega) (by omega) (by omega) hR2 (HK1.out.trans hK2)
      (by (repeat refine Keep.set ?_ (fun _ hh => hh rfl) _); exact Keep.refl _ _) rfl (by omega) hbr hw0 (by omega))
    clear hmf hR2 hK2
    go_wp2_with fail
    exact bodyPost_ret (v := .agg #[.slice (some ⟨g, 0, none⟩) n cap, .slice Ac cs.length ec]) (by simp only [results, Tryz.results11]; go_simp) rfl HF.out
  · by_cases hk1 : k = 1
    · subst hk1
      go_wp2_with fail
      refine (hardModel_any w0 br _ _ (by omega) HR1.out).mono ?_
      rintro e W2 ⟨dv, cv, n, cs, B, rfl, hmf, hcs, hR2, hK2⟩
      obtain ⟨g, cap, rfl, -, -, -⟩ := hmf.ds.form
      obtain ⟨Ac, ec, rfl, -⟩ := hmf.ca.form
      obtain ⟨hrl, u0, u1, r0, r1, z0, z1⟩ := (HRB.out.keep hK2 (by omega)).two
      have HF := hide (FGot.done (w0 := w0) (br := br) (N := N + 1 + 900) (M := N + 910) (K := 6) (rb := W.heap.size) (W := W) (w' := ((W2.setCell ⟨W.heap.size, 0, none⟩ (.slice (some ⟨g, 0, none⟩) n cap)).setCell ⟨W.heap.size, 1, none⟩ (.slice Ac cs.length ec))) (MV.mf hmf (by omega)) (by omega) (by omega) (by omega) hR2 (HK1.out.trans hK2)
        (by (repeat refine Keep.set ?_ (fun _ hh => hh rfl) _); exact Keep.refl _ _) rfl (by omega) hbr hw0 (by omega))
      clear hmf hR2 hK2
      go_wp2_with fail
      exact bodyPost_ret (v := .agg #[.slice (some ⟨g, 0, none⟩) n cap, .slice Ac cs.length ec]) (by simp only [results, Tryz.results11]; go_simp) rfl HF.out
    · have e0 : (k == 0) = false := by simp [hk0]
      have e1 : (k == 1) = false := by simp [hk1]
      go_wp2_with fail
      refine (tightModel_any w0 br _ _ (by omega) HR1.out).mono ?_
      rintro e W2 ⟨dv, cv, n, cs, B, rfl, hmf, hcs, hR2, hK2⟩
      obtain ⟨g, cap, rfl, -, -, -⟩ := hmf.ds.form
      obtain ⟨Ac, ec, rfl, -⟩ := hmf.ca.form
      obtain ⟨hrl, u0, u1, r0, r1, z0, z1⟩ := (HRB.out.keep hK2 (by omega)).two
      have HF := hide (FGot.done (w0 := w0) (br := br) (N := N + 1 + 900) (M := N + 910) (K := 6) (rb := W.heap.size) (W := W) (w' := ((W2.setCell ⟨W.heap.size, 0, none⟩ (.slice (some ⟨g, 0, none⟩) n cap)).setCell ⟨W.heap.size, 1, none⟩ (.slice Ac cs.length ec))) (MV.mf hmf (by omega)) (by omega) (by omega) (by omega) hR2 (HK1.out.trans hK2)
        (by (repeat refine Keep.set ?_ (fun _ hh => hh rfl) _); exact Keep.refl _ _) rfl (by omega) hbr hw0 (by omega))
      clear hmf hR2 hK2
      go_wp2_with fail
      exact bodyPost_ret (v := .agg #[.slice (some ⟨g, 0, none⟩) n cap, .slice Ac cs.length ec]) (by simp only [results, Tryz.results11]; go_simp) rfl HF.out
theorem ext_of_keep {w W2 W3 : World} {S : Nat → Prop} (h : Keep (fun k => k < w.heap.size) w W2) (hk : Keep S W2 W3) (hS : ∀ k, k < w.heap.size → S k) : Ext w W3 := by
  have ht2 := h.then hk (fun k hk _ => hS k hk)
  exact ⟨ht2.os, ht2.tape, ht2.output, ht2.size, fun k hk => ht2.block k hk hk⟩
/-- A model came. -/
def DModGot (w : World) (e : Ending) (W' : World) : Prop :=
  ∃ vd vc ds cs, e = .returned (.agg #[vd, vc]) ∧ SInts W' vd ds ∧ SCons W' vc cs ∧ 1 ≤ ds.length ∧ ds.length ≤ 4 ∧ Ext w W'
end Go.Proofs.YtalgilgfoekioaaGreatDoor
/- Draws of the generator: a model, a variable and a value; a model that is often singleton consistent. -/
namespace Go.Proofs.YtalgilgfoekioaaGreatDoor
open Go.RowKit

/-- The model stands in block W2.heap.size. -/
structure MS (w0 : World) (br N : Nat) (W2 W : World) (n cap g : Nat) (Ac : Option Addr) (ec : Nat) (cs : List Con) : Prop where
  m0 : W.cell? ⟨W2.heap.size, 0, none⟩ = some (.slice (some ⟨g, 0, none⟩) n cap)
  m1 : W.cell? ⟨W2.heap.size, 1, none⟩ = some (.slice Ac cs.length ec)
  fz : ∀ i, W.frozen? ⟨W2.heap.size, i, none⟩ = false
  sz : W2.heap.size < W.heap.size
  kp : Keep (fun k => k ≠ br) W2 W
  rd : RdSt w0 br N W
theorem MS.keep {w0 : World} {br N M : Nat} {W2 W W' : World} {n cap g : Nat} {Ac : Option Addr} {ec : Nat} {cs : List Con} (h : MS w0 br N W2 W n cap g Ac ec cs) (hb : W2.heap.size ≠ br) (hR : RdSt w0 br M W') (hK : Keep (fun k => k ≠ br) W W') : MS w0 br M W2 W' n cap g Ac ec cs :=
  ⟨(hK.cell (p := ⟨W2.heap.size, 0, none⟩) h.sz hb).trans h.m0, (hK.cell (p := ⟨W2.heap.size, 1, none⟩) h.sz hb).trans h.m1, fun i => (hK.frz (p := ⟨W2.heap.size, i, none⟩) h.sz hb).trans (h.fz i), Nat.lt_of_lt_of_le h.sz hK.size, h.kp.trans hK, hR⟩
/-- A model and two numbers came. -/
def DProbeGot (w : World) (e : Ending) (W' : World) : Prop :=
  ∃ vd vc ds cs i a, e = .returned (.tuple #[.agg #[vd, vc], .int .i64 i, .int .i64 a]) ∧ SInts W' vd ds ∧ SCons W' vc cs ∧ 1 ≤ ds.length ∧ ds.length ≤ 4 ∧ -1 ≤ i ∧ i ≤ 4 ∧ -1 ≤ a ∧ a ≤ 6 ∧ Ext w W'
end Go.Proofs.YtalgilgfoekioaaGreatDoor
