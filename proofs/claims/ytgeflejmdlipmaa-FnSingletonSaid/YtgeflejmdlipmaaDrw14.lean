/- Draws of the generator: a model. -/
import Derived.Test.YtgeflejmdlipmaaDrw12
import Derived.Test.YtgeflejmdlipmaaDrw13
import Derived.Deep.CutBlock
import Derived.Deep.DeepCutAuto
namespace Go.Proofs.Ytgeflejmdlipmaa
open Go.RowKit

/-- A model that was drawn: its parts. -/
structure MV (L A B : Nat) (lo hi : Int) (w : World) (dv cv : Value) (n : Nat) (cs : List Con) : Prop where
  n1 : 1 ≤ n
  n4 : n ≤ 4
  ds : LR A 3 1 w dv n lo hi
  db : ∀ g, dv.ownBlock = some g → g < B
  ca : CA L B (fun k => B ≤ k) w cv cs
  ab : A ≤ B
  bw : B ≤ w.heap.size
theorem MV.keep {L A B : Nat} {lo hi : Int} {w w' : World} {dv cv : Value} {n : Nat} {cs : List Con} {S : Nat → Prop} (h : MV L A B lo hi w dv cv n cs) (hk : Keep S w w') (hS : ∀ k, A ≤ k → S k) : MV L A B lo hi w' dv cv n cs :=
  ⟨h.n1, h.n4, h.ds.keep hk hS, h.db, h.ca.keep hk (fun k hk => hS k (Nat.le_trans h.ab hk)) (fun k hk => hS k (Nat.le_trans h.ab hk)), h.ab, Nat.le_trans h.bw hk.size⟩
theorem MV.ext {L A B : Nat} {lo hi : Int} {w w' : World} {dv cv : Value} {n : Nat} {cs : List Con} (h : MV L A B lo hi w dv cv n cs) (hx : Ext w w') : MV L A B lo hi w' dv cv n cs := h.keep (hx.keep (fun _ => True)) (fun _ _ => trivial)
theorem MV.mono {L A A' B : Nat} {lo hi lo' hi' : Int} {w : World} {dv cv : Value} {n : Nat} {cs : List Con} (h : MV L A B lo hi w dv cv n cs) (hA : A' ≤ A) (hl : lo' ≤ lo) (hh : hi ≤ hi') : MV L A' B lo' hi' w dv cv n cs :=
  ⟨h.n1, h.n4, h.ds.mono hA hl hh, h.db, h.ca, Nat.le_trans hA h.ab, h.bw⟩
/-- A model came. -/
def MGot (L : Nat) (w0 : World) (br N : Nat) (lo hi : Int) (K : Nat) (W : World) (e : Ending) (W' : World) : Prop :=
  ∃ dv cv n cs B, e = .returned (.agg #[dv, cv]) ∧ MV L W.heap.size B lo hi W' dv cv n cs ∧ cs.length ≤ K ∧ RdSt w0 br N W' ∧ Keep (fun k => k ≠ br) W W'
theorem LR.keepb {base : Nat} {e : TypeId} {size : Nat} {w w' : World} {v : Value} {n : Nat} {lo hi : Int} {S : Nat → Prop} (h : LR base e size w v n lo hi) (hk : Keep S w w') (hS : ∀ g, v.ownBlock = some g → S g) : LR base e size w' v n lo hi := by
  obtain ⟨g, cap, f, h1, h2, h3, h3', h4, h5⟩ := h
  exact ⟨g, cap, f, h1, h2, h3, h3', hk.row (hS g (by rw [h1]; rfl)) h4, h5⟩
/-- A model in the making, in block mc; the block of the result beside it. -/
structure MB (w0 : World) (br rb mc N : Nat) (W wr : World) (dv cv : Value) : Prop where
  c0 : wr.cell? ⟨mc, 0, none⟩ = some dv
  c1 : wr.cell? ⟨mc, 1, none⟩ = some cv
  fz : ∀ i, wr.frozen? ⟨mc, i, none⟩ = false
  r : RB rb 2 wr
  rd : RdSt w0 br N wr
  kp : Keep (fun k => k ≠ br) W wr
  b0 : W.heap.size ≤ mc
  b1 : mc < wr.heap.size
  r0 : W.heap.size ≤ rb
  ne : rb ≠ mc
  br0 : br < W.heap.size
  w00 : w0.heap.size ≤ W.heap.size
theorem MB.keep {w0 : World} {br rb mc N M : Nat} {W wr w2 : World} {dv cv : Value} (h : MB w0 br rb mc N W wr dv cv) (hR : RdSt w0 br M w2) (hK : Keep (fun k => k ≠ br) wr w2) : MB w0 br rb mc M W w2 dv cv := by
  have b0 := h.b0
  have r0 := h.r0
  have br0 := h.br0
  exact ⟨(hK.cell (p := ⟨mc, 0, none⟩) h.b1 (by show mc ≠ br; omega)).trans h.c0, (hK.cell (p := ⟨mc, 1, none⟩) h.b1 (by show mc ≠ br; omega)).trans h.c1, fun i => (hK.frz (p := ⟨mc, i, none⟩) h.b1 (by show mc ≠ br; omega)).trans (h.fz i),
    h.r.keep hK (by omega), hR, h.kp.trans hK, b0, Nat.lt_of_lt_of_le h.b1 hK.size, r0, h.ne, br0, h.w00⟩
theorem MB.mono {w0 : World} {br rb mc N M : Nat} {W wr : World} {dv cv : Value} (h : MB w0 br rb mc N W wr dv cv) (hN : N ≤ M) : MB w0 br rb mc M W wr dv cv := h.keep (h.rd.mono hN) (Keep.refl _ _)
theorem MB.grow {w0 : World} {br rb mc N : Nat} {W wr w2 : World} {dv cv : Value} (h : MB w0 br rb mc N W wr dv cv) (hx : Ext wr w2) : MB w0 br rb mc N W w2 dv cv := h.keep (h.rd.grow hx) (hx.keep _)
theorem MB.far {w0 : World} {br rb mc N base : Nat} {W wr w2 : World} {dv cv : Value} (h : MB w0 br rb mc N W wr dv cv) (hk : Keep (fun k => k < base) wr w2) (h1 : mc < base) (h2 : rb < base) : MB w0 br rb mc N W w2 dv cv := by
  have b0 := h.b0
  have br0 := h.br0
  have hw0 := h.w00
  exact ⟨(hk.cell (p := ⟨mc, 0, none⟩) h.b1 h1).trans h.c0, (hk.cell (p := ⟨mc, 1, none⟩) h.b1 h1).trans h.c1, fun i => (hk.frz (p := ⟨mc, i, none⟩) h.b1 h1).trans (h.fz i),
    h.r.keep hk h2, h.rd.keep hk (by omega) (fun k hk => by omega), h.kp.trans9 hk (fun k hk _ => by omega), b0, Nat.lt_of_lt_of_le h.b1 hk.size, h.r0, h.ne, br0, hw0⟩
theorem MB.setk {w0 : World} {br rb mc N : Nat} {W wr : World} {dv cv : Value} (_h : MB w0 br rb mc N W wr dv cv) (i : Nat) (u : Value) : Keep (fun k => k ≠ mc) wr (wr.setCell ⟨mc, i, none⟩ u) := (Keep.refl (fun k => k ≠ mc) wr).set (p := ⟨mc, i, none⟩) (fun _ hh => hh rfl) u
theorem MB.set0 {w0 : World} {br rb mc N : Nat} {W wr : World} {dv cv : Value} (h : MB w0 br rb mc N W wr dv cv) (u : Value) : MB w0 br rb mc N W (wr.setCell ⟨mc, 0, none⟩ u) u cv := by
  have b0 := h.b0
  have br0 := h.br0
  have hw0 := h.w00
  have hk := h.setk 0 u
  exact ⟨World.cell?_setCell_same' _ _ _ (by rw [h.c0]; rfl), (World.cell?_setCell_other _ _ _ _ (by simp)).trans h.c1, fun i => (World.frozen?_setCell ..).trans (h.fz i), h.r.keep hk h.ne,
    h.rd.keep hk (by omega) (fun k hk => by omega), h.kp.trans9 hk (fun k hk _ => by omega), b0, Nat.lt_of_lt_of_le h.b1 hk.size, h.r0, h.ne, br0, hw0⟩
theorem MB.set1 {w0 : World} {br rb mc N : Nat} {W wr : World} {dv cv : Value} (h : MB w0 br rb mc N W wr dv cv) (u : Value) : MB w0 br rb mc N W (wr.setCell ⟨mc, 1, none⟩ u) dv u := by
  have b0 := h.b0
  have br0 := h.br0
  have hw0 := h.w00
  have hk := h.setk 1 u
  exact ⟨(World.cell?_setCell_other _ _ _ _ (by simp)).trans h.c0, World.cell?_setCell_same' _ _ _ (by rw [h.c1]; rfl), fun i => (World.frozen?_setCell ..).trans (h.fz i), h.r.keep hk h.ne,
    h.rd.keep hk (by omega) (fun k hk => by omega), h.kp.trans9 hk (fun k hk _ => by omega), b0, Nat.lt_of_lt_of_le h.b1 hk.size, h.r0, h.ne, br0, hw0⟩
theorem RB.two {rb : Nat} {w : World} (h : RB rb 2 w) : rb < w.heap.size ∧ ∃ u0 u1, w.cell? ⟨rb, 0, none⟩ = some u0 ∧ w.cell? ⟨rb, 1, none⟩ = some u1 ∧ w.frozen? ⟨rb, 0, none⟩ = false ∧ w.frozen? ⟨rb, 1, none⟩ = false := by
  obtain ⟨h1, h2, h3⟩ := h
  obtain ⟨u0, a0⟩ := h3 0 (by omega)
  obtain ⟨u1, a1⟩ := h3 1 (by omega)
  exact ⟨h1, u0, u1, a0, a1, h2 _, h2 _⟩
theorem MB.start {w0 : World} {br N : Nat} {W w1 : World} {t t' : TypeId} {x0 x1 : Value} (hR : RdSt w0 br N w1) (hK : Keep (fun k => k ≠ br) ((W.alloc (.cells #[x0, x1] t)).alloc (.cells #[.slice none 0 0, .slice none 0 0] t')) w1) (hbr : br < W.heap.size) (hw : w0.heap.size ≤ W.heap.size) :
    MB w0 br W.heap.size (W.heap.size + 1) N W w1 (.slice none 0 0) (.slice none 0 0) := by
  have hx : Ext (W.alloc (.cells #[x0, x1] t)) ((W.alloc (.cells #[x0, x1] t)).alloc (.cells #[.slice none 0 0, .slice none 0 0] t')) := (Ext.refl _).alloc _
  have hs : (W.alloc (.cells #[x0, x1] t)).heap.size = W.heap.size + 1 := by simp
  have hs2 : ((W.alloc (.cells #[x0, x1] t)).alloc (.cells #[.slice none 0 0, .slice none 0 0] t')).heap.size = W.heap.size + 2 := by simp
  have hn : W.heap.size + 1 ≠ br := by omega
  refine ⟨(hK.cell (p := ⟨W.heap.size + 1, 0, none⟩) (by rw [hs2]; show W.heap.size + 1 < _; omega) hn).trans (World.cell?_alloc_at _ _ _ _ hs.symm), (hK.cell (p := ⟨W.heap.size + 1, 1, none⟩) (by rw [hs2]; show W.heap.size + 1 < _; omega) hn).trans (World.cell?_alloc_at _ _ _ _ hs.symm),
    fun i => (hK.frz (p := ⟨W.heap.size + 1, i, none⟩) (by rw [hs2]; show W.heap.size + 1 < _; omega) hn).trans (by rw [← hs]; exact World.frozen?_alloc_new _ _ _ _), ?_, hR, (((Ext.refl W).alloc _).alloc _).keep _ |>.trans hK, by omega, by have := hK.size; omega, Nat.le_refl _, by omega, hbr, hw⟩
  refine RB.keep (S := fun k => k ≠ br) ⟨by rw [hs2]; omega, fun i => ?_, fun i hi => ?_⟩ hK (by omega)
  · exact (hx.frz W.heap.size i (by omega)).trans (World.frozen?_alloc_new _ _ _ _)
  · obtain rfl | rfl : i = 0 ∨ i = 1 := by omega
    all_goals exact ⟨_, (hx.cells W.heap.size _ (by omega)).trans (World.cell?_alloc_at _ _ _ _ rfl)⟩
set_option maxRecDepth 100000 in
set_option maxHeartbeats 8000000 in
theorem randomModel_any (w0 : World) (br N : Nat) (W : World) (hN : N ≤ 60000) (hR : RdSt w0 br N W) :
    Calls Try.prog 72 #[.pointer (some ⟨br, 0, none⟩)] W (MGot 99 w0 br (N + 500) 0 63 4 W) := by
  have HR := hide hR
  have hbr := hR.lt
  have hw0 := hR.ext.size
  clear hR
  go_enter Try.func72, Try.ntmps72
  go_wp2_with fail
  refine (pick_any w0 br N 4 _ (by omega) (by omega) (by omega) (HR.out.grow (((Ext.refl W).alloc _).alloc _))).mono ?_
  rintro e W1 ⟨k, k0, k1, rfl, hR1, hK1⟩
  have HMB := hide (MB.start hR1 hK1 hbr hw0)
  have hs1 : W.heap.size + 2 ≤ W1.heap.size := by have := hK1.size; simp at this; omega
  clear hR1 hK1
  obtain ⟨k, rfl⟩ : ∃ k' : Nat, k = k' := ⟨k.toNat, by omega⟩
  have hwk : IntKind.i64.wrap (1 + (k : Int)) = 1 + (k : Int) := IntWalk.i64_in _ (by omega)
  have c0 := HMB.out.c0
  have hmc := HMB.out.b1
  go_wp2_with fail
  go_loopw [4] (fun i wr => ∃ (j t : Nat) (dv : Value), i = .int .i64 j ∧ t + j = k + 1 ∧ LN (W.heap.size + 2) wr dv t 0 63 ∧ MB w0 br W.heap.size (W.heap.size + 1) (N + 1 + 3 * t) W wr dv (.slice none 0 0)) (fun i _ => (intOf i).toNat)
  case atStart => exact ⟨k + 1, 0, _, by go_num, by omega, .inl ⟨rfl, rfl⟩, HMB.out⟩
  case round =>
    obtain ⟨j, t, dv, rfl, hj, hL, hmb⟩ := hrel
    obtain ⟨A2, e2, rfl, -⟩ := hL.form
    have HL := hide hL
    have HM2 := hide hmb
    have k0' := hmb.c0
    have k1' := hmb.c1
    have q0 := hmb.fz 0
    have q1 := hmb.fz 1
    have hmc2 := hmb.b1
    clear hL hmb c0
    by_cases hj0 : 0 < j
    · have hjI : 0 < (j : Int) := by omega
      have hjw : IntKind.i64.wrap ((j : Int) - 1) = (j : Int) - 1 := IntWalk.i64_in _ (by omega)
      go_upto_region 5 with fail
      refine wp_region_any (by kernel_rfl) ?_
      change wpAny _ _ _ _ _ _ _ (World.drew _)
      refine wpAny_take (i := 0) (v := ?_) rfl (by kernel_rfl) (by kernel_rfl) (by kernel_rfl) (by first | exact fun _ _ _ h => h | (rintro _ _ _ ⟨h, _⟩; cases h)) (Or.inl ⟨by rfl, ?hy0⟩) ?_
      case hy0 => intro w; go_simp; with_reducible rfl
      simp only [Act.put, List.getElem_toArray, List.getElem_cons_zero, List.setIfInBounds_toArray, List.set_cons_succ, List.set_cons_zero]
      refine wpAny_take (i := 2) (v := ?_) rfl (by kernel_rfl) (by kernel_rfl) (by kernel_rfl) (by first | exact fun _ _ _ h => h | (rintro _ _ _ ⟨h, _⟩; cases h)) (Or.inl ⟨by rfl, ?hy2⟩) ?_
      case hy2 => intro w; go_simp; with_reducible rfl
      simp only [Act.put, List.getElem_toArray, List.getElem_cons_zero, List.getElem_cons_succ, List.setIfInBounds_toArray, List.set_cons_succ, List.set_cons_zero]
      refine wpAny_flt 1 5 [3, 4] [6, 7] (.slice A2 t e2) (fun w => w.cell? ⟨W.heap.size + 1, 0, none⟩ = some (.slice A2 t e2)) rfl (by kernel_rfl) rfl (fun _ _ _ h => h) k0' (And.intro (by rfl) ?hys) ?_
      case hys => intro w' hw'; have hk' : w'.cell? ⟨W.heap.size + 1, 0, none⟩ = some (.slice A2 t e2) := hw'; go_simp; all_goals exact rfl
      simp only [nths, nth1, Act.put, List.setIfInBounds_toArray, List.set_cons_succ, List.set_cons_zero]
      refine wpSeqC_cons fun K hK => ?_
      go_simp
      refine (randomDomain_any w0 br _ _ ?_ (HM2.out.rd.grow ((Ext.refl wr).drew))).mono ?_
      · omega
      rintro e W5 ⟨z, zz0, zz1, rfl, hR5, hK5⟩
      have hK5 : Keep (fun k => k ≠ br) wr W5 := (((Ext.refl wr).drew).keep _).trans hK5
      have HM5 := hide (HM2.out.keep hR5 hK5)
      have h5 := HM5.out.c0
      have hl5 := HM5.out.b1
      have HL5 := hide (HL.out.keep hK5 (fun k hk => by omega))
      refine hK _ _ h5 ?_
      clear hK K hR5 hK5
      refine wpSeqC_cons fun K hK => ?_
      go_simp
      refine hK _ _ ?_ ?_
      · show World.cell? (World.alloc _ _) _ = _
        exact (((Ext.refl W5).alloc _).cells _ _ (by omega)).trans h5
      clear hK K
      refine wpSeqC_nil ?_
      refine wpList_appLN _ rfl _ _ rfl (W.heap.size + 2) (.slice A2 t e2) t 0 63 z W5.heap.size 1 rfl rfl (HL5.out.ext ((Ext.refl _).alloc _)) (World.cell?_alloc_at _ _ _ _ rfl) (by omega) (by omega) (by simp; omega) ?_
      intro v' W6 hL6 hb6
      have HM6 := hide ((HM5.out.grow ((Ext.refl W5).alloc (.cells #[.int .i64 z] 3))).far (Below.keep12 hb6) (by omega) (by omega))
      have HL6 := hide hL6
      obtain ⟨g6, cap6, rfl, -, -, -⟩ := hL6.form
      clear hL6 hb6 h5 k0' k1' q0 q1
      have h6 := HM6.out.c0
      have q6 := HM6.out.fz 0
      have hl6 := HM6.out.b1
      go_wp2_with fail
      go_roundw
      case rel => exact ⟨j - 1, t + 1, _, by go_num, by omega, .inr (HL6.out.keep (HM6.out.setk 0 _) (fun k hk => by omega)), (HM6.out.mono (by omega)).set0 _⟩
      case measure => simp [intOf]; omega
    · obtain rfl : j = 0 := by omega
      have hL := HL.out
      rcases hL with ⟨-, h0⟩ | hL
      · omega
      obtain ⟨g, cap, hgv, hgb, hgl, -⟩ := hL.form
      injection hgv with hgv _ hgc
      subst hgv
      subst hgc
      have HLR := hide hL
      clear hL HL
      go_wp2_with fail
      refine (pick_any w0 br _ 5 _ (by omega) (by omega) ?_ HM2.out.rd).mono ?_
      · omega
      rintro e W3 ⟨y, yy0, yy1, rfl, hR3, hK3⟩
      have HM3 := hide (MB.mono (M := N + 20) (HM2.out.keep hR3 hK3) (by omega))
      have HL3 := hide (HLR.out.keep hK3 (fun k hk => by omega))
      have hs3 := hK3.size
      clear hR3 hK3 k0' k1' q0 q1
      obtain ⟨y, rfl⟩ : ∃ k' : Nat, y = k' := ⟨y.toNat, by omega⟩
      go_wp2_with fail
      go_loopw [5] (fun i wr => ∃ (j : Nat) (cv : Value) (cs : List Con), i = .int .i64 j ∧ cs.length + j = y ∧ CA 99 W3.heap.size (fun k => W3.heap.size ≤ k) wr cv cs ∧ W3.heap.size ≤ wr.heap.size ∧ LR (W.heap.size + 2) 3 1 wr (.slice (some ⟨g, 0, none⟩) t e2) t 0 63 ∧ MB w0 br W.heap.size (W.heap.size + 1) (N + 20 + 100 * cs.length) W wr (.slice (some ⟨g, 0, none⟩) t e2) cv) (fun i _ => (intOf i).toNat)
      case atStart => exact ⟨y, _, [], rfl, by simp, CA.nil_ _ _ _ _, Nat.le_refl _, HL3.out, HM3.out⟩
      case round =>
        obtain ⟨j, cv, cs, rfl, hj, hA, hsz, hL, hmb⟩ := hrel
        obtain ⟨Ac, ec, rfl, -⟩ := hA.form
        have HA := hide hA
        have HM4 := hide hmb
        have HL4 := hide hL
        have k0' := hmb.c0
        have k1' := hmb.c1
        have q0 := hmb.fz 0
        have q1 := hmb.fz 1
        have hmc4 := hmb.b1
        obtain ⟨hrb1, u0, u1, r0, r1, z0, z1⟩ := hmb.r.two
        clear hA hmb hL
        by_cases hj0 : 0 < j
        · have hjI : 0 < (j : Int) := by omega
          have hjw : IntKind.i64.wrap ((j : Int) - 1) = (j : Int) - 1 := IntWalk.i64_in _ (by omega)
          clear r0 r1 z0 z1
          go_upto_region 9 with fail
          refine wp_region_any (by kernel_rfl) ?_
          change wpAny _ _ _ _ _ _ _ (World.drew _)
          refine wpAny_take (i := 0) (v := ?_) rfl (by kernel_rfl) (by kernel_rfl) (by kernel_rfl) (by first | exact fun _ _ _ h => h | (rintro _ _ _ ⟨h, _⟩; cases h)) (Or.inl ⟨by rfl, ?hy0⟩) ?_
          case hy0 => intro w; go_simp; with_reducible rfl
          simp only [Act.put, List.getElem_toArray, List.getElem_cons_zero, List.setIfInBounds_toArray, List.set_cons_succ, List.set_cons_zero]
          refine wpAny_take (i := 2) (v := ?_) rfl (by kernel_rfl) (by kernel_rfl) (by kernel_rfl) (by first | exact fun _ _ _ h => h | (rintro _ _ _ ⟨h, _⟩; cases h)) (Or.inl ⟨by rfl, ?hy2⟩) ?_
          case hy2 => intro w; go_simp; with_reducible rfl
          simp only [Act.put, List.getElem_toArray, List.getElem_cons_zero, List.getElem_cons_succ, List.setIfInBounds_toArray, List.set_cons_succ, List.set_cons_zero]
          refine wpAny_take (i := 3) (v := ?_) rfl (by kernel_rfl) (by kernel_rfl) (by kernel_rfl) (by first | exact fun _ _ _ h => h | (rintro _ _ _ ⟨h, _⟩; cases h)) (Or.inl ⟨by rfl, ?hy3⟩) ?_
          case hy3 => intro w; go_simp; with_reducible rfl
          simp only [Act.put, List.getElem_toArray, List.getElem_cons_zero, List.getElem_cons_succ, List.setIfInBounds_toArray, List.set_cons_succ, List.set_cons_zero]
          refine wpAny_flt 1 8 [4, 5, 6, 7] [9, 10] (.slice Ac cs.length ec) (fun w => w.cell? ⟨W.heap.size + 1, 1, none⟩ = some (.slice Ac cs.length ec)) rfl (by kernel_rfl) rfl (fun _ _ _ h => h) k1' (And.intro (by rfl) ?hys) ?_
          case hys => intro w' hw'; have hk' : w'.cell? ⟨W.heap.size + 1, 1, none⟩ = some (.slice Ac cs.length ec) := hw'; go_simp; all_goals exact rfl
          simp only [nths, nth1, Act.put, List.setIfInBounds_toArray, List.set_cons_succ, List.set_cons_zero]
          refine wpSeqC_cons fun K hK => ?_
          go_simp
          refine hK _ _ k1' ?_
          clear hK K
          refine wpSeqC_cons fun K hK => ?_
          go_simp
          refine hK _ _ k1' ?_
          clear hK K
          refine wpSeqC_cons fun K hK => ?_
          go_simp
          refine (randomConstraint_any w0 br _ t _ (by omega) (by omega) ?_ (HM4.out.rd.grow ((Ext.refl wr).drew))).mono ?_
          · omega
          rintro e W5 ⟨v, c, rfl, hlen, ⟨vv, va, vr, rfl, i1, i2, i3⟩, hR5, hK5⟩
          have hK5 : Keep (fun k => k ≠ br) wr W5 := (((Ext.refl wr).drew).keep _).trans hK5
          obtain ⟨A1, e1, hv1, -⟩ := i1.form
          obtain ⟨A3, e3, hv2, -⟩ := i2.form
          obtain ⟨A4, e4, hv3, -⟩ := i3.1.form
          subst hv1 hv2 hv3
          have HM5 := hide (HM4.out.keep hR5 hK5)
          have h5 := HM5.out.c1
          have hl5 := HM5.out.b1
          have hs5 := hK5.size
          have HL5 := hide (HL4.out.keep hK5 (fun k hk => by omega))
          have HA5 := hide (HA.out.keep hK5 (fun k hk => by omega) (fun k hk => by omega))
          have I1 := hide (i1.mono (T := fun k => W3.heap.size ≤ k) (fun k hk => Nat.le_trans hsz hk))
          have I2 := hide (i2.mono (T := fun k => W3.heap.size ≤ k) (fun k hk => Nat.le_trans hsz hk))
          have I3 := hide (i3.mono (T := fun k => W3.heap.size ≤ k) (fun k hk => Nat.le_trans hsz hk))
          refine hK _ _ h5 ?_
          clear hK K hR5 hK5 i1 i2 i3
          refine wpSeqC_cons fun K hK => ?_
          go_simp
          refine hK _ _ ?_ ?_
          · show World.cell? (World.alloc _ _) _ = _
            exact (((Ext.refl W5).alloc _).cells _ _ (by omega)).trans h5
          clear hK K
          refine wpSeqC_nil ?_
          refine wpList_appCA _ rfl _ _ rfl 99 W3.heap.size (fun k => W3.heap.size ≤ k) (.slice Ac cs.length ec) cs c W5.heap.size 1 rfl rfl (HA5.out.ext ((Ext.refl _).alloc _)) ⟨_, _, _, World.cell?_alloc_at _ _ _ _ rfl, World.cell?_alloc_at _ _ _ _ rfl, World.cell?_alloc_at _ _ _ _ rfl, World.cell?_alloc_at _ _ _ _ rfl, World.cell?_alloc_at _ _ _ _ rfl, I1.out.ext ((Ext.refl _).alloc _), I2.out.ext ((Ext.refl _).alloc _), I3.out.ext ((Ext.refl _).alloc _), hlen⟩ (by omega) (by simp; omega) ?_
          intro v' W6 hA6 hb6
          have hb6 := Below.keep12 hb6
          have HM6 := hide ((HM5.out.grow ((Ext.refl W5).alloc (.cells #[.int .i64 c.kk, .slice A1 c.vars.length e1, .slice A3 c.args.length e3, .int .i64 c.bound, .slice A4 c.rows.length e4] 54))).far hb6 (by omega) (by omega))
          have HL6 := hide ((HL5.out.ext ((Ext.refl W5).alloc (.cells #[.int .i64 c.kk, .slice A1 c.vars.length e1, .slice A3 c.args.length e3, .int .i64 c.bound, .slice A4 c.rows.length e4] 54))).keepb hb6 (fun g' hg' => by have hg' : some g = some g' := hg'; injection hg' with hg'; omega))
          have hs6 := hb6.size
          rw [World.size_alloc] at hs6
          have HA6 := hide hA6
          obtain ⟨Ac', ec', hcv, -⟩ := hA6.form
          rw [show (cs ++ [c]).length = cs.length + 1 by simp] at hcv
          subst hcv
          clear hA6 hb6 h5 k0' k1' q0 q1
          have h6 := HM6.out.c1
          have q6 := HM6.out.fz 1
          have hl6 := HM6.out.b1
          go_wp2_with fail
          go_roundw
          case rel => exact ⟨j - 1, _, cs ++ [c], by go_num, by simp; omega, HA6.out.keep (HM6.out.setk 1 _) (fun k hk => by omega) (fun k hk => by omega), Nat.le_trans (by omega) (HM6.out.setk 1 (.slice Ac' (cs.length + 1) ec')).size, HL6.out.keep (HM6.out.setk 1 _) (fun k hk => by omega), MB.set1 (HM6.out.mono (by simp; omega)) _⟩
          case measure => simp [intOf]; omega
        · obtain rfl : j = 0 := by omega
          go_wp2_with fail
          refine bodyPost_ret (v := .agg #[.slice (some ⟨g, 0, none⟩) t e2, .slice Ac cs.length ec]) (by simp only [results, Try.results72]; go_simp) rfl ?_
          have hk1 : Keep (fun k => k ≠ W.heap.size) wr ((wr.setCell ⟨W.heap.size, 0, none⟩ (.slice (some ⟨g, 0, none⟩) t e2)).setCell ⟨W.heap.size, 1, none⟩ (.slice Ac cs.length ec)) :=
            ((Keep.refl (fun k => k ≠ W.heap.size) wr).set (p := ⟨W.heap.size, 0, none⟩) (fun _ hh => hh rfl) _).set (p := ⟨W.heap.size, 1, none⟩) (fun _ hh => hh rfl) _
          refine ⟨_, _, t, cs, W3.heap.size, rfl, MV.mono (L := 99) (A := W.heap.size + 2) (lo := 0) (hi := 63) ?_ (by omega) (by omega) (by omega), by omega, (HM4.out.rd.mono (by omega)).keep hk1 (by omega) (fun k hk => by omega), HM4.out.kp.trans9 hk1 (fun k hk _ => by omega)⟩
          exact ⟨by omega, by omega, HL4.out.keep hk1 (fun k hk => by omega), fun g' hg' => by have hg' : some g = some g' := hg'; injection hg' with hg'; omega, HA.out.keep hk1 (fun k hk => by omega) (fun k hk => by omega), by omega, Nat.le_trans hsz hk1.size⟩
end Go.Proofs.Ytgeflejmdlipmaa
