/- Draws of the generator: a model that may be invalid. -/
import Derived.Test.YtgeflejmdlipmaaDrw14
import Derived.Test.YtgeflejmdlipmaaDrw15
import Derived.Deep.CutBlock
import Derived.Deep.DeepCutAuto
namespace Go.Proofs.Ytgeflejmdlipmaa
open Go.RowKit

/-- Constraints as a row, for stores into it. -/
def CF (L B : Nat) (S : Nat → Prop) (w : World) (v : Value) (cs : List Con) : Prop :=
  (v = .slice none 0 0 ∧ cs = []) ∨ ∃ g cap f, v = .slice (some ⟨g, 0, none⟩) cs.length cap ∧ B ≤ g ∧ cs.length ≤ cap ∧ w.rowIs g 54 (cap * 5) f ∧ ∀ i, i < cs.length → CV5 L S w (fun j => some (f (i * 5 + j))) (con0 cs i)
theorem CA.cf {L B : Nat} {S : Nat → Prop} {w : World} {v : Value} {cs : List Con} (h : CA L B S w v cs) : CF L B S w v cs := by
  obtain ⟨cells, h1, h2⟩ := h
  rcases h1.2 with ⟨e1, e2⟩ | ⟨g, cap, cur, e1, hg, hh, hnc, hm, hcs, htk⟩
  · exact .inl ⟨e1, List.length_eq_zero_iff.1 e2⟩
  · refine .inr ⟨g, cap, fun i => cur.getD i (.bool false), e1, hg, hnc, ⟨cur, hh, hcs, fun i hi => by show _ = some (cur.getD i _); rw [Array.getD_eq_getD_getElem?, Array.getElem?_eq_getElem (by omega)]; rfl⟩, fun i hi => (h2 i hi).cast fun j hj => ?_⟩
    have e5 : (cur.toList.take (cs.length * 5))[i * 5 + j]? = cells[i * 5 + j]? := by rw [htk]
    rw [List.getElem?_take, if_pos (by omega), Array.getElem?_toList] at e5
    have hle : cs.length * 5 ≤ cap * 5 := Nat.mul_le_mul_right _ hnc
    show _ = some (cur.getD (i * 5 + j) _)
    rw [← e5, Array.getD_eq_getD_getElem?, Array.getElem?_eq_getElem (by omega)]
    rfl
theorem CF.form {L B : Nat} {S : Nat → Prop} {w : World} {v : Value} {cs : List Con} (h : CF L B S w v cs) : ∃ A c, v = .slice A cs.length c ∧ cs.length ≤ c := by
  rcases h with ⟨rfl, rfl⟩ | ⟨g, cap, f, rfl, -, h, -⟩
  · exact ⟨_, _, rfl, Nat.le_refl _⟩
  · exact ⟨_, _, rfl, h⟩
theorem CF.wide {L M B : Nat} {S : Nat → Prop} {w : World} {v : Value} {cs : List Con} (h : CF L B S w v cs) (hL : L ≤ M) : CF M B S w v cs :=
  h.imp id fun ⟨g, cap, f, h1, h2, h3, h4, h5⟩ => ⟨g, cap, f, h1, h2, h3, h4, fun i hi => (h5 i hi).wide hL⟩
theorem CF.keep {L B : Nat} {S T : Nat → Prop} {w w' : World} {v : Value} {cs : List Con} (h : CF L B S w v cs) (hk : Keep T w w') (hb : ∀ k, B ≤ k → T k) (hS : ∀ k, S k → T k) : CF L B S w' v cs :=
  h.imp id fun ⟨g, cap, f, h1, h2, h3, h4, h5⟩ => ⟨g, cap, f, h1, h2, h3, hk.row (hb g h2) h4, fun i hi => (h5 i hi).keep hk hS⟩
theorem CF.cons {L B : Nat} {S : Nat → Prop} {w : World} {v : Value} {cs : List Con} (h : CF L B S w v cs) (hl : cs.length ≤ 1000000) : SCons w v cs := by
  rcases h with ⟨rfl, rfl⟩ | ⟨g, cap, f, e1, hg, hnc, hr, h2⟩
  · exact ⟨none, 0, rfl, Nat.le_refl _, by simp, fun hp => absurd hp (by simp)⟩
  · have hle : cs.length * 5 ≤ cap * 5 := Nat.mul_le_mul_right _ hnc
    refine ⟨_, _, e1, hnc, by omega, fun _ => ⟨g, 0, rfl, hr.lt, fun i hi => ?_⟩⟩
    obtain ⟨vv, va, vr, e0, e1, e2, e3, e4, q1, q2, q3, -⟩ := h2 i hi
    have hcell : ∀ j u, j < 5 → some (f (i * 5 + j)) = some u → w.cell? ⟨g, 0 + i * 5 + j, none⟩ = some u := by
      intro j u hj hu
      rw [Nat.zero_add, hr.cell (by omega), hu]
    exact ⟨vv, va, vr, hcell 0 _ (by omega) e0, hcell 1 _ (by omega) e1, hcell 2 _ (by omega) e2, hcell 3 _ (by omega) e3, hcell 4 _ (by omega) e4, q1.ints, q2.ints, q3.rows⟩
/-- One constraint is replaced. -/
theorem CF.set {L B : Nat} {S : Nat → Prop} {w : World} {g n cap k : Nat} {cs : List Con} {c : Con} {vv va vr : Value} (h : CF L B S w (.slice (some ⟨g, 0, none⟩) n cap) cs) (hk : k < cs.length)
    (hn : CV5 L S w (fun j => [Value.int .i64 c.kk, vv, va, .int .i64 c.bound, vr][j]?) c) :
    CF L B S (((((w.setCell ⟨g, k * 5, none⟩ (.int .i64 c.kk)).setCell ⟨g, k * 5 + 1, none⟩ vv).setCell ⟨g, k * 5 + 2, none⟩ va).setCell ⟨g, k * 5 + 3, none⟩ (.int .i64 c.bound)).setCell ⟨g, k * 5 + 4, none⟩ vr) (.slice (some ⟨g, 0, none⟩) n cap) (cs.set k c) := by
  rcases h with ⟨h, -⟩ | ⟨g', cap', f, e1, hg, hnc, hr, h2⟩
  · cases h
  injection e1 with e1 e2 e3
  injection e1 with e1
  injection e1 with e1 _
  subst e1 e2 e3
  have hle : cs.length * 5 ≤ cap * 5 := Nat.mul_le_mul_right _ hnc
  have hC : HasC w g := by obtain ⟨cur, k1, -⟩ := hr; exact ⟨cur, k1⟩
  have hK : Keep (fun k => k ≠ g) w (((((w.setCell ⟨g, k * 5, none⟩ (.int .i64 c.kk)).setCell ⟨g, k * 5 + 1, none⟩ vv).setCell ⟨g, k * 5 + 2, none⟩ va).setCell ⟨g, k * 5 + 3, none⟩ (.int .i64 c.bound)).setCell ⟨g, k * 5 + 4, none⟩ vr) := by
    repeat refine Keep.set ?_ (fun _ hh => hh rfl) _
    exact Keep.refl _ _
  have mv : ∀ {F : Nat → Option Value} {d : Con}, CV5 L S w F d → CV5 L S (((((w.setCell ⟨g, k * 5, none⟩ (.int .i64 c.kk)).setCell ⟨g, k * 5 + 1, none⟩ vv).setCell ⟨g, k * 5 + 2, none⟩ va).setCell ⟨g, k * 5 + 3, none⟩ (.int .i64 c.bound)).setCell ⟨g, k * 5 + 4, none⟩ vr) F d :=
    fun hd => ((hd.apart hC).keep hK (fun k hk => hk.2)).mono (fun k hk => hk.1)
  have hr5 := ((((hr.set (k * 5) (.int .i64 c.kk)).set (k * 5 + 1) vv).set (k * 5 + 2) va).set (k * 5 + 3) (.int .i64 c.bound)).set (k * 5 + 4) vr
  refine .inr ⟨g, cap, _, by rw [List.length_set], hg, by rw [List.length_set]; exact hnc, hr5, fun i hi => ?_⟩
  rw [List.length_set] at hi
  by_cases hik : i = k
  · subst hik
    rw [show con0 (cs.set i c) i = c by simp [con0, hi]]
    refine (mv hn).cast fun j hj => ?_
    obtain rfl | rfl | rfl | rfl | rfl : j = 0 ∨ j = 1 ∨ j = 2 ∨ j = 3 ∨ j = 4 := by omega
    all_goals simp
  · rw [show con0 (cs.set k c) i = con0 cs i by simp [con0, List.getD_eq_getElem?_getD, List.getElem?_set_ne (Ne.symm hik)]]
    refine (mv (h2 i hi)).cast fun j hj => ?_
    have a0 : i * 5 + j ≠ k * 5 := by omega
    have a1 : i * 5 + j ≠ k * 5 + 1 := by omega
    have a2 : i * 5 + j ≠ k * 5 + 2 := by omega
    have a3 : i * 5 + j ≠ k * 5 + 3 := by omega
    have a4 : i * 5 + j ≠ k * 5 + 4 := by omega
    simp [a0, a1, a2, a3, a4]
/-- The world as it was when it had B blocks. -/
theorem Keep.cut (w : World) {B : Nat} (hB : B ≤ w.heap.size) : ∃ wo : World, wo.heap.size = B ∧ ∀ S, Keep S wo w := by
  refine ⟨{ w with heap := w.heap.extract 0 B }, by simp; omega, fun S => ⟨rfl, rfl, rfl, by simp; omega, fun k hk _ => ?_⟩⟩
  simp at hk
  show w.heap[k]? = (w.heap.extract 0 B)[k]?
  simp [hk]
/-- A model that was drawn: its parts, the constraints as a row. -/
structure MF (A B : Nat) (lo hi : Int) (w : World) (dv cv : Value) (n : Nat) (cs : List Con) : Prop where
  n1 : 1 ≤ n
  n4 : n ≤ 4
  ds : LR A 3 1 w dv n lo hi
  db : ∀ g, dv.ownBlock = some g → g < B
  ca : CF 100 B (fun k => B ≤ k) w cv cs
  ab : A ≤ B
  bw : B ≤ w.heap.size
theorem MV.mf {L A B : Nat} {lo hi : Int} {w : World} {dv cv : Value} {n : Nat} {cs : List Con} (h : MV L A B lo hi w dv cv n cs) (hL : L ≤ 100) : MF A B lo hi w dv cv n cs := ⟨h.n1, h.n4, h.ds, h.db, h.ca.cf.wide hL, h.ab, h.bw⟩
theorem MF.keep {A B : Nat} {lo hi : Int} {w w' : World} {dv cv : Value} {n : Nat} {cs : List Con} {S : Nat → Prop} (h : MF A B lo hi w dv cv n cs) (hk : Keep S w w') (hS : ∀ k, A ≤ k → S k) : MF A B lo hi w' dv cv n cs :=
  ⟨h.n1, h.n4, h.ds.keep hk hS, h.db, h.ca.keep hk (fun k hk => hS k (Nat.le_trans h.ab hk)) (fun k hk => hS k (Nat.le_trans h.ab hk)), h.ab, Nat.le_trans h.bw hk.size⟩
theorem MF.ext {A B : Nat} {lo hi : Int} {w w' : World} {dv cv : Value} {n : Nat} {cs : List Con} (h : MF A B lo hi w dv cv n cs) (hx : Ext w w') : MF A B lo hi w' dv cv n cs := h.keep (hx.keep (fun _ => True)) (fun _ _ => trivial)
theorem MF.mono {A A' B : Nat} {lo hi lo' hi' : Int} {w : World} {dv cv : Value} {n : Nat} {cs : List Con} (h : MF A B lo hi w dv cv n cs) (hA : A' ≤ A) (hl : lo' ≤ lo) (hh : hi ≤ hi') : MF A' B lo' hi' w dv cv n cs :=
  ⟨h.n1, h.n4, h.ds.mono hA hl hh, h.db, h.ca, Nat.le_trans hA h.ab, h.bw⟩
/-- A model came that may be invalid. -/
def FGot (w0 : World) (br N : Nat) (K : Nat) (W : World) (e : Ending) (W' : World) : Prop :=
  ∃ dv cv n cs B, e = .returned (.agg #[dv, cv]) ∧ MF W.heap.size B (-1) 64 W' dv cv n cs ∧ cs.length ≤ K ∧ RdSt w0 br N W' ∧ Keep (fun k => k ≠ br) W W'
set_option maxRecDepth 100000 in
set_option maxHeartbeats 8000000 in
theorem anyModel_any (w0 : World) (br N : Nat) (W : World) (hN : N ≤ 60000) (hR : RdSt w0 br N W) :
    Calls Try.prog 45 #[.pointer (some ⟨br, 0, none⟩)] W (FGot w0 br (N + 504) 4 W) := by
  have HR := hide hR
  have hbr := hR.lt
  have hw0 := hR.ext.size
  clear hR
  go_enter Try.func45, Try.ntmps45
  go_wp2_with fail
  refine (randomModel_any w0 br N _ hN (HR.out.grow ((Ext.refl W).alloc _))).mono ?_
  rintro e W1 ⟨dv, cv, n, cs, B, rfl, hmv, hcs, hR1, hK1⟩
  obtain ⟨g, cap, hdv, hgA, hgl, -⟩ := hmv.ds.form
  subst hdv
  obtain ⟨Ac, ec, hcv, -⟩ := hmv.ca.form
  subst hcv
  have hsA : (W.alloc (.cells #[.slice none 0 0, .slice none 0 0] 26)).heap.size = W.heap.size + 1 := by simp
  rw [hsA] at hgA hmv
  have hs1 : W.heap.size + 1 ≤ W1.heap.size := by have := hK1.size; rw [hsA] at this; exact this
  have hrb1 : RB W.heap.size 2 W1 := by
    refine RB.keep (S := fun k => k ≠ br) ⟨by rw [hsA]; omega, fun i => World.frozen?_alloc_new _ _ _ _, fun i hi => ?_⟩ hK1 (by omega)
    obtain rfl | rfl : i = 0 ∨ i = 1 := by omega
    all_goals exact ⟨_, World.cell?_alloc_at _ _ _ _ rfl⟩
  have hgB : g < B := hmv.db g rfl
  have hBw := hmv.bw
  have hn1 := hmv.n1
  have hn4 := hmv.n4
  have HL9 := hide (show ∀ i, i < cs.length → 0 < (con0 cs i).vars.length ∧ (con0 cs i).vars.length ≤ 99 ∧ (con0 cs i).args.length ≤ 99 from by
    obtain ⟨cells, q1, q2⟩ := hmv.ca
    intro i hi
    obtain ⟨_, _, _, _, _, _, _, _, _, _, _, h⟩ := q2 i hi
    exact h)
  have HAc := hide (show ∀ h', (Value.slice Ac cs.length ec).ownBlock = some h' → h' < W1.heap.size from by
    obtain ⟨cells, q1, -⟩ := hmv.ca
    exact fun h' hh' => (World.ownsRow.lt q1 h' hh').2)
  have HMF1 := hide ((hmv.mf (by omega)).mono (A' := W.heap.size + 1) (lo' := -1) (hi' := 64) (Nat.le_refl _) (by omega) (by omega))
  have HRB1 := hide hrb1
  have HR1 := hide hR1
  have HK1 := hide ((((Ext.refl W).alloc _).keep _).trans hK1)
  clear hmv hrb1 hR1 hK1
  go_wp2_with fail
  refine (pick_any w0 br (N + 500) 16 _ (by omega) (by omega) (by omega) (HR1.out.grow ((Ext.refl W1).alloc _))).mono ?_
  rintro e W2 ⟨y, y0, y1, rfl, hR2, hK2⟩
  have hne : W1.heap.size ≠ br := by omega
  have hs2 : W1.heap.size < W2.heap.size := by have := hK2.size; simp at this; omega
  have m0 := (hK2.cell (p := ⟨W1.heap.size, 0, none⟩) (by simp) hne).trans (World.cell?_alloc_at _ _ _ _ rfl)
  have m1 := (hK2.cell (p := ⟨W1.heap.size, 1, none⟩) (by simp) hne).trans (World.cell?_alloc_at _ _ _ _ rfl)
  have hK12 : Keep (fun k => k ≠ br) W1 W2 := (((Ext.refl W1).alloc _).keep _).trans hK2
  have HMF2 := hide (HMF1.out.keep hK12 (fun k hk => by omega))
  have HRB2 := hide (HRB1.out.keep hK12 (by omega))
  have HR2 := hide hR2
  have HK2 := hide (HK1.out.trans hK12)
  clear hR2 hK2 hK12
  go_upto_block 0 with fail
  go_cut [3] from 4 (fun s3 wx => s3 = .pointer (some ⟨W1.heap.size, 0, none⟩) ∧ W1.heap.size < wx.heap.size ∧ wx.cell? ⟨W1.heap.size, 0, none⟩ = some (.slice (some ⟨g, 0, none⟩) n cap) ∧ wx.cell? ⟨W1.heap.size, 1, none⟩ = some (.slice Ac cs.length ec) ∧
    ∃ cs' : List Con, cs'.length = cs.length ∧ MF (W.heap.size + 1) B (-1) 64 wx (.slice (some ⟨g, 0, none⟩) n cap) (.slice Ac cs.length ec) n cs' ∧ RdSt w0 br (N + 504) wx ∧ RB W.heap.size 2 wx ∧ Keep (fun k => k ≠ br) W wx)
  case first =>
    by_cases hy0 : y = 0
    · subst hy0
      go_upto_region 4 with fail
      refine wp_region_any (by kernel_rfl) ?_
      change wpAny _ _ _ _ _ _ _ (World.drew _)
      refine wpAny_take (i := 0) (v := ?_) rfl (by kernel_rfl) (by kernel_rfl) (by kernel_rfl) (by first | exact fun _ _ _ h => h | (rintro _ _ _ ⟨h, _⟩; cases h)) (Or.inl ⟨by rfl, ?hy0⟩) ?_
      case hy0 => intro w; go_simp; with_reducible rfl
      simp only [Act.put, List.getElem_toArray, List.getElem_cons_zero, List.setIfInBounds_toArray, List.set_cons_succ, List.set_cons_zero]
      refine wpAny_take (i := 2) (v := ?_) rfl (by kernel_rfl) (by kernel_rfl) (by kernel_rfl) (by first | exact fun _ _ _ h => h | (rintro _ _ _ ⟨h, _⟩; cases h)) (Or.inl ⟨by rfl, ?hy2⟩) ?_
      case hy2 => intro w; go_simp; with_reducible rfl
      simp only [Act.put, List.getElem_toArray, List.getElem_cons_zero, List.getElem_cons_succ, List.setIfInBounds_toArray, List.set_cons_succ, List.set_cons_zero]
      refine wpAny_take (i := 3) (v := ?_) rfl (by kernel_rfl) (by kernel_rfl) (by kernel_rfl) (by first | exact fun _ _ _ h => h | (rintro _ _ _ ⟨h, _⟩; cases h)) (Or.inl ⟨by rfl, ?hy3⟩) ?_
      case hy3 => intro w; go_simp; with_reducible rfl
      simp only [Act.put, List.getElem_toArray, List.getElem_cons_zero, List.getElem_cons_succ, List.setIfInBounds_toArray, List.set_cons_succ, List.set_cons_zero]
      refine wpAny_take (i := 7) (v := ?_) rfl (by kernel_rfl) (by kernel_rfl) (by kernel_rfl) (by first | exact fun _ _ _ h => h | (rintro _ _ _ ⟨h, _⟩; cases h)) (Or.inl ⟨by rfl, ?hy7⟩) ?_
      case hy7 => intro w; go_simp; with_reducible rfl
      simp only [Act.put, List.getElem_toArray, List.getElem_cons_zero, List.getElem_cons_succ, List.setIfInBounds_toArray, List.set_cons_succ, List.set_cons_zero]
      refine wpAny_ofK (C := fun w => w.cell? ⟨W1.heap.size, 0, none⟩ = some (.slice (some ⟨g, 0, none⟩) n cap)) (n := 10) _ _ _ _ ?_
      refine wpAnyK_take 1 (.slice (some ⟨g, 0, none⟩) n cap) rfl (by kernel_rfl) (fun _ _ _ h => h) m0 (And.intro (by rfl) ?hy1) ?_
      case hy1 => intro w' hw'; have hk1 : w'.cell? ⟨W1.heap.size, 0, none⟩ = some (.slice (some ⟨g, 0, none⟩) n cap) := hw'; go_simp; all_goals exact rfl
      simp only [Act.put, List.setIfInBounds_toArray, List.set_cons_succ, List.set_cons_zero]
      refine wpAnyK_take 4 (.slice (some ⟨g, 0, none⟩) n cap) rfl (by kernel_rfl) (fun _ _ _ h => h) m0 (And.intro (by rfl) ?hy4) ?_
      case hy4 => intro w' hw'; have hk1 : w'.cell? ⟨W1.heap.size, 0, none⟩ = some (.slice (some ⟨g, 0, none⟩) n cap) := hw'; go_simp; all_goals exact rfl
      simp only [Act.put, List.setIfInBounds_toArray, List.set_cons_succ, List.set_cons_zero]
      refine wpAnyK_take 5 (.int .i64 n) rfl (by kernel_rfl) (fun _ _ _ h => h) m0 (And.intro (by rfl) ?hy5) ?_
      case hy5 => intro w' hw'; clear hw'; go_simp; all_goals exact rfl
      simp only [Act.put, List.setIfInBounds_toArray, List.set_cons_succ, List.set_cons_zero]
      refine wpAnyK_two (i := 6) (k := 8) (by kernel_rfl) rfl rfl (by omega) (by omega) (fun K hK => ?_) (fun K hK => ?_)
      · go_simp
        refine (pick_any w0 br (N + 501) n _ (by omega) (by omega) (by omega) (HR2.out.grow ((Ext.refl W2).drew))).mono ?_
        rintro e W3 ⟨u, u0, u1, rfl, hR3, hK3⟩
        have hK3 : Keep (fun k => k ≠ br) W2 W3 := (((Ext.refl W2).drew).keep _).trans hK3
        obtain ⟨u, rfl⟩ : ∃ k : Nat, u = k := ⟨u.toNat, by omega⟩
        refine hK _ _ ((hK3.cell (p := ⟨W1.heap.size, 0, none⟩) hs2 hne).trans m0) ?_
        clear hK K
        refine wpAnyK_one (i := 8) (by kernel_rfl) rfl (by omega) (fun K hK => ?_)
        go_simp
        have hK3a : Keep (fun k => k ≠ br) W2 (W3.alloc (.cells #[.int .i64 (-1), .int .i64 64, .int .i64 0] 3)) := hK3.trans (((Ext.refl W3).alloc _).keep _)
        refine hK _ _ ((hK3a.cell (p := ⟨W1.heap.size, 0, none⟩) hs2 hne).trans m0) ?_
        clear hK K
        refine wpAnyK_one (i := 9) (by kernel_rfl) rfl (by omega) (fun K hK => ?_)
        go_simp
        refine (one_any w0 br (N + 502) (-1) 64 W3.heap.size 3 3 _ (by omega) (by omega) (by omega) (hR3.grow ((Ext.refl W3).alloc _)) (by simp) (by have := hK3.size; omega) (newL12 W3 3 [-1, 64, 0] (by intro x hx; simp at hx; omega)) (Nat.le_refl _)).mono ?_
        rintro e W5 ⟨z, zz0, zz1, rfl, hR5, hK5⟩
        have HK5 := hide (hK3a.trans hK5)
        have HR5 := hide hR5
        refine hK _ _ ((HK5.out.cell (p := ⟨W1.heap.size, 0, none⟩) hs2 hne).trans m0) ?_
        clear hK K hR3 hK3 hK3a hR5 hK5
        have hK5 := HK5.out
        have m05 := (hK5.cell (p := ⟨W1.heap.size, 0, none⟩) hs2 hne).trans m0
        have m15 := (hK5.cell (p := ⟨W1.heap.size, 1, none⟩) hs2 hne).trans m1
        have hs5 := hK5.size
        have hmf5 := HMF2.out.keep hK5 (fun k hk => by omega)
        obtain ⟨⟨x, fx, -, -⟩, fz⟩ := hmf5.ds.cell (i := u) (by omega)
        have hgl5 : g < W5.heap.size := by have := hmf5.bw; omega
        have HMF5 := hide hmf5
        have HRB5 := hide (HRB2.out.keep hK5 (by omega))
        have HKW5 := hide (HK2.out.trans hK5)
        clear hmf5 hK5 HK5 m0 m1
        refine wpAnyK_fin 10 [11] (by omega) (by kernel_rfl) ?_
        simp only [nths, nth1]
        go_wp2_with fail
        go_meet
        have hk := (Keep.refl (fun k => k ≠ g) W5).set (p := ⟨g, u, none⟩) (fun _ hh => hh rfl) (.int .i64 z)
        refine ⟨rfl, Nat.lt_of_lt_of_le (by omega) hk.size, (World.cell?_setCell_other _ _ _ _ (by first | (simp; done) | (simp; omega))).trans m05, (World.cell?_setCell_other _ _ _ _ (by first | (simp; done) | (simp; omega))).trans m15, cs, rfl, ⟨hn1, hn4, HMF5.out.ds.set u z ⟨by omega, by omega⟩, HMF5.out.db, HMF5.out.ca.keep hk (fun k hk => by omega) (fun k hk => by omega), HMF5.out.ab, Nat.le_trans HMF5.out.bw hk.size⟩, (HR5.out.mono (by omega)).keep hk (by omega) (fun k hk => by omega), HRB5.out.keep hk (by omega), HKW5.out.trans9 hk (fun k hk _ => by omega)⟩
      · go_simp
        have hXa : Ext W2 ((W2.alloc (.cells #[.int .i64 (-1), .int .i64 64, .int .i64 0] 3)).drew) := ((Ext.refl W2).alloc _).drew
        refine hK _ _ ((hXa.cells _ _ hs2).trans m0) ?_
        clear hK K
        refine wpAnyK_one (i := 6) (by kernel_rfl) rfl (by omega) (fun K hK => ?_)
        go_simp
        refine (pick_any w0 br (N + 501) n _ (by omega) (by omega) (by omega) (HR2.out.grow hXa)).mono ?_
        rintro e W3 ⟨u, u0, u1, rfl, hR3, hK3⟩
        have hK3a : Keep (fun k => k ≠ br) W2 W3 := (hXa.keep _).trans hK3
        obtain ⟨u, rfl⟩ : ∃ k : Nat, u = k := ⟨u.toNat, by omega⟩
        refine hK _ _ ((hK3a.cell (p := ⟨W1.heap.size, 0, none⟩) hs2 hne).trans m0) ?_
        clear hK K
        refine wpAnyK_one (i := 9) (by kernel_rfl) rfl (by omega) (fun K hK => ?_)
        go_simp
        have hlt2 : W2.heap.size < W3.heap.size := by have := hK3.size; have h2 : (W2.alloc (.cells #[.int .i64 (-1), .int .i64 64, .int .i64 0] 3)).drew.heap.size = W2.heap.size + 1 := by show (W2.alloc _).heap.size = _; simp
                                                      omega
        refine (one_any w0 br (N + 502) (-1) 64 W2.heap.size 3 3 _ (by omega) (by omega) (by omega) hR3 hlt2 (by omega) (fun j hj => ?_) (Nat.le_refl _)).mono ?_
        · obtain ⟨x, q1, q2⟩ := newL12 W2 3 [-1, 64, 0] (lo := -1) (hi := 64) (by intro x hx; simp at hx; omega) j hj
          exact ⟨x, (hK3.cell (p := ⟨W2.heap.size, j, none⟩) (by show _ < (W2.alloc _).heap.size; simp) (by show W2.heap.size ≠ br; omega)).trans q1, q2⟩
        rintro e W5 ⟨z, zz0, zz1, rfl, hR5, hK5⟩
        have HK5 := hide (hK3a.trans hK5)
        have HR5 := hide hR5
        refine hK _ _ ((HK5.out.cell (p := ⟨W1.heap.size, 0, none⟩) hs2 hne).trans m0) ?_
        clear hK K hR3 hK3 hK3a hR5 hK5
        have hK5 := HK5.out
        have m05 := (hK5.cell (p := ⟨W1.heap.size, 0, none⟩) hs2 hne).trans m0
        have m15 := (hK5.cell (p := ⟨W1.heap.size, 1, none⟩) hs2 hne).trans m1
        have hs5 := hK5.size
        have hmf5 := HMF2.out.keep hK5 (fun k hk => by omega)
        obtain ⟨⟨x, fx, -, -⟩, fz⟩ := hmf5.ds.cell (i := u) (by omega)
        have hgl5 : g < W5.heap.size := by have := hmf5.bw; omega
        have HMF5 := hide hmf5
        have HRB5 := hide (HRB2.out.keep hK5 (by omega))
        have HKW5 := hide (HK2.out.trans hK5)
        clear hmf5 hK5 HK5 m0 m1
        refine wpAnyK_fin 10 [11] (by omega) (by kernel_rfl) ?_
        simp only [nths, nth1]
        go_wp2_with fail
        go_meet
        have hk := (Keep.refl (fun k => k ≠ g) W5).set (p := ⟨g, u, none⟩) (fun _ hh => hh rfl) (.int .i64 z)
        refine ⟨rfl, Nat.lt_of_lt_of_le (by omega) hk.size, (World.cell?_setCell_other _ _ _ _ (by first | (simp; done) | (simp; omega))).trans m05, (World.cell?_setCell_other _ _ _ _ (by first | (simp; done) | (simp; omega))).trans m15, cs, rfl, ⟨hn1, hn4, HMF5.out.ds.set u z ⟨by omega, by omega⟩, HMF5.out.db, HMF5.out.ca.keep hk (fun k hk => by omega) (fun k hk => by omega), HMF5.out.ab, Nat.le_trans HMF5.out.bw hk.size⟩, (HR5.out.mono (by omega)).keep hk (by omega) (fun k hk => by omega), HRB5.out.keep hk (by omega), HKW5.out.trans9 hk (fun k hk _ => by omega)⟩
    · have hb0 : (y == 0) = false := by simp [hy0]
      by_cases hy1 : y = 1
      · subst hy1
        by_cases hc0 : cs.length = 0
        · go_wp2_with fail
          go_meet
          exact ⟨rfl, hs2, m0, m1, cs, rfl, HMF2.out, HR2.out.mono (by omega), HRB2.out, HK2.out⟩
        · have hcI : 0 < (cs.length : Int) := by omega
          rcases HMF2.out.ca with ⟨-, h0⟩ | ⟨h, cap', F, hcv, hhB, hhc, hrow, hc5⟩
          · rw [h0] at hc0; exact absurd rfl hc0
          injection hcv with hcv _ hcc
          subst hcv
          subst hcc
          have hhne : h ≠ W1.heap.size := by have := HAc.out h rfl; omega
          have hle : cs.length * 5 ≤ ec * 5 := Nat.mul_le_mul_right _ hhc
          have HROW := hide hrow
          have HC5 := hide hc5
          clear hrow hc5
          go_wp2_with fail
          refine (pick_any w0 br (N + 501) cs.length _ (by omega) (by omega) (by omega) HR2.out).mono ?_
          rintro e W3 ⟨u, u0, u1, rfl, hR3, hK3⟩
          obtain ⟨u, rfl⟩ : ∃ k : Nat, u = k := ⟨u.toNat, by omega⟩
          have hs3 := hK3.size
          have hul : u < cs.length := by omega
          have m03 := (hK3.cell (p := ⟨W1.heap.size, 0, none⟩) hs2 hne).trans m0
          have m13 := (hK3.cell (p := ⟨W1.heap.size, 1, none⟩) hs2 hne).trans m1
          have hrow3 := hK3.row (show h ≠ br by omega) HROW.out
          obtain ⟨vv, va, vr, f0, f1, f2, f3, f4, i1, i2, i3, hlen⟩ := (HC5.out u hul).keep hK3 (fun k hk => by omega)
          obtain ⟨E1, d1, hv1, -⟩ := i1.form
          obtain ⟨E2, d2, hv2, -⟩ := i2.form
          obtain ⟨E3, d3, hv3, -⟩ := i3.1.form
          subst hv1 hv2 hv3
          have k0 := (hrow3.cell (i := u * 5) (by omega)).trans f0
          have k1 := (hrow3.cell (i := u * 5 + 1) (by omega)).trans f1
          have k2 := (hrow3.cell (i := u * 5 + 2) (by omega)).trans f2
          have k3 := (hrow3.cell (i := u * 5 + 3) (by omega)).trans f3
          have k4 := (hrow3.cell (i := u * 5 + 4) (by omega)).trans f4
          have hhl := hrow3.lt
          have hhbr : h ≠ br := by omega
          have HMF3 := hide (HMF2.out.keep hK3 (fun k hk => by omega))
          have HRB3 := hide (HRB2.out.keep hK3 (by omega))
          have HR3 := hide hR3
          have HK3 := hide (HK2.out.trans hK3)
          have HCV := hide (show CV (fun k => B ≤ k) W3 (.agg #[.int .i64 (con0 cs u).kk, .slice E1 (con0 cs u).vars.length d1, .slice E2 (con0 cs u).args.length d2, .int .i64 (con0 cs u).bound, .slice E3 (con0 cs u).rows.length d3]) (con0 cs u) from ⟨_, _, _, rfl, i1, i2, i3⟩)
          clear hrow3 f0 f1 f2 f3 f4 i1 i2 i3 hlen hR3 hK3 HROW HC5
          go_upto_region 8 with fail
          refine wp_region_any (by kernel_rfl) ?_
          change wpAny _ _ _ _ _ _ _ (World.drew _)
          refine wpAny_take (i := 0) (v := ?_) rfl (by kernel_rfl) (by kernel_rfl) (by kernel_rfl) (by first | exact fun _ _ _ h => h | (rintro _ _ _ ⟨h, _⟩; cases h)) (Or.inl ⟨by rfl, ?hy0⟩) ?_
          case hy0 => intro w; go_simp; with_reducible rfl
          simp only [Act.put, List.getElem_toArray, List.getElem_cons_zero, List.setIfInBounds_toArray, List.set_cons_succ, List.set_cons_zero]
          refine wpAny_take (i := 2) (v := ?_) rfl (by kernel_rfl) (by kernel_rfl) (by kernel_rfl) (by first | exact fun _ _ _ h => h | (rintro _ _ _ ⟨h, _⟩; cases h)) (Or.inl ⟨by rfl, ?hy2⟩) ?_
          case hy2 => intro w; go_simp; with_reducible rfl
          simp only [Act.put, List.getElem_toArray, List.getElem_cons_zero, List.getElem_cons_succ, List.setIfInBounds_toArray, List.set_cons_succ, List.set_cons_zero]
          refine wpAny_take (i := 3) (v := ?_) rfl (by kernel_rfl) (by kernel_rfl) (by kernel_rfl) (by first | exact fun _ _ _ h => h | (rintro _ _ _ ⟨h, _⟩; cases h)) (Or.inl ⟨by rfl, ?hy3⟩) ?_
          case hy3 => intro w; go_simp; with_reducible rfl
          simp only [Act.put, List.getElem_toArray, List.getElem_cons_zero, List.getElem_cons_succ, List.setIfInBounds_toArray, List.set_cons_succ, List.set_cons_zero]
          refine wpAny_take (i := 4) (v := ?_) rfl (by kernel_rfl) (by kernel_rfl) (by kernel_rfl) (by first | exact fun _ _ _ h => h | (rintro _ _ _ ⟨h, _⟩; cases h)) (Or.inl ⟨by rfl, ?hy4⟩) ?_
          case hy4 => intro w; go_simp; with_reducible rfl
          simp only [Act.put, List.getElem_toArray, List.getElem_cons_zero, List.getElem_cons_succ, List.setIfInBounds_toArray, List.set_cons_succ, List.set_cons_zero]
          refine wpAny_take (i := 6) (v := ?_) rfl (by kernel_rfl) (by kernel_rfl) (by kernel_rfl) (by first | exact fun _ _ _ h => h | (rintro _ _ _ ⟨h, _⟩; cases h)) (Or.inl ⟨by rfl, ?hy6⟩) ?_
          case hy6 => intro w; go_simp; with_reducible rfl
          simp only [Act.put, List.getElem_toArray, List.getElem_cons_zero, List.getElem_cons_succ, List.setIfInBounds_toArray, List.set_cons_succ, List.set_cons_zero]
          refine wpAny_ofK (C := fun w => w.cell? ⟨W1.heap.size, 1, none⟩ = some (.slice (some ⟨h, 0, none⟩) cs.length ec) ∧ w.cell? ⟨h, u * 5, none⟩ = some (.int .i64 (con0 cs u).kk) ∧ w.cell? ⟨h, u * 5 + 1, none⟩ = some (.slice E1 (con0 cs u).vars.length d1) ∧ w.cell? ⟨h, u * 5 + 2, none⟩ = some (.slice E2 (con0 cs u).args.length d2) ∧ w.cell? ⟨h, u * 5 + 3, none⟩ = some (.int .i64 (con0 cs u).bound) ∧ w.cell? ⟨h, u * 5 + 4, none⟩ = some (.slice E3 (con0 cs u).rows.length d3)) (n := 10) _ _ _ _ ?_
          refine wpAnyK_take 1 (.slice (some ⟨h, 0, none⟩) cs.length ec) rfl (by kernel_rfl) (fun _ _ _ h => h) ⟨m13, k0, k1, k2, k3, k4⟩ (And.intro (by rfl) ?hy1) ?_
          case hy1 => intro w' hw'; obtain ⟨hk1, hk2, hk3, hk4, hk5, hk6⟩ : w'.cell? ⟨W1.heap.size, 1, none⟩ = some (.slice (some ⟨h, 0, none⟩) cs.length ec) ∧ w'.cell? ⟨h, u * 5, none⟩ = some (.int .i64 (con0 cs u).kk) ∧ w'.cell? ⟨h, u * 5 + 1, none⟩ = some (.slice E1 (con0 cs u).vars.length d1) ∧ w'.cell? ⟨h, u * 5 + 2, none⟩ = some (.slice E2 (con0 cs u).args.length d2) ∧ w'.cell? ⟨h, u * 5 + 3, none⟩ = some (.int .i64 (con0 cs u).bound) ∧ w'.cell? ⟨h, u * 5 + 4, none⟩ = some (.slice E3 (con0 cs u).rows.length d3) := hw'; go_simp; all_goals exact rfl
          simp only [Act.put, List.setIfInBounds_toArray, List.set_cons_succ, List.set_cons_zero]
          refine wpAnyK_take 5 (.slice (some ⟨h, 0, none⟩) cs.length ec) rfl (by kernel_rfl) (fun _ _ _ h => h) ⟨m13, k0, k1, k2, k3, k4⟩ (And.intro (by rfl) ?hy5) ?_
          case hy5 => intro w' hw'; obtain ⟨hk1, hk2, hk3, hk4, hk5, hk6⟩ : w'.cell? ⟨W1.heap.size, 1, none⟩ = some (.slice (some ⟨h, 0, none⟩) cs.length ec) ∧ w'.cell? ⟨h, u * 5, none⟩ = some (.int .i64 (con0 cs u).kk) ∧ w'.cell? ⟨h, u * 5 + 1, none⟩ = some (.slice E1 (con0 cs u).vars.length d1) ∧ w'.cell? ⟨h, u * 5 + 2, none⟩ = some (.slice E2 (con0 cs u).args.length d2) ∧ w'.cell? ⟨h, u * 5 + 3, none⟩ = some (.int .i64 (con0 cs u).bound) ∧ w'.cell? ⟨h, u * 5 + 4, none⟩ = some (.slice E3 (con0 cs u).rows.length d3) := hw'; go_simp; all_goals exact rfl
          simp only [Act.put, List.setIfInBounds_toArray, List.set_cons_succ, List.set_cons_zero]
          refine wpAnyK_take 7 (.pointer (some ⟨h, u * 5, none⟩)) rfl (by kernel_rfl) (fun _ _ _ h => h) ⟨m13, k0, k1, k2, k3, k4⟩ (And.intro (by rfl) ?hy7) ?_
          case hy7 => intro w' hw'; clear hw'; go_simp; all_goals exact rfl
          simp only [Act.put, List.setIfInBounds_toArray, List.set_cons_succ, List.set_cons_zero]
          refine wpAnyK_take 8 (.agg #[.int .i64 (con0 cs u).kk, .slice E1 (con0 cs u).vars.length d1, .slice E2 (con0 cs u).args.length d2, .int .i64 (con0 cs u).bound, .slice E3 (con0 cs u).rows.length d3]) rfl (by kernel_rfl) (fun _ _ _ h => h) ⟨m13, k0, k1, k2, k3, k4⟩ (And.intro (by rfl) ?hy8) ?_
          case hy8 => intro w' hw'; obtain ⟨hk1, hk2, hk3, hk4, hk5, hk6⟩ : w'.cell? ⟨W1.heap.size, 1, none⟩ = some (.slice (some ⟨h, 0, none⟩) cs.length ec) ∧ w'.cell? ⟨h, u * 5, none⟩ = some (.int .i64 (con0 cs u).kk) ∧ w'.cell? ⟨h, u * 5 + 1, none⟩ = some (.slice E1 (con0 cs u).vars.length d1) ∧ w'.cell? ⟨h, u * 5 + 2, none⟩ = some (.slice E2 (con0 cs u).args.length d2) ∧ w'.cell? ⟨h, u * 5 + 3, none⟩ = some (.int .i64 (con0 cs u).bound) ∧ w'.cell? ⟨h, u * 5 + 4, none⟩ = some (.slice E3 (con0 cs u).rows.length d3) := hw'; go_simp; all_goals exact rfl
          simp only [Act.put, List.setIfInBounds_toArray, List.set_cons_succ, List.set_cons_zero]
          refine wpAnyK_one (i := 9) (by kernel_rfl) rfl (by omega) (fun K hK => ?_)
          go_simp
          obtain ⟨wo, hwo, hcut⟩ := Keep.cut W3 (B := B) (by omega)
          refine (damage_any w0 wo br (N + 502) _ _ (con0 cs u) (by omega) (HR3.out.grow ((Ext.refl W3).drew)) ((hcut _).trans (((Ext.refl W3).drew).keep _)) (by omega) (by omega) ?_ (HL9.out u hul)).mono ?_
          · rw [hwo]
            obtain ⟨q0, q1, q2, q3, q4, q5, q6⟩ := HCV.out
            exact ⟨q0, q1, q2, q3, q4.ext ((Ext.refl W3).drew), q5.ext ((Ext.refl W3).drew), q6.ext ((Ext.refl W3).drew)⟩
          rintro e W5 ⟨v', c', rfl, hlen', hcv', hR5, hK5⟩
          rw [hwo] at hcv'
          have hK5 : Keep (fun k => k ≠ br) W3 W5 := (((Ext.refl W3).drew).keep _).trans hK5
          obtain ⟨vv, va, vr, rfl, i1, i2, i3⟩ := hcv'
          obtain ⟨G1, x1, hv1, -⟩ := i1.form
          obtain ⟨G2, x2, hv2, -⟩ := i2.form
          obtain ⟨G3, x3, hv3, -⟩ := i3.1.form
          subst hv1 hv2 hv3
          have hs23 : W1.heap.size < W3.heap.size := by omega
          have m05 := (hK5.cell (p := ⟨W1.heap.size, 0, none⟩) hs23 hne).trans m03
          have m15 := (hK5.cell (p := ⟨W1.heap.size, 1, none⟩) hs23 hne).trans m13
          have g0 := (hK5.cell (p := ⟨h, u * 5, none⟩) hhl hhbr).trans k0
          have g1 := (hK5.cell (p := ⟨h, u * 5 + 1, none⟩) hhl hhbr).trans k1
          have g2 := (hK5.cell (p := ⟨h, u * 5 + 2, none⟩) hhl hhbr).trans k2
          have g3 := (hK5.cell (p := ⟨h, u * 5 + 3, none⟩) hhl hhbr).trans k3
          have g4 := (hK5.cell (p := ⟨h, u * 5 + 4, none⟩) hhl hhbr).trans k4
          refine hK _ _ ⟨m15, g0, g1, g2, g3, g4⟩ ?_
          clear hK K
          have hs5 := hK5.size
          have hmf5 := HMF3.out.keep hK5 (fun k hk => by omega)
          have hfr : ∀ i, W5.frozen? ⟨h, i, none⟩ = false := by
            rcases hmf5.ca with ⟨h0, -⟩ | ⟨h', cap', F', hcv, -, -, hrow, -⟩
            · cases h0
            · injection hcv with hcv _ _
              injection hcv with hcv
              injection hcv with hcv _
              subst hcv
              exact fun i => hrow.frozen _
          have z0 := hfr (u * 5)
          have z1 := hfr (u * 5 + 1)
          have z2 := hfr (u * 5 + 2)
          have z3 := hfr (u * 5 + 3)
          have z4 := hfr (u * 5 + 4)
          have hhl5 : h < W5.heap.size := by omega
          have HMF5 := hide hmf5
          have HRB5 := hide (HRB3.out.keep hK5 (by omega))
          have HKW5 := hide (HK3.out.trans hK5)
          have HR5 := hide hR5
          have HNEW := hide (show CV5 100 (fun k => B ≤ k) W5 (fun j => [Value.int .i64 c'.kk, .slice G1 c'.vars.length x1, .slice G2 c'.args.length x2, .int .i64 c'.bound, .slice G3 c'.rows.length x3][j]?) c' from ⟨_, _, _, rfl, rfl, rfl, rfl, rfl, i1, i2, i3, hlen'⟩)
          clear hfr hmf5 hK5 hR5 m0 m1 m03 m13 k0 k1 k2 k3 k4 i1 i2 i3 hcut
          refine wpAnyK_fin 10 [11] (by omega) (by kernel_rfl) ?_
          simp only [nths, nth1]
          go_wp2_with fail
          go_meet
          have hk : Keep (fun k => k ≠ h) W5 (((((W5.setCell ⟨h, u * 5, none⟩ (.int .i64 c'.kk)).setCell ⟨h, u * 5 + 1, none⟩ (.slice G1 c'.vars.length x1)).setCell ⟨h, u * 5 + 2, none⟩ (.slice G2 c'.args.length x2)).setCell ⟨h, u * 5 + 3, none⟩ (.int .i64 c'.bound)).setCell ⟨h, u * 5 + 4, none⟩ (.slice G3 c'.rows.length x3)) := by
            repeat refine Keep.set ?_ (fun _ hh => hh rfl) _
            exact Keep.refl _ _
          exact ⟨rfl, Nat.lt_of_lt_of_le (by omega) hk.size, (hk.cell (p := ⟨W1.heap.size, 0, none⟩) (by show W1.heap.size < _; omega) (by show W1.heap.size ≠ h; exact fun e => hhne e.symm)).trans m05, (hk.cell (p := ⟨W1.heap.size, 1, none⟩) (by show W1.heap.size < _; omega) (by show W1.heap.size ≠ h; exact fun e => hhne e.symm)).trans m15, cs.set u c', by rw [List.length_set], ⟨hn1, hn4, HMF5.out.ds.keepb hk (fun g' hg' => by have := HMF5.out.db g' hg'; omega), HMF5.out.db, HMF5.out.ca.set hul HNEW.out, HMF5.out.ab, Nat.le_trans HMF5.out.bw hk.size⟩, (HR5.out.mono (by omega)).keep hk (by omega) (fun k hk => by omega), HRB5.out.keep hk (by omega), HKW5.out.trans9 hk (fun k hk _ => by omega)⟩
      · have hb1 : (y == 1) = false := by simp [hy1]
        go_wp2_with fail
        go_meet
        exact ⟨rfl, hs2, m0, m1, cs, rfl, HMF2.out, HR2.out.mono (by omega), HRB2.out, HK2.out⟩
  case rest =>
    clear m0 m1 HMF2 HR2 HRB2 HK2
    obtain ⟨rfl, hsx, m0, m1, cs', hcl, hmf, hrd, hrb, hk⟩ := hcut
    obtain ⟨hrb1, u0, u1, r0, r1, z0, z1⟩ := hrb.two
    have HMF := hide hmf
    have HRD := hide hrd
    have HK := hide hk
    clear hmf hrd hk hrb
    go_wp2_with fail
    refine bodyPost_ret (v := .agg #[.slice (some ⟨g, 0, none⟩) n cap, .slice Ac cs.length ec]) (by simp only [results, Try.results45]; go_simp) rfl ?_
    have hk1 : Keep (fun k => k ≠ W.heap.size) wc ((wc.setCell ⟨W.heap.size, 0, none⟩ (.slice (some ⟨g, 0, none⟩) n cap)).setCell ⟨W.heap.size, 1, none⟩ (.slice Ac cs.length ec)) :=
      ((Keep.refl (fun k => k ≠ W.heap.size) wc).set (p := ⟨W.heap.size, 0, none⟩) (fun _ hh => hh rfl) _).set (p := ⟨W.heap.size, 1, none⟩) (fun _ hh => hh rfl) _
    exact ⟨_, _, n, cs', B, rfl, (HMF.out.keep hk1 (fun k hk => by omega)).mono (by omega) (by omega) (by omega), by omega, HRD.out.keep hk1 (by omega) (fun k hk => by omega), HK.out.trans9 hk1 (fun k hk _ => by omega)⟩
end Go.Proofs.Ytgeflejmdlipmaa
