/- The product of two machines, in the program. -/
import Derived.Test.YtdiedghaoleblaaMcPr
namespace Go.Proofs.Ytdiedghaoleblaa
open Go.RowKit

set_option maxHeartbeats 2000000 in
theorem bothF_any (x y : Bool) (w : World) : Calls Try.prog 52 #[.bool x, .bool y] w (Ret (.bool (x && y)) w) := by
  cases x with
  | true =>
    go_enter Try.func52, Try.ntmps52
    go_wp2
    go_ret
    exact ⟨by simp, Ext.refl w⟩
  | false =>
    go_enter Try.func52, Try.ntmps52
    go_wp2
    go_ret
    exact ⟨by simp, Ext.refl w⟩
theorem prR_take (m m' : Mc) (p : Nat) {u : Nat} (hu : u < 6) : (prR m m' p).take u ++ [at0 (prR m m' p) u] = (prR m m' p).take (u + 1) := by
  rw [List.take_add_one, List.getElem?_eq_getElem (by rw [prR_len]; exact hu)]
  unfold at0
  rw [getD_lt _ _ (by rw [prR_len]; exact hu)]
  rfl
theorem prR_tlen (m m' : Mc) (p : Nat) {u : Nat} (hu : u ≤ 6) : ((prR m m' p).take u).length = u := by rw [List.length_take, prR_len]; omega
theorem pr_dm {n a b : Nat} (hb : b < n) : (a * n + b) / n = a ∧ (a * n + b) % n = b := by
  have hn : 0 < n := by omega
  constructor
  · rw [Nat.mul_comm, Nat.mul_add_div hn, Nat.div_eq_of_lt hb]; omega
  · rw [Nat.mul_comm, Nat.mul_add_mod, Nat.mod_eq_of_lt hb]
set_option maxRecDepth 100000 in
set_option maxHeartbeats 16000000 in
theorem with_any (vn1 vf1 vn2 vf2 : Value) (m m' : Mc) (gf : Nat) (f : Bool → Bool → Bool) (w : World) (hM1 : RdM w vn1 vf1 m) (hM2 : RdM w vn2 vf2 m') (hle : m.nx.length * m'.nx.length ≤ 100)
    (hg : ∀ args W, (callFunc gf args).run Try.prog W = .ok (.enter gf args) W) (hf : Hid (∀ x y W, Calls Try.prog gf #[.bool x, .bool y] W (Ret (.bool (f x y)) W))) :
    Calls Try.prog 43 #[.agg #[vn1, vf1], .agg #[vn2, vf2], .func (.func gf) #[] #[]] w (NewMc (prM f m m') w) := by
  obtain ⟨b1, o1, c1, g1, q1, d1, rfl, rfl, hb1, hg1, hc1, hd1, hR1, hF1, hm1⟩ := hM1
  obtain ⟨b2, o2, c2, g2, q2, d2, rfl, rfl, hb2, hg2, hc2, hd2, hR2, hF2, hm2⟩ := hM2
  have HR1 := hide hR1
  have HR2 := hide hR2
  have HF1 := hide hF1
  have HF2 := hide hF2
  have HM1 := hide hm1
  have HM2 := hide hm2
  have HG := hide hg
  obtain ⟨N, hN⟩ : ∃ N, N = m.nx.length * m'.nx.length := ⟨_, rfl⟩
  have hNb : N ≤ 100 := by omega
  have HN := hide hN
  have hp1 := hm1.pos
  have hp2 := hm2.pos
  have hl1 := hm1.le
  have hl2 := hm2.le
  clear hR1 hR2 hF1 hF2 hm1 hm2 hN hle hg
  have h0 := (((((((Apt.nil_ (Ext.refl w)).newC [.slice (some ⟨b1, o1, none⟩) m.nx.length c1, .slice (some ⟨g1, q1, none⟩) m.nx.length d1] 54 rfl).newC [.slice (some ⟨b2, o2, none⟩) m'.nx.length c2, .slice (some ⟨g2, q2, none⟩) m'.nx.length d2] 54 rfl).newC [.slice none 0 0, .slice none 0 0] 54 rfl).newC [.slice none 0 0, .slice none 0 0] 54 rfl)).nilW w.heap.size (fun _ => 0)).nilB w.heap.size
  simp only [World.size_alloc] at h0
  have H0 := hide h0
  clear h0
  go_enter Try.func43, Try.ntmps43
  go_wp2
  go_loopw [22] (fun i wr => ∃ (x : Nat) (vR vB : Value) (kb : Nat → Nat), i = .int .i64 x ∧ x ≤ m.nx.length ∧
    Apt w wr [iB w.heap.size vB ((prM f m m').fin.take (x * m'.nx.length)), iW w.heap.size vR ((prM f m m').nx.take (x * m'.nx.length)) kb, iC (w.heap.size + 1 + 1 + 1) [vR, vB], iC (w.heap.size + 1 + 1) [.slice none 0 0, .slice none 0 0], iC (w.heap.size + 1) [.slice (some ⟨b2, o2, none⟩) m'.nx.length c2, .slice (some ⟨g2, q2, none⟩) m'.nx.length d2], iC w.heap.size [.slice (some ⟨b1, o1, none⟩) m.nx.length c1, .slice (some ⟨g1, q1, none⟩) m.nx.length d1]]) (fun i _ => m.nx.length - (intOf i).toNat)
  case atStart => exact ⟨0, .slice none 0 0, .slice none 0 0, fun _ => 0, rfl, by omega, by simpa using H0.out⟩
  case round =>
    obtain ⟨x, vR, vB, kb, rfl, hx, hA⟩ := hrel
    obtain ⟨W0, rfl⟩ : ∃ W0, W0 = wr := ⟨wr, rfl⟩
    have HA := hide hA
    have m0 := (hA.cellC 4 rfl 0 rfl).1
    by_cases hlt : x < m.nx.length
    · have hxI : (x : Int) < m.nx.length := by omega
      obtain ⟨b3, o3, c3, f1, hb3, hc3, f2⟩ := HR1.out x hlt
      have f1 := (hA.ext.cells _ _ hb1).trans f1
      have HF2R := hide f2
      clear f2 hA
      go_wp2
      go_loopw [30] (fun i wr => ∃ (y : Nat) (vR vB : Value) (kb : Nat → Nat), i = .int .i64 y ∧ y ≤ m'.nx.length ∧
        Apt w wr [iB w.heap.size vB ((prM f m m').fin.take (x * m'.nx.length + y)), iW w.heap.size vR ((prM f m m').nx.take (x * m'.nx.length + y)) kb, iC (w.heap.size + 1 + 1 + 1) [vR, vB], iC (w.heap.size + 1 + 1) [.slice none 0 0, .slice none 0 0], iC (w.heap.size + 1) [.slice (some ⟨b2, o2, none⟩) m'.nx.length c2, .slice (some ⟨g2, q2, none⟩) m'.nx.length d2], iC w.heap.size [.slice (some ⟨b1, o1, none⟩) m.nx.length c1, .slice (some ⟨g1, q1, none⟩) m.nx.length d1]]) (fun i _ => m'.nx.length - (intOf i).toNat)
      case atStart => exact ⟨0, vR, vB, kb, rfl, by omega, HA.out⟩
      case round =>
        clear HA m0 f1
        obtain ⟨y, vR, vB, kb, rfl, hy, hA⟩ := hrel
        obtain ⟨W1, rfl⟩ : ∃ W1, W1 = wr := ⟨wr, rfl⟩
        have HA := hide hA
        by_cases hly : y < m'.nx.length
        · have hyI : (y : Int) < m'.nx.length := by omega
          obtain ⟨p, hp⟩ : ∃ p, p = x * m'.nx.length + y := ⟨_, rfl⟩
          have hpN0 : p < m.nx.length * m'.nx.length := by rw [hp]; exact pr_lt hlt hly
          have HPN := hide hpN0
          have hpN : p < N := by have := HN.out; omega
          obtain ⟨hdv, hmd⟩ := pr_dm (a := x) hly
          rw [← hp] at hdv hmd
          have HDV := hide hdv
          have HMD := hide hmd
          have HP := hide hp
          obtain ⟨b4, o4, c4, f3, hb4, hc4, f4⟩ := HR2.out y hly
          have f3 := (hA.ext.cells _ _ hb2).trans f3
          have HF4R := hide f4
          rw [← hp] at hA HA
          clear f4 hA hdv hmd hp hpN0
          go_wp2_with (at_make; go_must (refine wpList_mk0 _ rfl _ _ rfl 6 rfl rfl (by omega) ?_); intro v3 w3 hA3 hx3)
          have H3 := hide (((HA.out).mkI hA3 hx3).baseI (B' := w.heap.size) HA.out.ext.size)
          obtain ⟨A3, c33, hv3, -⟩ := hA3.form
          rw [List.length_nil] at hv3
          subst hv3
          clear hA3 hx3 f3
          go_wp2
          go_loopw [13, 36] (fun ro i wi => ∃ u : Nat, i = .int .i64 u ∧ u ≤ 6 ∧ Apt w wi (iI w.heap.size ro ((prR m m' p).take u) :: [iB w.heap.size vB ((prM f m m').fin.take p), iW w.heap.size vR ((prM f m m').nx.take p) kb, iC (w.heap.size + 1 + 1 + 1) [vR, vB], iC (w.heap.size + 1 + 1) [.slice none 0 0, .slice none 0 0], iC (w.heap.size + 1) [.slice (some ⟨b2, o2, none⟩) m'.nx.length c2, .slice (some ⟨g2, q2, none⟩) m'.nx.length d2], iC w.heap.size [.slice (some ⟨b1, o1, none⟩) m.nx.length c1, .slice (some ⟨g1, q1, none⟩) m.nx.length d1]])) (fun _ i _ => 6 - (intOf i).toNat)
          case atStart => exact ⟨0, rfl, by omega, H3.out⟩
          case round =>
            obtain ⟨u, rfl, hu, hA⟩ := hrel
            obtain ⟨W2, rfl⟩ : ∃ W2, W2 = wr := ⟨wr, rfl⟩
            have HA := hide hA
            have hAR : AppI w.heap.size W2 u13 ((prR m m' p).take u) := hA.p 0 _ rfl
            obtain ⟨Ar, cr, hvr, hcr⟩ := hAR.form
            rw [prR_tlen m m' p hu] at hvr
            subst hvr
            by_cases hul : u < 6
            · have huI : (u : Int) < 6 := by omega
              have huI5 : (u : Int) ≤ 5 := by omega
              have f2 := (hA.ext.cells _ _ hb3).trans (HF2R.out u hul)
              have f4 := (hA.ext.cells _ _ hb4).trans (HF4R.out u hul)
              obtain ⟨s, hs⟩ : ∃ s, s = mT m x u := ⟨_, rfl⟩
              obtain ⟨t, ht⟩ : ∃ t, t = mT m' y u := ⟨_, rfl⟩
              have hsn : s < m.nx.length := by rw [hs]; exact HM1.out.lt hlt hul
              have htn : t < m'.nx.length := by rw [ht]; exact HM2.out.lt hly hul
              obtain ⟨X, hX⟩ : ∃ X, X = s * m'.nx.length := ⟨_, rfl⟩
              have hXy : X + t < N := by have := pr_lt hsn htn; have := HN.out; omega
              have kX : (s : Int) * (m'.nx.length : Int) = (X : Int) := by rw [hX]; simp
              have HAT := hide (show (X : Int) + (t : Int) = at0 (prR m m' p) u by rw [prR_at _ _ _ hul, HDV.out, HMD.out, ← hs, ← ht, ← hX]; simp)
              rw [← hs] at f2
              rw [← ht] at f4
              have hxs := hA.ext.size
              have hb3W : b3 < W2.heap.size := by omega
              have hb4W : b4 < W2.heap.size := by omega
              clear hA hs ht hX hAR
              go_wp2
              refine wp_region_any (by kernel_rfl) ?_
              change wpAny _ _ _ _ _ _ _ (World.drew _)
              refine wpAny_take (i := 0) (v := ?_) rfl (by kernel_rfl) (by kernel_rfl) (by kernel_rfl) (by first | exact fun _ _ _ h => h | (rintro _ _ _ ⟨h, _⟩; cases h)) (Or.inl ⟨by rfl, ?hy0⟩) ?_
              case hy0 => intro w; go_simp; with_reducible rfl
              simp only [Act.put, List.getElem_toArray, List.getElem_cons_zero, List.setIfInBounds_toArray, List.set_cons_succ, List.set_cons_zero]
              refine wpAny_ix ((Ext.refl _).drew) 12 [1,2,3,4,5,6,7,8,9,10,11] [12,13,14] (by kernel_rfl) rfl ?_; simp only [nths, nth1]
              iterate 11 (apply quiet_val; (focus rfl); (focus (intro w' hw'; have hk' := hw'.cells; go_simp; all_goals exact rfl)); simp only [Act.put, List.setIfInBounds_toArray, List.set_cons_succ, List.set_cons_zero])
              refine wpQuiet_nil ?_
              intro w5 hx5
              have H5 := hide ((HA.out.grow hx5).grow ((Ext.refl w5).alloc (.cells #[.int .i64 ((X : Int) + (t : Int))] 3)))
              clear f2 f4 hx5
              go_wp2_with (at_builtin; go_must (refine wpList_appIO _ rfl _ _ rfl w.heap.size _ ((prR m m' p).take u) ((X : Int) + (t : Int)) w5.heap.size 1 rfl rfl (H5.out.p 0 _ rfl) (by go_simp) (by rw [prR_tlen m m' p hu]; omega) (by have := H5.out.ext.size; exact this) ?_); intro v8 w8 hA8 hg8 ho8; have H9 := hide (H5.out.appI 0 rfl hA8 hg8 ho8); rw [HAT.out, prR_take m m' p hul] at hA8 H9; obtain ⟨A10, c10, hv10, -⟩ := hA8.form; rw [prR_tlen m m' p (Nat.succ_le_of_lt hul)] at hv10; subst hv10; clear hA8 hg8 ho8)
              go_wp2
              go_roundw
              case rel => exact ⟨u + 1, by go_num, by omega, H9.out⟩
              case measure => simp [intOf]; omega
            · obtain rfl : u = 6 := by omega
              have HPL := hide (Nat.le_of_lt HPN.out)
              have hfull : (prR m m' p).take 6 = prR m m' p := List.take_of_length_le (by rw [prR_len]; omega)
              rw [hfull] at hAR HA hA
              have HRV := hide (RowV.of_app hAR (by rw [prR_len]; omega))
              obtain ⟨An, cn, hvn, -⟩ := (show OwnW w.heap.size W2 vR ((prM f m m').nx.take p) kb from hA.p 2 _ rfl).form
              rw [prM_rtake f m m' HPL.out] at hvn
              subst hvn
              obtain ⟨Ab, cb, hvb, -⟩ := (show AppB w.heap.size W2 vB ((prM f m m').fin.take p) from hA.p 1 _ rfl).form
              rw [prM_ftake f m m' HPL.out] at hvb
              subst hvb
              have hne : ∀ i, i < ((prM f m m').nx.take p).length → (Value.slice Ar 6 cr).ownBlock ≠ some (kb i) := fun i hi e => hA.ap 0 2 _ _ rfl rfl (by omega) (kb i) e (.inr ⟨i, hi, rfl⟩)
              have HNE := hide hne
              have n0 := (hA.cellC 3 rfl 0 rfl).1
              have H7 := hide (HA.out.grow ((Ext.refl _).alloc (.cells #[.slice Ar 6 cr] 24)))
              clear hA hne hAR hfull
              go_wp2_with (at_builtin; go_must (refine wpList_appW _ rfl _ _ rfl w.heap.size _ ((prM f m m').nx.take p) kb (prR m m' p) (.slice Ar 6 cr) _ 1 rfl rfl (H7.out.p 2 _ rfl) (by go_simp) (HRV.out.ext ((Ext.refl _).alloc _)) (by rw [prM_rtake f m m' HPL.out]; omega) (by have := H7.out.ext.size; exact this) HNE.out ?_); intro v' w7 kb' hA7 h17 h27 hg7 ho7; have H8 := hide (H7.out.addW (rv := .slice Ar 6 cr) (fun k => Iff.rfl) 1 rfl hA7 h17 h27 hg7 ho7); rw [prM_rows_succ f HPN.out] at hA7 H8; have p0 := (H8.out.cellC 2 rfl 0 rfl).1; have y0 := (H8.out.cellC 2 rfl 0 rfl).2; obtain ⟨A8, c8, hv8, -⟩ := hA7.form; rw [prM_rtake f m m' HPN.out] at hv8; subst hv8; clear hA7 h17 h27 hg7 ho7)
              have H9 := hide (H8.out.set 2 (w.heap.size + 1 + 1 + 1) _ rfl 0 (.slice A8 (p + 1) c8) (by simp))
              generalize hW8 : w7.setCell ⟨w.heap.size + 1 + 1 + 1, 0, none⟩ (.slice A8 (p + 1) c8) = W8 at *
              clear hW8 p0 y0 n0
              have n1 := (H9.out.cellC 2 rfl 1 rfl).1
              have hmW : w.heap.size + 1 + 1 + 1 < W8.heap.size := (H9.out.d 2 _ rfl (w.heap.size + 1 + 1 + 1) rfl).2
              have n2 := (H9.out.cellC 5 rfl 1 rfl).1
              have n3 := (H9.out.cellC 4 rfl 1 rfl).1
              have ha1 : w.heap.size < W8.heap.size := (H9.out.d 5 _ rfl w.heap.size rfl).2
              have ha2 : w.heap.size + 1 < W8.heap.size := (H9.out.d 4 _ rfl (w.heap.size + 1) rfl).2
              have f1 := (H9.out.ext.cells _ _ hg1).trans (HF1.out x hlt)
              have f3 := (H9.out.ext.cells _ _ hg2).trans (HF2.out y hly)
              have hxs := H9.out.ext.size
              have hg1W : g1 < W8.heap.size := by omega
              have hg2W : g2 < W8.heap.size := by omega
              obtain ⟨bv, hbv⟩ : ∃ bv, bv = mF m' y := ⟨_, rfl⟩
              rw [← hbv] at f3
              obtain ⟨bf, hbf⟩ : ∃ bf, bf = mF m x := ⟨_, rfl⟩
              rw [← hbf] at f1
              have HDE := hide (show f bf bv = f (mF m (p / m'.nx.length)) (mF m' (p % m'.nx.length)) by rw [HDV.out, HMD.out, ← hbf, ← hbv])
              clear hbf hbv
              go_wp2
              refine wp_region_any (by kernel_rfl) ?_
              change wpAny _ _ _ _ _ _ _ (World.drew _)
              refine wpAny_take (i := 0) (v := ?_) rfl (by kernel_rfl) (by kernel_rfl) (by kernel_rfl) (by first | exact fun _ _ _ h => h | (rintro _ _ _ ⟨h, _⟩; cases h)) (Or.inl ⟨by rfl, ?hy0⟩) ?_
              case hy0 => intro w; go_simp; with_reducible rfl
              simp only [Act.put, List.getElem_toArray, List.getElem_cons_zero, List.setIfInBounds_toArray, List.set_cons_succ, List.set_cons_zero]
              refine wpAny_ixF ((Ext.refl _).drew) 14 1 [2,3,4,5,6,7,8,9,10,11,12,13] [15,16,17] (.slice Ab p cb) rfl rfl (by kernel_rfl) rfl (And.intro (by rfl) ?hys) ?_
              case hys => intro w' hw'; have hk' := hw'.cells; go_simp; all_goals exact rfl
              simp only [nths, nth1, Act.put, List.setIfInBounds_toArray, List.set_cons_succ, List.set_cons_zero]
              iterate 11 (apply quiet_val; (focus rfl); (focus (intro w' hw'; have hk' := hw'.cells; go_simp; all_goals exact rfl)); simp only [Act.put, List.setIfInBounds_toArray, List.set_cons_succ, List.set_cons_zero])
              apply quiet_call; (focus rfl); (focus (intro w' hw'; go_simp; exact HG.out _ _))
              · exact fun w' hw' => (hf.out bf bv w').mono fun _ _ h => ⟨h.1, hw'.trans h.2⟩
              (simp only [Act.put, List.setIfInBounds_toArray, List.set_cons_succ, List.set_cons_zero])
              refine wpQuiet_nil ?_
              intro w9 hx9
              refine ⟨_, _, by go_simp; first | exact rfl | exact ⟨rfl, rfl⟩, (hx9.alloc _), ?_⟩; simp only [List.setIfInBounds_toArray, List.set_cons_succ, List.set_cons_zero]
              have H10 := hide (H9.out.grow (hx9.alloc (.cells #[.bool (f bf bv)] 4)))
              clear n1 n2 n3 hmW ha1 ha2 hx9 f1 f3 hxs hg1W hg2W
              go_wp2_with (at_builtin; go_must (refine wpList_appBO _ rfl _ _ rfl w.heap.size _ ((prM f m m').fin.take p) (f bf bv) _ 1 rfl rfl (H10.out.p 0 _ rfl) (by go_simp) (by rw [prM_ftake f m m' HPL.out]; omega) (by have := H10.out.ext.size; exact this) ?_); intro v' w7 hA7 hg7 ho7; have H11 := hide (H10.out.appB 0 rfl hA7 hg7 ho7); rw [HDE.out, prM_fins_succ f HPN.out] at hA7 H11; have p1 := (H11.out.cellC 2 rfl 1 rfl).1; have y1 := (H11.out.cellC 2 rfl 1 rfl).2; obtain ⟨A9, c9, hv9, -⟩ := hA7.form; rw [prM_ftake f m m' HPN.out] at hv9; subst hv9; clear hA7 hg7 ho7)
              go_wp2
              go_roundw
              case rel => exact ⟨y + 1, .slice A8 (p + 1) c8, .slice A9 (p + 1) c9, kb', by go_num, by omega, by
                have := H11.out.set 2 (w.heap.size + 1 + 1 + 1) _ rfl 1 (.slice A9 (p + 1) c9) (by simp)
                rw [show x * m'.nx.length + (y + 1) = p + 1 by rw [HP.out]; omega]
                exact this⟩
              case measure => simp [intOf]; omega
        · obtain rfl : y = m'.nx.length := by omega
          have hyI : ¬ ((m'.nx.length : Int) < m'.nx.length) := by omega
          clear hA
          go_wp2
          go_roundw
          case rel => exact ⟨x + 1, vR, vB, kb, by go_num, by omega, by rw [show (x + 1) * m'.nx.length = x * m'.nx.length + m'.nx.length from Nat.succ_mul _ _]; exact HA.out⟩
          case measure => simp [intOf]; omega
    · obtain rfl : x = m.nx.length := by omega
      have hkI : ¬ (m.nx.length : Int) < m.nx.length := by omega
      have hm := prM_ok f HM1.out HM2.out (by have := HN.out; omega)
      have hRW := (show OwnW w.heap.size W0 vR ((prM f m m').nx.take (m.nx.length * m'.nx.length)) kb from hA.p 1 _ rfl)
      have hFB := (show AppB w.heap.size W0 vB ((prM f m m').fin.take (m.nx.length * m'.nx.length)) from hA.p 0 _ rfl)
      rw [List.take_of_length_le (by rw [prM_len]; exact Nat.le_refl _)] at hRW
      rw [List.take_of_length_le (by rw [prM_flen]; exact Nat.le_refl _)] at hFB
      have hRM := RdM.grown hm hRW hFB
      have HRM := hide hRM
      obtain ⟨An, cn, rfl, -⟩ := hRW.form
      obtain ⟨Ab, cb, rfl, -⟩ := hFB.form
      have n0 := (hA.cellC 2 rfl 0 rfl).1
      have n1 := (hA.cellC 2 rfl 1 rfl).1
      obtain ⟨r0, y0⟩ := hA.cellC 3 rfl 0 rfl
      obtain ⟨r1, y1⟩ := hA.cellC 3 rfl 1 rfl
      have hrs : w.heap.size + 1 + 1 < W0.heap.size := (hA.d 3 _ rfl (w.heap.size + 1 + 1) rfl).2
      have HX := hide hA.ext
      clear hA hRW hFB hRM hm m0
      obtain ⟨lr, hlr⟩ : ∃ lr, lr = (prM f m m').nx.length := ⟨_, rfl⟩
      obtain ⟨lf, hlf⟩ : ∃ lf, lf = (prM f m m').fin.length := ⟨_, rfl⟩
      rw [← hlr] at n0 HRM
      rw [← hlf] at n1 HRM
      have HAP := hide HA.out
      rw [← hlr, ← hlf] at HAP
      have HLR := hide hlr
      have HLF := hide hlf
      clear hlr hlf
      go_wp2
      refine bodyPost_ret (v := .agg #[.slice An lr cn, .slice Ab lf cb]) ?res rfl ?_
      case res =>
        unfold results
        simp only [Try.f43]
        go_simp
      have h9 := ((HAP.out.set 3 (w.heap.size + 1 + 1) _ rfl 0 (.slice An lr cn) (by simp)).set 3 (w.heap.size + 1 + 1) _ rfl 1 (.slice Ab lf cb) (by simp))
      have e1 : (prM f m m').nx.take (m.nx.length * m'.nx.length) = (prM f m m').nx := List.take_of_length_le (by rw [prM_len]; exact Nat.le_refl _)
      have e2 : (prM f m m').fin.take (m.nx.length * m'.nx.length) = (prM f m m').fin := List.take_of_length_le (by rw [prM_flen]; exact Nat.le_refl _)
      rw [e1, e2] at h9
      refine ⟨_, _, rfl, ?_, h9.ext⟩
      have q := RdM.grown (prM_ok f HM1.out HM2.out (by have := HN.out; omega)) (show OwnW w.heap.size _ (.slice An lr cn) (prM f m m').nx kb from h9.p 1 _ rfl) (show AppB w.heap.size _ (.slice Ab lf cb) (prM f m m').fin from h9.p 0 _ rfl)
      exact q
end Go.Proofs.Ytdiedghaoleblaa
