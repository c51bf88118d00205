/- The minimal form in the reference. -/
import Derived.Test.YtdiedghaoleblaaMcD
import Derived.Test.YtdiedghaoleblaaAptW
namespace Go.Proofs.Ytdiedghaoleblaa
open Go.RowKit

theorem Apt.newC {w0 W : World} {l : List Itm} (h : Apt w0 W l) (vs : List Value) (t : TypeId) {o : Obj} (ho : o = .cells vs.toArray t) : Apt w0 (W.alloc o) (iC W.heap.size vs :: l) := by
  subst ho
  have hr := World.rowIs_alloc W vs.toArray t (fun j => vs.getD j undef) (fun j hj => by
    have hj' : j < vs.length := by simpa using hj
    simp [hj'])
  refine h.push _ ((Ext.refl W).alloc _) (fun i u hi => ?_) (fun k hk => by have : k = W.heap.size := hk; subst this; simp) (iC_st _ _)
  have hil : i < vs.length := (List.getElem?_eq_some_iff.1 hi).1
  refine ⟨?_, hr.frozen i, hr.lt⟩
  rw [hr.cell (i := i) (by simpa using hil), List.getD_eq_getElem?_getD, hi]
  rfl
theorem Apt.swap {w0 W : World} {a b : Itm} {l : List Itm} (h : Apt w0 W (a :: b :: l)) : Apt w0 W (b :: a :: l) := by
  have hg : ∀ i (c : Itm), (b :: a :: l)[i]? = some c → ∃ j, (a :: b :: l)[j]? = some c ∧ (i = 0 ∧ j = 1 ∨ i = 1 ∧ j = 0 ∨ 2 ≤ i ∧ j = i) := fun i c hc => by
    match i, hc with
    | 0, hc => exact ⟨1, hc, .inl ⟨rfl, rfl⟩⟩
    | 1, hc => exact ⟨0, hc, .inr (.inl ⟨rfl, rfl⟩)⟩
    | i + 2, hc => exact ⟨i + 2, hc, .inr (.inr ⟨by omega, rfl⟩)⟩
  refine ⟨fun i c hc => ?_, fun i c hc => ?_, fun i c hc => ?_, fun i j c d hc hd hij => ?_, h.ext⟩
  · obtain ⟨j, hj, -⟩ := hg i c hc; exact h.p j c hj
  · obtain ⟨j, hj, -⟩ := hg i c hc; exact h.d j c hj
  · obtain ⟨j, hj, -⟩ := hg i c hc; exact h.s j c hj
  · obtain ⟨i', hi', ei⟩ := hg i c hc
    obtain ⟨j', hj', ej⟩ := hg j d hd
    exact h.ap i' j' c d hi' hj' (by omega)
theorem Apt.nilI {w0 W : World} {l : List Itm} (h : Apt w0 W l) (B : Nat) : Apt w0 W (iI B (.slice none 0 0) [] :: l) :=
  h.push _ (Ext.refl W) (AppI.nil_ B W) (fun k hk => by cases hk) (iI_st _ _ _)
theorem Apt.nilW {w0 W : World} {l : List Itm} (h : Apt w0 W l) (B : Nat) (kb : Nat → Nat) : Apt w0 W (iW B (.slice none 0 0) [] kb :: l) :=
  h.push _ (Ext.refl W) (OwnW.nil_ B W kb) (fun k hk => by rcases hk with hk | ⟨i, hi, -⟩; cases hk; exact absurd hi (by simp)) (iW_st _ _ _ _)
theorem Apt.baseI {w0 W : World} {l : List Itm} {B B' : Nat} {v : Value} {xs : List Int} (h : Apt w0 W (iI B v xs :: l)) (hb : B' ≤ B) : Apt w0 W (iI B' v xs :: l) :=
  h.upd 0 (iI B v xs) (iI B' v xs) rfl (Keep.refl _ W) (AppI.base (h.p 0 _ rfl) hb) (fun k hk => ⟨.inl hk, (h.d 0 _ rfl k hk).2⟩) (iI_st _ _ _)
/-- An automaton of its own came. -/
def NewAu (rows : List (List Int)) (fins : List Int) (w : World) (e : Ending) (w' : World) : Prop :=
  ∃ vn vf kb, e = .returned (.agg #[vn, vf]) ∧ Apt w w' [iW w.heap.size vn rows kb, iI w.heap.size vf fins]
/-- The search's state in memory. -/
def MinSt (w : World) (rest : List Itm) (bo : Nat) (vo vn vf : Value) (kb : Nat → Nat) (S : MSt) (W : World) : Prop :=
  Apt w W (iI w.heap.size vf S.fins :: iW w.heap.size vn S.rows kb :: iI w.heap.size vo S.met :: iC bo [vn, vf] :: rest)
/-- The first u numbers of the row in the making. -/
def pR (m : Mc) (L : Nat → Bool) (C : Nat → Nat) (met : List Int) (s u j : Nat) : Value := if j < u then .int .i64 (pRow m L C met s j) else .int .i64 0
def pR1 (m : Mc) (L : Nat → Bool) (C : Nat → Nat) (met : List Int) (s u : Nat) (y : Int) (j : Nat) : Value := if j = u then .int .i64 y else pR m L C met s u j
theorem pR1_done {m : Mc} {L : Nat → Bool} {C : Nat → Nat} {met : List Int} {s u : Nat} {y : Int} (h : y = pRow m L C met s u) (j : Nat) : pR1 m L C met s u y j = pR m L C met s (u + 1) j := by
  subst h
  unfold pR1 pR
  by_cases e : j = u
  · subst e; rw [if_pos rfl, if_pos (by omega)]
  · rw [if_neg e]
    by_cases e2 : j < u
    · rw [if_pos e2, if_pos (by omega)]
    · rw [if_neg e2, if_neg (by omega)]
theorem pR_row {m : Mc} {L : Nat → Bool} {C : Nat → Nat} {met : List Int} {s B b : Nat} {W : World} (h : W.rowIs b 3 6 (pR m L C met s 6)) (hb : B ≤ b) : RowV B W (.slice (some ⟨b, 0, none⟩) 6 6) (pRowL m L C met s) := by
  refine ⟨b, 6, _, by rw [pRowL_len], hb, by rw [pRowL_len]; omega, h, fun i hi => ?_⟩
  rw [pRowL_len] at hi
  rw [pRowL_at m L C met s hi, pR, if_pos hi]
  rfl
theorem pMet_at {m : Mc} {L : Nat → Bool} {C : Nat → Nat} {met : List Int} {s k : Nat} (hk : k < met.length) (u : Nat) : at0 (pMet m L C met s u) k = at0 met k ∧ k < (pMet m L C met s u).length := by
  obtain ⟨ys, e⟩ := pMet_pre m L C met s u
  rw [e]
  refine ⟨?_, by simp; omega⟩
  simp [at0, List.getElem?_append_left hk]
theorem MetOk.i64 {n : Nat} {xs : List Int} (h : MetOk n xs) (hn : n ≤ 100) : ∀ i, i < xs.length → I64 (at0 xs i) := fun i hi => by have := h.at_ hi; unfold I64; omega
theorem MetOk.sints {n B : Nat} {xs : List Int} {w : World} {v : Value} (h : MetOk n xs) (hn : n ≤ 100) (hA : AppI B w v xs) : SInts w v xs := hA.sints (by have := h.len; omega) (h.i64 hn)
theorem pMet_yes {m : Mc} {L : Nat → Bool} {C : Nat → Nat} {met : List Int} {s u : Nat} (hL : L (mT m s u) = true) (hc : decide ((C (mT m s u) : Int) ∈ pMet m L C met s u) = true) : pMet m L C met s (u + 1) = pMet m L C met s u := by
  rw [pMet]; simp only [hL, contains_dec, hc]; rfl
theorem pMet_new {m : Mc} {L : Nat → Bool} {C : Nat → Nat} {met : List Int} {s u : Nat} (hL : L (mT m s u) = true) (hc : decide ((C (mT m s u) : Int) ∈ pMet m L C met s u) = false) : pMet m L C met s (u + 1) = pMet m L C met s u ++ [(C (mT m s u) : Int)] := by
  rw [pMet]; simp only [hL, contains_dec, hc]; rfl
theorem pMet_no {m : Mc} {L : Nat → Bool} {C : Nat → Nat} {met : List Int} {s u : Nat} (hL : L (mT m s u) = false) : pMet m L C met s (u + 1) = pMet m L C met s u := by
  rw [pMet]; simp only [hL]; rfl
theorem mSt_next {m : Mc} {L : Nat → Bool} {C : Nat → Nat} {k s : Nat} (hk : k < (mSt m L C k).met.length) (hs : at0 (mSt m L C k).met k = s) :
    mSt m L C (k + 1) = ⟨pMet m L C (mSt m L C k).met s 6, (mSt m L C k).rows ++ [pRowL m L C (mSt m L C k).met s], if mF m s then (mSt m L C k).fins ++ [(k : Int)] else (mSt m L C k).fins⟩ := by
  rw [mSt]
  simp only
  rw [if_pos hk, hs]
  simp
/-- A class met is the number of its own class. -/
theorem mSt_own {m : Mc} (L : Nat → Bool) : ∀ k, ∀ x ∈ (mSt m L (clF m) k).met, (clF m x.toNat : Int) = x
  | 0, x, hx => by
    simp [mSt] at hx
    subst hx
    simp [clF_idem]
  | k + 1, x, hx => by
    rw [mSt] at hx
    simp only at hx
    split at hx
    · have key : ∀ v, ∀ y ∈ pMet m L (clF m) (mSt m L (clF m) k).met (at0 (mSt m L (clF m) k).met k).toNat v, (clF m y.toNat : Int) = y := by
        intro v
        induction v with
        | zero => exact mSt_own L k
        | succ v ih =>
          intro y hy
          rw [pMet] at hy
          split at hy
          · rcases List.mem_append.1 hy with hy | hy
            · exact ih y hy
            · rw [List.mem_singleton] at hy; subst hy; simp [clF_idem]
          · exact ih y hy
      exact key 6 x hx
    · exact mSt_own L k x hx
set_option maxRecDepth 100000 in
set_option maxHeartbeats 16000000 in
theorem minimalS_any (vn0 vf0 : Value) (m : Mc) (w : World) (hM : RdM w vn0 vf0 m) :
    Calls Try.prog 40 #[.agg #[vn0, vf0]] w fun e w' => ∃ L : Nat → Bool, (∀ x, x < m.nx.length → (L x = true ↔ Live m x)) ∧ NewAu (mEnd m L (clF m)).rows (mEnd m L (clF m)).fins w e w' := by
  have HM := hide hM
  obtain ⟨b, off, c, b2, off2, c2, rfl, rfl, hb, hb2, hc, hc2, hR, hF, hm⟩ := hM
  have HR := hide hR
  have HF := hide hF
  have HMM := hide hm
  have hn := hm.le
  have hpos := hm.pos
  clear hm hR hF
  have h0 := ((Apt.nil_ (Ext.refl w)).newC [.slice (some ⟨b, off, none⟩) m.nx.length c, .slice (some ⟨b2, off2, none⟩) m.nx.length c2] 59 rfl).newC [.slice none 0 0, .slice none 0 0] 26 rfl
  simp only [World.size_alloc] at h0
  have H0 := hide h0
  clear h0
  go_enter Try.func40, Try.ntmps40
  go_wp2_with fail
  refine (classesS_any _ _ m _ (HM.out.ext H0.out.ext)).mono ?_
  rintro e w1 ⟨bc, hbc, rfl, hrc, hx1⟩
  have H1 := hide (H0.out.mkR hrc hbc hx1)
  have m0 := (H1.out.cellC 2 rfl 0 rfl).1
  have m1 := (H1.out.cellC 2 rfl 1 rfl).1
  have HRC := hide (NewC.rd hrc)
  clear hrc hx1 hbc
  go_wp2_with fail
  refine (deadClass_any _ _ _ m _ (HM.out.ext H1.out.ext) HRC.out).mono ?_
  rintro e w2 ⟨d, hd, hd0, hd1, rfl, hx2⟩
  have H2 := hide (H1.out.grow hx2)
  have HD := hide hd
  clear m0 m1 hx2 hd HRC
  have c0 : w2.cell? ⟨bc, 0, none⟩ = some (.int .i64 (clF m 0)) := by
    have := (show w2.rowIs bc 3 m.nx.length _ from H2.out.p 0 _ rfl).cell (i := 0) (by omega)
    rw [this]; unfold cRow; rw [if_pos (by omega)]
  have hLx : ∃ L : Nat → Bool, ∀ x, L x = ((clF m x : Int) != d) := ⟨_, fun _ => rfl⟩
  obtain ⟨L, hL⟩ := hLx
  have HL := hide hL
  have HLL := hide (show ∀ x, x < m.nx.length → (L x = true ↔ Live m x) from fun x hx => by rw [HL.out x, bne_iff_ne]; exact HD.out x hx)
  clear hL
  have hpn : 0 < m.nx.length := by omega
  have hpnI : (0 : Int) < m.nx.length := by omega
  have H3 := (H2.out.mkI (AppI.lit1 w2 (clF m 0 : Int) rfl) ((Ext.refl w2).alloc _)).newC [.slice none 0 0, .slice none 0 0] 26 rfl
  simp only [World.size_alloc] at H3
  have H3 := hide H3
  go_wp2
  go_loopw [5, 7] (fun o i wr => ∃ (k : Nat) (vn vf : Value) (kb : Nat → Nat), i = .int .i64 k ∧ k ≤ (mSt m L (clF m) k).met.length ∧ (mSt m L (clF m) k).rows.length = k ∧
    MinSt w [iR bc 3 m.nx.length (cRow (clF m) m.nx.length), iC (w.heap.size + 1) [.slice none 0 0, .slice none 0 0], iC w.heap.size [.slice (some ⟨b, off, none⟩) m.nx.length c, .slice (some ⟨b2, off2, none⟩) m.nx.length c2]] (w2.heap.size + 1) o vn vf kb (mSt m L (clF m) k) wr) (fun _ i _ => 101 - (intOf i).toNat)
  case atStart =>
    refine ⟨0, .slice none 0 0, .slice none 0 0, fun _ => 0, rfl, by simp [mSt], rfl, ?_⟩
    have := ((H3.out.swap.baseI (B' := w.heap.size) H2.out.ext.size).nilW w.heap.size (fun _ => 0)).nilI w.heap.size
    exact this
  case round =>
    obtain ⟨k, vn, vf, kb, rfl, hk, hrl, hS⟩ := hrel
    obtain ⟨W0, rfl⟩ : ∃ W0, W0 = wr := ⟨wr, rfl⟩
    have HRL := hide hrl
    clear hrl
    have HS := hide hS
    have hmet := mSt_ok HMM.out L (fun x => clF_le m x) k
    have HMET := hide hmet
    have hlen := hmet.len
    have hAO : AppI w.heap.size W0 u5 (mSt m L (clF m) k).met := hS.p 2 _ rfl
    have hI := hmet.sints hn hAO
    have HI := hide hI
    obtain ⟨Ao, co, rfl, hco⟩ := hAO.form
    clear hS hAO
    by_cases hlt : k < (mSt m L (clF m) k).met.length
    · have hkI : (k : Int) < (mSt m L (clF m) k).met.length := by omega
      obtain ⟨s, hs⟩ : ∃ s : Nat, at0 (mSt m L (clF m) k).met k = s := ⟨(at0 (mSt m L (clF m) k).met k).toNat, by have := hmet.at_ hlt; omega⟩
      have hsn : s < m.nx.length := by have := hmet.at_ hlt; omega
      have hown : clF m s = s := by
        have := mSt_own L k _ (at0_mem hlt)
        rw [hs] at this
        simp at this; omega
      have HSS := hide hs
      have HOWN := hide hown
      have HNX := hide (mSt_next hlt hs)
      obtain ⟨met, hmete⟩ : ∃ met, met = (mSt m L (clF m) k).met := ⟨_, rfl⟩
      rw [← hmete] at HSS HMET HI HNX hlt hlen hkI
      have HME := hide hmete
      have hkm := hk
      rw [← hmete] at hkm ⊢
      clear hs hown hmet hmete hI
      go_wp2_with (at_make; go_must (refine wpList_make_gen _ rfl _ _ 24 rfl 3 (.int .i64 0) 1 8 Try.underlying24 Try.infoI .i64 .i64 6 rfl rfl (by omega) (by omega) (fun _ => .int .i64 0) (fun i _ => by simp [Value.cells, Nat.mod_one]) ?_); intro w3 hrow hsz hx)
      have H3 := (show Apt w W0 _ from HS.out).mkR hrow (Nat.le_refl _) hx
      have hbr : w.heap.size ≤ W0.heap.size := HS.out.ext.size
      obtain ⟨br, hbre⟩ : ∃ br, br = W0.heap.size := ⟨_, rfl⟩
      rw [← hbre] at H3 hbr ⊢
      have HB := hide (show W0.heap.size ≤ br by omega)
      clear hrow hsz hx hbre
      have H3 := hide (H3.congrR 0 rfl (g := pR m L (clF m) met s 0) (fun j _ => by unfold pR; rw [if_neg (by omega)]))
      go_wp2
      go_loopw [5, 9] (fun o i wi => ∃ u : Nat, i = .int .i64 u ∧ u ≤ 6 ∧ Apt w wi (iR br 3 6 (pR m L (clF m) met s u) :: iI w.heap.size vf (mSt m L (clF m) k).fins :: iW w.heap.size vn (mSt m L (clF m) k).rows kb :: iI w.heap.size o (pMet m L (clF m) met s u) :: iC (w2.heap.size + 1) [vn, vf] :: [iR bc 3 m.nx.length (cRow (clF m) m.nx.length), iC (w.heap.size + 1) [.slice none 0 0, .slice none 0 0], iC w.heap.size [.slice (some ⟨b, off, none⟩) m.nx.length c, .slice (some ⟨b2, off2, none⟩) m.nx.length c2]])) (fun _ i _ => 6 - (intOf i).toNat)
      case atStart =>
        refine ⟨0, rfl, by omega, ?_⟩
        have := H3.out
        rw [← HME.out] at this
        exact this
      case round =>
        obtain ⟨u, rfl, hu, hA⟩ := hrel
        obtain ⟨W1, rfl⟩ : ∃ W1, W1 = wr := ⟨wr, rfl⟩
        have HA := hide hA
        have hmu := pMet_ok HMM.out L (fun x => clF_le m x) HMET.out hsn u hu
        have HMU := hide hmu
        have hlu := hmu.len
        have hAO : AppI w.heap.size W1 u5 (pMet m L (clF m) met s u) := hA.p 3 _ rfl
        have hI := hmu.sints hn hAO
        have HI := hide hI
        obtain ⟨Ao, co, rfl, hco⟩ := hAO.form
        obtain ⟨hpa, hpk⟩ := pMet_at (m := m) (L := L) (C := clF m) (s := s) hlt u
        rw [HSS.out] at hpa
        by_cases hul : u < 6
        · have huI : (u : Int) ≤ 5 := by omega
          have huI6 : (u : Int) < 6 := by omega
          have hpkI : (k : Int) < (pMet m L (clF m) met s u).length := by omega
          obtain ⟨ba, oa, rfl, hba, g1⟩ := hI.at_ hpk
          rw [hpa] at g1
          have hx := hA.ext
          obtain ⟨bs, os, cs, fs, hbs, -, hrs⟩ := HR.out s hsn
          have fs := (hx.cells _ _ hb).trans fs
          have f3 := (hx.cells _ _ hbs).trans (hrs u hul)
          have hbW := Nat.lt_of_lt_of_le hb hx.size
          have hbsW := Nat.lt_of_lt_of_le hbs hx.size
          have hxn := HMM.out.lt hsn hul
          have hxnI : (mT m s u : Int) < m.nx.length := by omega
          have q1 : W1.cell? ⟨bc, mT m s u, none⟩ = some (.int .i64 (clF m (mT m s u))) := by
            have := (show W1.rowIs bc 3 m.nx.length _ from hA.p 5 _ rfl).cell (i := mT m s u) hxn
            rw [this]; unfold cRow; rw [if_pos hxn]
          have hbcW : bc < W1.heap.size := (hA.d 5 _ rfl bc rfl).2
          have m0 := (hA.cellC 7 rfl 0 rfl).1
          have hmW : w.heap.size < W1.heap.size := (hA.d 7 _ rfl w.heap.size rfl).2
          have hne : ba ≠ br := fun e => hA.ap 3 0 _ _ rfl rfl (by omega) br (by rw [← e]; rfl) rfl
          have HPA := hide hpa
          clear hA hmu hAO hI hx hrs hpa
          go_wp2
          refine wp_region_ext (by kernel_rfl) (by kernel_rfl) ?_
          iterate 15 (apply quiet_val; (focus rfl); (focus (intro w' hw'; have hk' := hw'.cells; go_simp; all_goals exact rfl)); simp only [Act.put, List.setIfInBounds_toArray, List.set_cons_succ, List.set_cons_zero])
          refine wpQuiet_nil ?_
          intro w5 hx5
          have HA5 := hide (HA.out.grow hx5)
          have c0 := (show w5.rowIs br 3 6 _ from HA5.out.p 0 _ rfl).cell (i := u) hul
          have z0 := (show w5.rowIs br 3 6 _ from HA5.out.p 0 _ rfl).frozen u
          have g1 := (hx5.cells _ _ hba).trans g1
          have hba := Nat.lt_of_lt_of_le hba hx5.size
          clear fs f3 hbW hbsW q1 hbcW m0 hmW hx5
          have H6 := hide (HA5.out.setR 0 rfl u (.int .i64 (-1)))
          have HI6 := hide (HMU.out.sints hn (show AppI w.heap.size _ _ _ from H6.out.p 3 _ rfl))
          cases hq : L (mT m s u) with
          | false =>
            have hqd : ((clF m (mT m s u) : Int) != d) = false := by rw [← HL.out]; exact hq
            have HN := hide (pMet_no (C := clF m) (met := met) hq)
            have HPR := hide (show pRow m L (clF m) met s u = -1 by unfold pRow; rw [hq]; rfl)
            clear hq
            go_wp2
            go_roundw
            case rel =>
              refine ⟨u + 1, by go_num, by omega, ?_⟩
              rw [HN.out]
              refine (H6.out.congrR 0 rfl (g := pR m L (clF m) met s (u + 1)) (fun j _ => ?_))
              rw [← pR1_done HPR.out.symm]
              rfl
            case measure => simp [intOf]; omega
          | true =>
            have hqd : ((clF m (mT m s u) : Int) != d) = true := by rw [← HL.out]; exact hq
            have hsd : ((s : Int) != d) = true := by
              have h1 := (HLL.out _ hxn).1 hq
              have h2 := (HD.out s hsn).2 (Live.step hul h1)
              rw [HOWN.out] at h2
              rw [bne_iff_ne]; exact h2
            have HQ := hide hq
            clear hq
            go_wp2_with fail
            refine (containsInt_any _ (pMet m L (clF m) met s u) _ _ HI6.out).mono ?_
            rintro e w' ⟨rfl, rfl⟩
            cases hq2 : decide ((clF m (mT m s u) : Int) ∈ pMet m L (clF m) met s u) with
            | true =>
              have HN := hide (pMet_yes HQ.out hq2)
              have HPR := hide (show plc (pMet m L (clF m) met s u) (clF m (mT m s u)) = pRow m L (clF m) met s u by unfold pRow; rw [HQ.out, HN.out]; rfl)
              clear hq2
              go_wp2_with (go_at_call 77; refine (placeOf_any _ (pMet m L (clF m) met s u) _ _ HI6.out).mono ?_; rintro e w' ⟨rfl, rfl⟩)
              go_roundw
              case rel =>
                refine ⟨u + 1, by go_num, by omega, ?_⟩
                rw [HN.out]
                refine ((H6.out.setR 0 rfl u (.int .i64 (plc (pMet m L (clF m) met s u) (clF m (mT m s u))))).congrR 0 rfl (g := pR m L (clF m) met s (u + 1)) (fun j _ => ?_))
                rw [← pR1_done HPR.out]
                unfold pR1
                by_cases e : j = u <;> simp [e]
              case measure => simp [intOf]; omega
            | false =>
              have HN := hide (pMet_new HQ.out hq2)
              have HMN := hide (pMet_ok HMM.out L (fun x => clF_le m x) HMET.out hsn (u + 1) (by omega))
              have HPR := hide (show plc (pMet m L (clF m) met s (u + 1)) (clF m (mT m s u)) = pRow m L (clF m) met s u by unfold pRow; rw [HQ.out]; rfl)
              clear hq2
              have H7 := hide (H6.out.grow ((Ext.refl _).alloc (.cells #[.int .i64 (clF m (mT m s u))] 3)))
              have c1 : (w5.setCell ⟨br, u, none⟩ (.int .i64 (-1))).heap.size = w5.heap.size := by simp [World.setCell]
              go_wp2_with (at_builtin; go_must (refine wpList_appIO _ rfl _ _ rfl w.heap.size _ (pMet m L (clF m) met s u) (clF m (mT m s u) : Int) _ 1 rfl rfl (H7.out.p 3 _ rfl) (by go_simp) (by omega) (by have := H7.out.ext.size; exact this) ?_); intro v' w7 hA7 hg7 ho7; have H8 := hide (H7.out.appI 3 rfl hA7 hg7 ho7); rw [← HN.out] at hA7 H8; have c0 := (show w7.rowIs br 3 6 _ from H8.out.p 0 _ rfl).cell (i := u) hul; have z0 := (show w7.rowIs br 3 6 _ from H8.out.p 0 _ rfl).frozen u; have HI8 := hide (HMN.out.sints hn hA7); obtain ⟨A9, c9, rfl, -⟩ := hA7.form; clear hA7 hg7 ho7)
              go_wp2_with (go_at_call 77; refine (placeOf_any _ (pMet m L (clF m) met s (u + 1)) _ _ HI8.out).mono ?_; rintro e w' ⟨rfl, rfl⟩)
              go_roundw
              case rel =>
                refine ⟨u + 1, by go_num, by omega, ?_⟩
                refine ((H8.out.setR 0 rfl u (.int .i64 (plc (pMet m L (clF m) met s (u + 1)) (clF m (mT m s u))))).congrR 0 rfl (g := pR m L (clF m) met s (u + 1)) (fun j _ => ?_))
                rw [← pR1_done HPR.out]
                unfold pR1
                by_cases e : j = u <;> simp [e]
              case measure => simp [intOf]; omega
        · obtain rfl : u = 6 := by omega
          have HRV := hide (pR_row (show W1.rowIs br 3 6 _ from hA.p 0 _ rfl) hbr)
          obtain ⟨An, cn, rfl, -⟩ := (show OwnW w.heap.size W1 vn (mSt m L (clF m) k).rows kb from hA.p 2 _ rfl).form
          obtain ⟨Af, cf, rfl, -⟩ := (show AppI w.heap.size W1 vf (mSt m L (clF m) k).fins from hA.p 1 _ rfl).form
          have hne : ∀ i, i < (mSt m L (clF m) k).rows.length → (Value.slice (some ⟨br, 0, none⟩) 6 6).ownBlock ≠ some (kb i) := fun i hi e => hA.ap 0 2 _ _ rfl rfl (by omega) (kb i) (by injection e with e; exact e.symm) (.inr ⟨i, hi, rfl⟩)
          have HNE := hide hne
          have n0 := (hA.cellC 4 rfl 0 rfl).1
          have hfl : (mSt m L (clF m) k).fins.length ≤ k := (mSt_res m L (clF m) k).fl
          have H7 := hide (HA.out.grow ((Ext.refl _).alloc (.cells #[.slice (some ⟨br, 0, none⟩) 6 6] 24)))
          clear hA hne hmu hAO hI
          go_wp2_with (at_builtin; go_must (refine wpList_appW _ rfl _ _ rfl w.heap.size _ (mSt m L (clF m) k).rows kb (pRowL m L (clF m) met s) (.slice (some ⟨br, 0, none⟩) 6 6) _ 1 rfl rfl (H7.out.p 2 _ rfl) (by go_simp) (HRV.out.ext ((Ext.refl _).alloc _)) (by have := HRL.out; omega) (by have := H7.out.ext.size; exact this) HNE.out ?_); intro v' w7 kb' hA7 h17 h27 hg7 ho7; have H8 := hide (H7.out.addW (rv := .slice (some ⟨br, 0, none⟩) 6 6) (fun k => ⟨fun h => by rw [show k = br from h]; rfl, fun h => by injection h with h; exact h.symm⟩) 1 rfl hA7 h17 h27 hg7 ho7); obtain ⟨rows2, hr2⟩ : ∃ r2, r2 = (mSt m L (clF m) k).rows ++ [pRowL m L (clF m) met s] := ⟨_, rfl⟩; rw [← hr2] at hA7 H8; have HR2 := hide hr2; clear hr2; have p0 := (H8.out.cellC 3 rfl 0 rfl).1; have y0 := (H8.out.cellC 3 rfl 0 rfl).2; obtain ⟨A8, c8, rfl, -⟩ := hA7.form; clear hA7 h17 h27 hg7 ho7)
          have H9 := hide (H8.out.set 3 (w2.heap.size + 1) _ rfl 0 (.slice A8 rows2.length c8) (by simp))
          generalize hW8 : w7.setCell ⟨w2.heap.size + 1, 0, none⟩ (.slice A8 rows2.length c8) = W8 at *
          clear hW8 p0 y0 n0
          have hI9 := HMU.out.sints hn (show AppI w.heap.size W8 _ _ from H9.out.p 2 _ rfl)
          obtain ⟨ba, oa, rfl, hba, g1⟩ := hI9.at_ hpk
          rw [hpa] at g1
          have hpkI : (k : Int) < (pMet m L (clF m) met s 6).length := by omega
          have hsnI : (s : Int) < m.nx.length := by omega
          have f0 := (H9.out.ext.cells _ _ hb2).trans (HF.out s hsn)
          have hb2W := Nat.lt_of_lt_of_le hb2 H9.out.ext.size
          have m1 := (H9.out.cellC 6 rfl 1 rfl).1
          have hmW : w.heap.size < W8.heap.size := (H9.out.d 6 _ rfl w.heap.size rfl).2
          have HPK := hide hpk
          clear hI9 hpa
          refine wp_region_ext (by kernel_rfl) (by kernel_rfl) ?_
          iterate 8 (apply quiet_val; (focus rfl); (focus (intro w' hw'; have hk' := hw'.cells; go_simp; all_goals exact rfl)); simp only [Act.put, List.setIfInBounds_toArray, List.set_cons_succ, List.set_cons_zero])
          refine wpQuiet_nil ?_
          intro w9 hx9
          have HA9 := hide (H9.out.grow hx9)
          clear g1 f0 m1 hmW hb2W hba hx9
          cases hf : mF m s with
          | false =>
            have HFS := hide hf
            clear hf
            go_wp2
            go_roundw
            case rel =>
              refine ⟨k + 1, .slice A8 rows2.length c8, .slice Af (mSt m L (clF m) k).fins.length cf, kb', by go_num, ?_, ?_, ?_⟩
              · rw [HNX.out]; exact HPK.out
              · rw [HNX.out]; simp; exact HRL.out
              · unfold MinSt
                rw [HNX.out, HFS.out, ← HR2.out]
                exact HA9.out
            case measure => simp [intOf]; omega
          | true =>
            have HFS := hide hf
            clear hf
            have n1 := (HA9.out.cellC 3 rfl 1 rfl).1
            have H10 := hide (HA9.out.grow ((Ext.refl _).alloc (.cells #[.int .i64 k] 3)))
            go_wp2_with (at_builtin; go_must (refine wpList_appIO _ rfl _ _ rfl w.heap.size _ (mSt m L (clF m) k).fins (k : Int) _ 1 rfl rfl (H10.out.p 0 _ rfl) (by go_simp) (by omega) (by have := H10.out.ext.size; exact this) ?_); intro v' w7 hA7 hg7 ho7; have H11 := hide (H10.out.appI 0 rfl hA7 hg7 ho7); obtain ⟨fins2, hr3⟩ : ∃ r2, r2 = (mSt m L (clF m) k).fins ++ [(k : Int)] := ⟨_, rfl⟩; rw [← hr3] at hA7 H11; have HR3 := hide hr3; clear hr3; have p1 := (H11.out.cellC 3 rfl 1 rfl).1; have y1 := (H11.out.cellC 3 rfl 1 rfl).2; obtain ⟨A9, c9, rfl, -⟩ := hA7.form; clear hA7 hg7 ho7)
            go_roundw
            case rel =>
              refine ⟨k + 1, .slice A8 rows2.length c8, .slice A9 fins2.length c9, kb', by go_num, ?_, ?_, ?_⟩
              rotate_left 2
              · unfold MinSt
                rw [HNX.out, HFS.out, ← HR2.out, if_pos rfl, ← HR3.out]
                exact H11.out.set 3 (w2.heap.size + 1) _ rfl 1 _ (by simp)
              · rw [HNX.out]; exact HPK.out
              · rw [HNX.out]; simp; exact HRL.out
            case measure => simp [intOf]; omega
    · have hke : k = (mSt m L (clF m) k).met.length := by omega
      have HE := hide (mEnd_of HMM.out (fun x => clF_le m x) hke)
      have hS : Apt w W0 _ := HS.out
      obtain ⟨An, cn, rfl, -⟩ := (show OwnW w.heap.size W0 vn (mSt m L (clF m) k).rows kb from hS.p 1 _ rfl).form
      obtain ⟨Af, cf, rfl, -⟩ := (show AppI w.heap.size W0 vf (mSt m L (clF m) k).fins from hS.p 0 _ rfl).form
      have n0 := (hS.cellC 3 rfl 0 rfl).1
      have n1 := (hS.cellC 3 rfl 1 rfl).1
      obtain ⟨r0, y0⟩ := hS.cellC 5 rfl 0 rfl
      obtain ⟨r1, y1⟩ := hS.cellC 5 rfl 1 rfl
      have HSS := hide hS
      have hkI : ¬ ((k : Int) < (mSt m L (clF m) k).met.length) := by omega
      clear hS hke hI hmet
      go_wp2
      refine bodyPost_ret (v := .agg #[.slice An (mSt m L (clF m) k).rows.length cn, .slice Af (mSt m L (clF m) k).fins.length cf]) ?res rfl ?_
      case res =>
        unfold results
        simp only [Try.f40]
        go_simp
      refine ⟨L, HLL.out, ?_⟩
      rw [← HE.out]
      exact ⟨_, _, kb, rfl, (((HSS.out.set 5 (w.heap.size + 1) _ rfl 0 _ (by simp)).set 5 (w.heap.size + 1) _ rfl 1 _ (by simp)).take 2).swap⟩
end Go.Proofs.Ytdiedghaoleblaa
