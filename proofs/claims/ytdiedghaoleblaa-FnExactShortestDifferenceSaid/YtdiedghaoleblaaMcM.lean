/- The minimal form in the program. -/
import Derived.Test.YtdiedghaoleblaaMcE
import Derived.Test.YtdiedghaoleblaaMcL
import Derived.Test.YtdiedghaoleblaaConsA
import Derived.Test.YtdiedghaoleblaaCpy
import Derived.Deep.RegionHeld3
namespace Go.Proofs.Ytdiedghaoleblaa
open Go.RowKit

theorem hasI_dec (xs : List Int) (x : Int) : hasI xs x = decide (x ∈ xs) := by
  unfold hasI
  rw [Bool.eq_iff_iff, anyB_iff, decide_eq_true_iff]
  constructor
  · rintro ⟨i, hi, h⟩
    rw [beq_iff_eq] at h
    rw [h]; exact at0_mem hi
  · intro h
    obtain ⟨i, hi, e⟩ := List.mem_iff_getElem.1 h
    exact ⟨i, hi, by unfold at0; rw [getD_lt _ _ hi, e]; simp⟩
/-- Of the row's numbers the first u are there. -/
def pPre (m : Mc) (L : Nat → Bool) (C : Nat → Nat) (met : List Int) (s u : Nat) : List Int := (List.range u).map (pRow m L C met s)
theorem pPre_succ (m : Mc) (L : Nat → Bool) (C : Nat → Nat) (met : List Int) (s u : Nat) : pPre m L C met s u ++ [pRow m L C met s u] = pPre m L C met s (u + 1) := by unfold pPre; rw [List.range_succ, List.map_append]; rfl
theorem pPre_len (m : Mc) (L : Nat → Bool) (C : Nat → Nat) (met : List Int) (s u : Nat) : (pPre m L C met s u).length = u := by simp [pPre]
theorem ClipR_any (A : Option Addr) (m c : Nat) (w : World) (hle : m ≤ c) (_hc : c ≤ 9223372036854775807) : Calls Try.prog 71 #[.slice A m c] w fun e w' => e = .returned (.slice A m m) ∧ w = w' := by
  go_enter Try.func71, Try.ntmps71
  go_wp2
  go_ret
  exact ⟨rfl, rfl⟩
/-- A slice of rows, each in a block of its own. -/
structure OutW (B : Nat) (W : World) (A : Option Addr) (rs : List (List Int)) (kb : Nat → Nat) : Prop where
  out : 0 < rs.length → ∃ g m F, A = some ⟨g, 0, none⟩ ∧ B ≤ g ∧ W.rowIs g 24 m F ∧ rs.length ≤ m ∧ ∀ i, i < rs.length → ∃ c, F i = .slice (some ⟨kb i, 0, none⟩) (rw0 rs i).length c ∧ (rw0 rs i).length ≤ c
  inj : ∀ i j, i < rs.length → j < rs.length → kb i = kb j → i = j
  rows : ∀ i, i < rs.length → B ≤ kb i ∧ ∃ c f, (rw0 rs i).length ≤ c ∧ W.rowIs (kb i) 3 c f ∧ ∀ j, j < (rw0 rs i).length → f j = vI (at0 (rw0 rs i) j)
theorem OutW.ext {B : Nat} {W W' : World} {A : Option Addr} {rs : List (List Int)} {kb : Nat → Nat} (h : OutW B W A rs kb) (hx : Ext W W') : OutW B W' A rs kb :=
  ⟨fun hp => by obtain ⟨g, m, F, h1, h2, h3, h4, h5⟩ := h.out hp; exact ⟨g, m, F, h1, h2, hx.row h3, h4, h5⟩, h.inj, fun i hi => by obtain ⟨h1, c, f, h2, h3, h4⟩ := h.rows i hi; exact ⟨h1, c, f, h2, hx.row h3, h4⟩⟩
theorem OwnW.out {B : Nat} {w : World} {A : Option Addr} {n c : Nat} {rs : List (List Int)} {kb : Nat → Nat} (h : OwnW B w (.slice A n c) rs kb) : n = rs.length ∧ n ≤ c ∧ OutW B w A rs kb := by
  obtain ⟨cells, h1, h2, h3⟩ := h
  have hrows : ∀ i, i < rs.length → B ≤ kb i ∧ ∃ c f, (rw0 rs i).length ≤ c ∧ w.rowIs (kb i) 3 c f ∧ ∀ j, j < (rw0 rs i).length → f j = vI (at0 (rw0 rs i) j) := fun i hi => by
    obtain ⟨c, f, -, k2, k3, k4, k5⟩ := h3 i hi
    exact ⟨k3, c, f, k2, k4, k5⟩
  rcases h1.2 with ⟨e1, e2⟩ | ⟨g, cap, cur, e1, hg, hh, hnc, hm, hcs, htk⟩
  · injection e1 with e1 e3 e4
    exact ⟨by omega, by omega, ⟨fun hp => by omega, h2, hrows⟩⟩
  · injection e1 with e1 e3 e4
    subst e1; subst e4
    refine ⟨e3, by omega, ⟨fun hp => ⟨g, c, fun j => cur.getD j undef, rfl, hg, ⟨cur, hh, by omega, fun i hi => by show _ = some (cur.getD i _); rw [Array.getD_eq_getD_getElem?, Array.getElem?_eq_getElem (by omega)]; rfl⟩, by omega, fun i hi => ?_⟩, h2, hrows⟩⟩
    obtain ⟨c5, f, k1, k2, -⟩ := h3 i hi
    refine ⟨c5, ?_, k2⟩
    have e5 : (cur.toList.take (rs.length * 1))[i]? = cells[i]? := by rw [htk]
    rw [List.getElem?_take, if_pos (by omega), k1, Array.getElem?_toList] at e5
    show cur.getD i _ = _
    rw [Array.getD_eq_getD_getElem?, e5]; rfl
/-- An automaton came that can be marked: every row has a block of its own. -/
def OutP (rows : List (List Int)) (fins : List Int) (w w' : World) (A : Option Addr) (c : Nat) (A' : Option Addr) (c' : Nat) : Prop :=
  ∃ kb b' m' f', rows.length ≤ c ∧ fins.length ≤ c' ∧ OutW w.heap.size w' A rows kb ∧ OwnC w' A' b' m' f' fins ∧ (0 < fins.length → w.heap.size ≤ b' ∧ ∀ i, i < rows.length → b' ≠ kb i) ∧ Ext w w'
def OutAu (rows : List (List Int)) (fins : List Int) (w : World) (e : Ending) (w' : World) : Prop :=
  ∃ A c A' c', e = .returned (.tuple #[.agg #[.slice A rows.length c, .slice A' fins.length c'], .bool true]) ∧ OutP rows fins w w' A c A' c'
theorem OutP.of_apt {w w' : World} {A A' : Option Addr} {n c n' c' : Nat} {rows : List (List Int)} {fins : List Int} {kb : Nat → Nat} (h : Apt w w' [iI w.heap.size (.slice A' n' c') fins, iW w.heap.size (.slice A n c) rows kb]) (hb : fins.length * 8 ≤ 140737488355328) :
    n = rows.length ∧ n' = fins.length ∧ n ≤ c ∧ n' ≤ c' ∧ OutP rows fins w w' A n A' n' := by
  obtain ⟨h1, h2, h3⟩ := OwnW.out (show OwnW w.heap.size w' (.slice A n c) rows kb from h.p 1 _ rfl)
  obtain ⟨A2, c2, b, m, f, e, h5, -, h6, h7, -⟩ := AppI.res (show AppI w.heap.size w' (.slice A' n' c') fins from h.p 0 _ rfl) h.ext hb
  injection e with e
  injection e with e1 e2 e3
  subst e1; subst e3
  refine ⟨h1, e2, h2, by omega, kb, b, m, f, by omega, by omega, h3, h7, fun hp => ⟨h6, fun i hi e => ?_⟩, h.ext⟩
  have := (h7 hp).1
  exact h.ap 0 1 _ _ rfl rfl (by omega) b (by subst this; rfl) (.inr ⟨i, hi, e.symm⟩)
/-- A row of bools and nothing else turns: it is a thing apart. -/
def iL (g n cap : Nat) (L : Nat → Bool) : Itm := ⟨fun k => k = g, fun W => RdB W g n cap L⟩
theorem iL_st (g n cap : Nat) (L : Nat → Bool) : (iL g n cap L).St := by
  rintro W W' ⟨h1, f, h2, h3⟩ hk
  exact ⟨h1, f, hk.row rfl h2, h3⟩
theorem wp_merge3 {P : Program} {c : Code} {Q : Exit → Act → World → Prop} {a : Act} {w : World} (Po : Nat → Nat → Nat → World → Prop) (F : Nat → Nat → Nat → Act)
    (h : c.wp P (fun e a' W' => e = .normal ∧ ∃ x y z, Po x y z W' ∧ a' = F x y z) a w) (hq : ∀ x y z W', Po x y z W' → Q .normal (F x y z) W') : c.wp P Q a w :=
  Code.wp_mono (fun e a' W' ⟨h1, x, y, z, h2, h3⟩ => by subst h1; subst h3; exact hq x y z W' h2) h
theorem held2 {w0 W W' : World} {a : Nat} {v0 v1 : Value} (h : Ext w0 W ∧ W.cell? ⟨a, 0, none⟩ = some v0 ∧ W.cell? ⟨a, 1, none⟩ = some v1) (hx : Ext W W') (ha : a < w0.heap.size) : Ext w0 W' ∧ W'.cell? ⟨a, 0, none⟩ = some v0 ∧ W'.cell? ⟨a, 1, none⟩ = some v1 :=
  ⟨h.1.trans hx, (hx.cells _ _ (Nat.lt_of_lt_of_le ha h.1.size)).trans h.2.1, (hx.cells _ _ (Nat.lt_of_lt_of_le ha h.1.size)).trans h.2.2⟩
/-- What the program's minimal makes: nothing if there are more than eight states. -/
def MinI (rows : List (List Int)) (fins : List Int) (w : World) (e : Ending) (w' : World) : Prop :=
  if rows.length ≤ 8 then OutAu rows fins w e w' else e = .returned (.tuple #[.agg #[.slice none 0 0, .slice none 0 0], .bool false]) ∧ Ext w w'
set_option maxRecDepth 100000 in
set_option maxHeartbeats 16000000 in
theorem minimalI_any (vn0 vf0 : Value) (m : Mc) (w : World) (hM : RdM w vn0 vf0 m) :
    Calls Try.prog 38 #[.agg #[vn0, vf0]] w fun e w' => ∃ L : Nat → Bool, (∀ x, x < m.nx.length → (L x = true ↔ Live m x)) ∧ MinI (mEnd m L (clF m)).rows (mEnd m L (clF m)).fins w e w' := by
  have HM := hide hM
  obtain ⟨b, off, c, b2, off2, c2, rfl, rfl, hb, hb2, hc, hc2, hR, hF, hm⟩ := hM
  have HR := hide hR
  have HF := hide hF
  have HMM := hide hm
  have hn := hm.le
  have hpos := hm.pos
  clear hm hR hF
  have h0 := ((Apt.nil_ (Ext.refl w)).newC [.slice (some ⟨b, off, none⟩) m.nx.length c, .slice (some ⟨b2, off2, none⟩) m.nx.length c2] 54 rfl).newC [.slice none 0 0, .slice none 0 0] 26 rfl
  simp only [World.size_alloc] at h0
  have H0 := hide h0
  have m0 := (h0.cellC 1 rfl 0 rfl).1
  have m1 := (h0.cellC 1 rfl 1 rfl).1
  have hws : w.heap.size < ((w.alloc (.cells #[.slice (some ⟨b, off, none⟩) m.nx.length c, .slice (some ⟨b2, off2, none⟩) m.nx.length c2] 54)).alloc (.cells #[.slice none 0 0, .slice none 0 0] 26)).heap.size := by simp <;> omega
  clear h0
  go_enter Try.func38, Try.ntmps38
  go_wp2
  generalize hW1 : (w.alloc (.cells #[.slice (some ⟨b, off, none⟩) m.nx.length c, .slice (some ⟨b2, off2, none⟩) m.nx.length c2] 54)).alloc (.cells #[.slice none 0 0, .slice none 0 0] 26) = W1 at *
  clear hW1
  apply wp_merge3 (fun bc g cap W' => ∃ L : Nat → Bool, (∀ x, x < m.nx.length → (L x = true ↔ Live m x)) ∧ Apt w W' [iL g m.nx.length cap L, iR bc 3 m.nx.length (cRow (clF m) m.nx.length), iC (w.heap.size + 1) [.slice none 0 0, .slice none 0 0], iC w.heap.size [.slice (some ⟨b, off, none⟩) m.nx.length c, .slice (some ⟨b2, off2, none⟩) m.nx.length c2]])
  case h =>
    go_region_held3 (fun W => Ext W1 W ∧ W.cell? ⟨w.heap.size, 0, none⟩ = some (.slice (some ⟨b, off, none⟩) m.nx.length c) ∧ W.cell? ⟨w.heap.size, 1, none⟩ = some (.slice (some ⟨b2, off2, none⟩) m.nx.length c2))
      (first | (exact ⟨(Ext.refl W1).drew, m0, m1⟩) | (exact held2 ‹_› hx8 hws) | (exact held2 ‹_› hx9 hws))
      (first
        | (go_at_call 67; refine (classesI_any _ _ m _ (HM.out.ext (H0.out.ext.trans (And.left ‹_›)))).mono ?_; rintro e w8 ⟨bc, hbc, rfl, hrc, hx8⟩)
        | (go_at_call 68; refine (live_any _ _ m _ (HM.out.ext (H0.out.ext.trans (And.left ‹_›)))).mono ?_; rintro e w9 ⟨L, hL, g, cap, hg, rfl, hB, hx9⟩))
    all_goals exact ⟨rfl, bc, g, cap, ⟨L, hL, ((H0.out.grow (Ext.refl _).drew).mkR hrc hbc hx8).push (iL g m.nx.length cap L) hx9 hB (fun k hk => by have e : k = g := hk; subst e; exact ⟨hg, (hB.cell (i := 0) (by omega)).2.2⟩) (iL_st _ _ _ _)⟩, rfl⟩
  intro bc g cap w2 h
  obtain ⟨L, hL, hA2⟩ := h
  have H2 := hide hA2
  have HLL := hide hL
  have c0 : w2.cell? ⟨bc, 0, none⟩ = some (.int .i64 (clF m 0)) := by
    have := (show w2.rowIs bc 3 m.nx.length _ from hA2.p 1 _ rfl).cell (i := 0) (by omega)
    rw [this]; unfold cRow; rw [if_pos (by omega)]
  have hpn : 0 < m.nx.length := by omega
  have hpnI : (0 : Int) < m.nx.length := by omega
  have H3 := (H2.out.mkI (AppI.lit1 w2 (clF m 0 : Int) rfl) ((Ext.refl w2).alloc _)).newC [.slice none 0 0, .slice none 0 0] 26 rfl
  simp only [World.size_alloc] at H3
  have H3 := hide H3
  clear hA2 hL
  go_wp2
  go_loopw [6, 8] (fun o i wr => ∃ (k : Nat) (vn vf : Value) (kb : Nat → Nat), i = .int .i64 k ∧ k ≤ (mSt m L (clF m) k).met.length ∧ (mSt m L (clF m) k).rows.length = k ∧
    MinSt w [iL g m.nx.length cap L, iR bc 3 m.nx.length (cRow (clF m) m.nx.length), iC (w.heap.size + 1) [.slice none 0 0, .slice none 0 0], iC w.heap.size [.slice (some ⟨b, off, none⟩) m.nx.length c, .slice (some ⟨b2, off2, none⟩) m.nx.length c2]] (w2.heap.size + 1) o vn vf kb (mSt m L (clF m) k) wr) (fun _ i _ => 101 - (intOf i).toNat)
  case atStart =>
    refine ⟨0, .slice none 0 0, .slice none 0 0, fun _ => 0, rfl, by simp [mSt], rfl, ?_⟩
    have := ((H3.out.swap.baseI (B' := w.heap.size) H2.out.ext.size).nilW w.heap.size (fun _ => 0)).nilI w.heap.size
    exact this
  case round =>
    obtain ⟨k, vn, vf, kb, rfl, hk, hrl, hS⟩ := hrel
    obtain ⟨W0, rfl⟩ : ∃ W0, W0 = wr := ⟨wr, rfl⟩
    have HRL := hide hrl
    clear hrl
    have HS := hide hS
    have hmet := mSt_ok HMM.out L (fun x => clF_le m x) k
    have HMET := hide hmet
    have hlen := hmet.len
    have hAO : AppI w.heap.size W0 u6 (mSt m L (clF m) k).met := hS.p 2 _ rfl
    have hI := hmet.sints hn hAO
    have HI := hide hI
    obtain ⟨Ao, co, rfl, hco⟩ := hAO.form
    clear hS hAO
    by_cases hlt : k < (mSt m L (clF m) k).met.length
    · have hkI : (k : Int) < (mSt m L (clF m) k).met.length := by omega
      obtain ⟨s, hs⟩ : ∃ s : Nat, at0 (mSt m L (clF m) k).met k = s := ⟨(at0 (mSt m L (clF m) k).met k).toNat, by have := hmet.at_ hlt; omega⟩
      have hsn : s < m.nx.length := by have := hmet.at_ hlt; omega
      have HSS := hide hs
      have HNX := hide (mSt_next hlt hs)
      obtain ⟨met, hmete⟩ : ∃ met, met = (mSt m L (clF m) k).met := ⟨_, rfl⟩
      rw [← hmete] at HSS HMET HI HNX hlt hlen hkI
      have HME := hide hmete
      have hkm := hk
      rw [← hmete] at hkm ⊢
      clear hs hmet hmete hI
      have hsnI : (s : Int) < m.nx.length := by omega
      go_wp2_with (at_make; go_must (refine wpList_mk0 _ rfl _ _ rfl 6 rfl rfl (by omega) ?_); intro v3 w3 hA3 hx3)
      have H3 := hide (((show Apt w W0 _ from HS.out).mkI hA3 hx3).baseI (B' := w.heap.size) HS.out.ext.size)
      obtain ⟨A3, c3, hv3, -⟩ := hA3.form
      rw [List.length_nil] at hv3
      subst hv3
      have HI3 := HI.out.ext hx3
      obtain ⟨ba, oa, rfl, hba, g1⟩ := HI3.at_ hlt
      rw [HSS.out] at g1
      have HI3 := hide HI3
      obtain ⟨bs, os, cs, fs, hbs, -, hrs⟩ := HR.out s hsn
      have HRS := hide hrs
      have fs := (H3.out.ext.cells _ _ hb).trans fs
      have hbW := Nat.lt_of_lt_of_le hb H3.out.ext.size
      have m0 := (H3.out.cellC 8 rfl 0 rfl).1
      have hmW : w.heap.size < w3.heap.size := (H3.out.d 8 _ rfl w.heap.size rfl).2
      clear hrs hA3 hx3
      go_wp2
      refine wp_region_ext (by kernel_rfl) (by kernel_rfl) ?_
      iterate 10 (apply quiet_val; (focus rfl); (focus (intro w' hw'; have hk' := hw'.cells; go_simp; all_goals exact rfl)); simp only [Act.put, List.setIfInBounds_toArray, List.set_cons_succ, List.set_cons_zero])
      refine wpQuiet_nil ?_
      intro w4 hx4
      have H4 := hide (H3.out.grow hx4)
      clear g1 fs hbW m0 hmW hba hx4
      go_wp2
      go_loopw [6, 9, 38] (fun o ro i wi => ∃ u : Nat, i = .int .i64 u ∧ u ≤ 6 ∧ Apt w wi (iI w.heap.size ro (pPre m L (clF m) met s u) :: iI w.heap.size vf (mSt m L (clF m) k).fins :: iW w.heap.size vn (mSt m L (clF m) k).rows kb :: iI w.heap.size o (pMet m L (clF m) met s u) :: iC (w2.heap.size + 1) [vn, vf] :: [iL g m.nx.length cap L, iR bc 3 m.nx.length (cRow (clF m) m.nx.length), iC (w.heap.size + 1) [.slice none 0 0, .slice none 0 0], iC w.heap.size [.slice (some ⟨b, off, none⟩) m.nx.length c, .slice (some ⟨b2, off2, none⟩) m.nx.length c2]])) (fun _ _ i _ => 6 - (intOf i).toNat)
      case atStart =>
        refine ⟨0, rfl, by omega, ?_⟩
        have := H4.out
        rw [← HME.out] at this
        exact this
      case round =>
        obtain ⟨u, rfl, hu, hA⟩ := hrel
        obtain ⟨W1, rfl⟩ : ∃ W1, W1 = wr := ⟨wr, rfl⟩
        have HA := hide hA
        have hmu := pMet_ok HMM.out L (fun x => clF_le m x) HMET.out hsn u hu
        have HMU := hide hmu
        have hlu := hmu.len
        have hAO : AppI w.heap.size W1 u6 (pMet m L (clF m) met s u) := hA.p 3 _ rfl
        have HI := hide (hmu.sints hn hAO)
        obtain ⟨Ao, co, rfl, hco⟩ := hAO.form
        have hAR : AppI w.heap.size W1 u9 (pPre m L (clF m) met s u) := hA.p 0 _ rfl
        obtain ⟨Ar, cr, rfl, hcr⟩ := hAR.form
        obtain ⟨hpa, hpk⟩ := pMet_at (m := m) (L := L) (C := clF m) (s := s) hlt u
        rw [HSS.out] at hpa
        by_cases hul : u < 6
        · have huI6 : (u : Int) < 6 := by omega
          have hx := hA.ext
          have hbsW := Nat.lt_of_lt_of_le hbs hx.size
          have f3 := (hx.cells _ _ hbs).trans (HRS.out u hul)
          have hxn := HMM.out.lt hsn hul
          have hxnI : (mT m s u : Int) < m.nx.length := by omega
          have q1 : W1.cell? ⟨bc, mT m s u, none⟩ = some (.int .i64 (clF m (mT m s u))) := by
            have := (show W1.rowIs bc 3 m.nx.length _ from hA.p 6 _ rfl).cell (i := mT m s u) hxn
            rw [this]; unfold cRow; rw [if_pos hxn]
          have q2 := ((show RdB W1 g m.nx.length cap L from hA.p 5 _ rfl).cell hxn).1
          have HPA := hide hpa
          clear hA hmu hAO hAR hx hpa
          cases hq : L (mT m s u) with
          | false =>
            rw [hq] at q2
            have HN := hide (pMet_no (C := clF m) (met := met) hq)
            have HPR := hide (show (-1 : Int) = pRow m L (clF m) met s u by unfold pRow; rw [hq]; rfl)
            clear hq
            have H7 := hide (HA.out.grow ((Ext.refl _).alloc (.cells #[.int .i64 (-1)] 3)))
            go_wp2_with (at_builtin; go_must (refine wpList_appIO _ rfl _ _ rfl w.heap.size _ (pPre m L (clF m) met s u) (-1 : Int) _ 1 rfl rfl (H7.out.p 0 _ rfl) (by go_simp) (by rw [pPre_len]; omega) (by have := H7.out.ext.size; exact this) ?_); intro v8 w8 hA8 hg8 ho8; have H9 := hide (H7.out.appI 0 rfl hA8 hg8 ho8); rw [HPR.out, pPre_succ] at hA8 H9; obtain ⟨A10, c10, rfl, -⟩ := hA8.form; clear hA8 hg8 ho8)
            go_wp2
            go_roundw
            case rel =>
              refine ⟨u + 1, by go_num, by omega, ?_⟩
              rw [HN.out]; exact H9.out
            case measure => simp [intOf]; omega
          | true =>
            rw [hq] at q2
            have HQ := hide hq
            clear hq
            go_wp2_with fail
            refine (Contains_any _ (pMet m L (clF m) met s u) _ _ HI.out).mono ?_
            rintro e w' ⟨rfl, rfl⟩
            rw [hasI_dec]
            cases hq2 : decide ((clF m (mT m s u) : Int) ∈ pMet m L (clF m) met s u) with
            | true =>
              have HN := hide (pMet_yes HQ.out hq2)
              have HPR := hide (show plc (pMet m L (clF m) met s u) (clF m (mT m s u)) = pRow m L (clF m) met s u by unfold pRow; rw [HQ.out, HN.out]; rfl)
              clear hq2
              go_wp2_with fail
              refine (Index_any _ (pMet m L (clF m) met s u) _ _ HI.out).mono ?_
              rintro e w' ⟨rfl, rfl⟩
              rw [show fidx (fun i => (clF m (mT m s u) : Int) == at0 (pMet m L (clF m) met s u) i) (pMet m L (clF m) met s u).length = plc (pMet m L (clF m) met s u) (clF m (mT m s u)) from rfl]
              obtain ⟨pv, hpv⟩ : ∃ pv, pv = plc (pMet m L (clF m) met s u) (clF m (mT m s u)) := ⟨_, rfl⟩
              rw [← hpv] at HPR ⊢
              have H7 := hide (HA.out.grow ((Ext.refl _).alloc (.cells #[.int .i64 pv] 3)))
              clear hpv
              go_wp2_with (at_builtin; go_must (refine wpList_appIO _ rfl _ _ rfl w.heap.size _ (pPre m L (clF m) met s u) pv _ 1 rfl rfl (H7.out.p 0 _ rfl) (by go_simp) (by rw [pPre_len]; omega) (by have := H7.out.ext.size; exact this) ?_); intro v8 w8 hA8 hg8 ho8; have H9 := hide (H7.out.appI 0 rfl hA8 hg8 ho8); rw [HPR.out, pPre_succ] at hA8 H9; obtain ⟨A10, c10, rfl, -⟩ := hA8.form; clear hA8 hg8 ho8)
              go_wp2
              go_roundw
              case rel =>
                refine ⟨u + 1, by go_num, by omega, ?_⟩
                rw [HN.out]; exact H9.out
              case measure => simp [intOf]; omega
            | false =>
              have HN := hide (pMet_new HQ.out hq2)
              have HMN := hide (pMet_ok HMM.out L (fun x => clF_le m x) HMET.out hsn (u + 1) (by omega))
              have HPR := hide (show plc (pMet m L (clF m) met s (u + 1)) (clF m (mT m s u)) = pRow m L (clF m) met s u by unfold pRow; rw [HQ.out]; rfl)
              clear hq2
              have H5 := hide (HA.out.grow ((Ext.refl _).alloc (.cells #[.int .i64 (clF m (mT m s u))] 3)))
              go_wp2_with (at_builtin; go_must (refine wpList_appIO _ rfl _ _ rfl w.heap.size _ (pMet m L (clF m) met s u) (clF m (mT m s u) : Int) _ 1 rfl rfl (H5.out.p 3 _ rfl) (by go_simp) (by omega) (by have := H5.out.ext.size; exact this) ?_); intro v' w7 hA7 hg7 ho7; have H6 := hide (H5.out.appI 3 rfl hA7 hg7 ho7); rw [← HN.out] at hA7 H6; have HI6 := hide (HMN.out.sints hn hA7); have q1 : w7.cell? ⟨bc, mT m s u, none⟩ = some (.int .i64 (clF m (mT m s u))) := (by have := (show w7.rowIs bc 3 m.nx.length _ from H6.out.p 6 _ rfl).cell (i := mT m s u) hxn; rw [this]; unfold cRow; rw [if_pos hxn]); obtain ⟨A9, c9, rfl, -⟩ := hA7.form; clear hA7 hg7 ho7)
              refine (Index_any _ (pMet m L (clF m) met s (u + 1)) _ _ HI6.out).mono ?_
              rintro e w' ⟨rfl, rfl⟩
              rw [show fidx (fun i => (clF m (mT m s u) : Int) == at0 (pMet m L (clF m) met s (u + 1)) i) (pMet m L (clF m) met s (u + 1)).length = plc (pMet m L (clF m) met s (u + 1)) (clF m (mT m s u)) from rfl]
              obtain ⟨pv, hpv⟩ : ∃ pv, pv = plc (pMet m L (clF m) met s (u + 1)) (clF m (mT m s u)) := ⟨_, rfl⟩
              rw [← hpv] at HPR ⊢
              have H7 := hide (H6.out.grow ((Ext.refl _).alloc (.cells #[.int .i64 pv] 3)))
              clear hpv
              go_wp2_with (at_builtin; go_must (refine wpList_appIO _ rfl _ _ rfl w.heap.size _ (pPre m L (clF m) met s u) pv _ 1 rfl rfl (H7.out.p 0 _ rfl) (by go_simp) (by rw [pPre_len]; omega) (by have := H7.out.ext.size; exact this) ?_); intro v8 w8 hA8 hg8 ho8; have H9 := hide (H7.out.appI 0 rfl hA8 hg8 ho8); rw [HPR.out, pPre_succ] at hA8 H9; obtain ⟨A10, c10, rfl, -⟩ := hA8.form; clear hA8 hg8 ho8)
              go_wp2
              go_roundw
              case rel =>
                refine ⟨u + 1, by go_num, by omega, ?_⟩
                exact H9.out
              case measure => simp [intOf]; omega
        · obtain rfl : u = 6 := by omega
          have HRV := hide (RowV.of_app hAR (by rw [pPre_len]; omega))
          obtain ⟨An, cn, rfl, -⟩ := (show OwnW w.heap.size W1 vn (mSt m L (clF m) k).rows kb from hA.p 2 _ rfl).form
          obtain ⟨Af, cf, rfl, -⟩ := (show AppI w.heap.size W1 vf (mSt m L (clF m) k).fins from hA.p 1 _ rfl).form
          have hne : ∀ i, i < (mSt m L (clF m) k).rows.length → (Value.slice Ar (pPre m L (clF m) met s 6).length cr).ownBlock ≠ some (kb i) := fun i hi e => hA.ap 0 2 _ _ rfl rfl (by omega) (kb i) e (.inr ⟨i, hi, rfl⟩)
          have HNE := hide hne
          have n0 := (hA.cellC 4 rfl 0 rfl).1
          have hfl : (mSt m L (clF m) k).fins.length ≤ k := (mSt_res m L (clF m) k).fl
          obtain ⟨rv, hrv⟩ : ∃ rv, rv = Value.slice Ar (pPre m L (clF m) met s 6).length cr := ⟨_, rfl⟩
          rw [← hrv] at HRV HNE
          have H7 := hide (HA.out.grow ((Ext.refl _).alloc (.cells #[.slice Ar (pPre m L (clF m) met s 6).length cr] 24)))
          have HRVE := hide hrv
          clear hA hne hmu hAO hAR hrv
          go_wp2_with (at_builtin; go_must (refine wpList_appW _ rfl _ _ rfl w.heap.size _ (mSt m L (clF m) k).rows kb (pPre m L (clF m) met s 6) rv _ 1 rfl rfl (H7.out.p 2 _ rfl) (by rw [HRVE.out]; go_simp) (HRV.out.ext ((Ext.refl _).alloc _)) (by have := HRL.out; omega) (by have := H7.out.ext.size; exact this) HNE.out ?_); intro v' w7 kb' hA7 h17 h27 hg7 ho7; have H8 := hide (H7.out.addW (rv := rv) (fun k => by rw [HRVE.out]; exact Iff.rfl) 1 rfl hA7 h17 h27 hg7 ho7); obtain ⟨rows2, hr2⟩ : ∃ r2, r2 = (mSt m L (clF m) k).rows ++ [pPre m L (clF m) met s 6] := ⟨_, rfl⟩; rw [← hr2] at hA7 H8; have HR2 := hide (show rows2 = (mSt m L (clF m) k).rows ++ [pRowL m L (clF m) met s] from hr2); clear hr2; have p0 := (H8.out.cellC 3 rfl 0 rfl).1; have y0 := (H8.out.cellC 3 rfl 0 rfl).2; obtain ⟨A8, c8, rfl, -⟩ := hA7.form; clear hA7 h17 h27 hg7 ho7)
          have H9 := hide (H8.out.set 3 (w2.heap.size + 1) _ rfl 0 (.slice A8 rows2.length c8) (by simp))
          generalize hW8 : w7.setCell ⟨w2.heap.size + 1, 0, none⟩ (.slice A8 rows2.length c8) = W8 at *
          clear hW8 p0 y0 n0
          have hI9 := HMU.out.sints hn (show AppI w.heap.size W8 _ _ from H9.out.p 2 _ rfl)
          obtain ⟨ba, oa, rfl, hba, g1⟩ := hI9.at_ hpk
          rw [hpa] at g1
          have hpkI : (k : Int) < (pMet m L (clF m) met s 6).length := by omega
          have f0 := (H9.out.ext.cells _ _ hb2).trans (HF.out s hsn)
          have hb2W := Nat.lt_of_lt_of_le hb2 H9.out.ext.size
          have m1 := (H9.out.cellC 7 rfl 1 rfl).1
          have hmW : w.heap.size < W8.heap.size := (H9.out.d 7 _ rfl w.heap.size rfl).2
          have HPK := hide hpk
          clear hI9 hpa
          refine wp_region_ext (by kernel_rfl) (by kernel_rfl) ?_
          iterate 8 (apply quiet_val; (focus rfl); (focus (intro w' hw'; have hk' := hw'.cells; go_simp; all_goals exact rfl)); simp only [Act.put, List.setIfInBounds_toArray, List.set_cons_succ, List.set_cons_zero])
          refine wpQuiet_nil ?_
          intro w9 hx9
          have HA9 := hide (H9.out.grow hx9)
          clear g1 f0 m1 hmW hb2W hba hx9
          cases hf : mF m s with
          | false =>
            have HFS := hide hf
            clear hf
            go_wp2
            go_roundw
            case rel =>
              refine ⟨k + 1, .slice A8 rows2.length c8, .slice Af (mSt m L (clF m) k).fins.length cf, kb', by go_num, ?_, ?_, ?_⟩
              · rw [HNX.out]; exact HPK.out
              · rw [HNX.out]; simp; exact HRL.out
              · unfold MinSt
                rw [HNX.out, HFS.out, ← HR2.out]
                exact HA9.out
            case measure => simp [intOf]; omega
          | true =>
            have HFS := hide hf
            clear hf
            have n1 := (HA9.out.cellC 3 rfl 1 rfl).1
            have H10 := hide (HA9.out.grow ((Ext.refl _).alloc (.cells #[.int .i64 k] 3)))
            go_wp2_with (at_builtin; go_must (refine wpList_appIO _ rfl _ _ rfl w.heap.size _ (mSt m L (clF m) k).fins (k : Int) _ 1 rfl rfl (H10.out.p 0 _ rfl) (by go_simp) (by omega) (by have := H10.out.ext.size; exact this) ?_); intro v' w7 hA7 hg7 ho7; have H11 := hide (H10.out.appI 0 rfl hA7 hg7 ho7); obtain ⟨fins2, hr3⟩ : ∃ r2, r2 = (mSt m L (clF m) k).fins ++ [(k : Int)] := ⟨_, rfl⟩; rw [← hr3] at hA7 H11; have HR3 := hide hr3; clear hr3; have p1 := (H11.out.cellC 3 rfl 1 rfl).1; have y1 := (H11.out.cellC 3 rfl 1 rfl).2; obtain ⟨A9, c9, rfl, -⟩ := hA7.form; clear hA7 hg7 ho7)
            go_roundw
            case rel =>
              refine ⟨k + 1, .slice A8 rows2.length c8, .slice A9 fins2.length c9, kb', by go_num, ?_, ?_, ?_⟩
              rotate_left 2
              · unfold MinSt
                rw [HNX.out, HFS.out, ← HR2.out, if_pos rfl, ← HR3.out]
                exact H11.out.set 3 (w2.heap.size + 1) _ rfl 1 _ (by simp)
              · rw [HNX.out]; exact HPK.out
              · rw [HNX.out]; simp; exact HRL.out
            case measure => simp [intOf]; omega
    · have hke : k = (mSt m L (clF m) k).met.length := by omega
      have HE := hide (mEnd_of HMM.out (fun x => clF_le m x) hke)
      have hS : Apt w W0 _ := HS.out
      obtain ⟨An, cn, rfl, hcn⟩ := (show OwnW w.heap.size W0 vn (mSt m L (clF m) k).rows kb from hS.p 1 _ rfl).form
      obtain ⟨Af, cf, rfl, hcf⟩ := (show AppI w.heap.size W0 vf (mSt m L (clF m) k).fins from hS.p 0 _ rfl).form
      have n0 := (hS.cellC 3 rfl 0 rfl).1
      have n1 := (hS.cellC 3 rfl 1 rfl).1
      obtain ⟨r0, y0⟩ := hS.cellC 6 rfl 0 rfl
      obtain ⟨r1, y1⟩ := hS.cellC 6 rfl 1 rfl
      have hbo : w2.heap.size + 1 < W0.heap.size := (hS.d 3 _ rfl (w2.heap.size + 1) rfl).2
      have hrs : w.heap.size + 1 < W0.heap.size := (hS.d 6 _ rfl (w.heap.size + 1) rfl).2
      have HSS := hide hS
      have hkI : ¬ ((k : Int) < (mSt m L (clF m) k).met.length) := by omega
      have hcn9 : cn ≤ 9223372036854775807 := by
        obtain ⟨cells, q1, -⟩ := (show OwnW w.heap.size W0 (.slice An (mSt m L (clF m) k).rows.length cn) (mSt m L (clF m) k).rows kb from hS.p 1 _ rfl)
        rcases q1.2 with ⟨q2, -⟩ | ⟨g', cap', cur', q2, -, -, -, q3, -⟩
        · injection q2 with _ _ q2; omega
        · injection q2 with _ _ q2; unfold maxLen at q3; omega
      have hcf9 : cf ≤ 9223372036854775807 := by
        have q1 := (show AppI w.heap.size W0 (.slice Af (mSt m L (clF m) k).fins.length cf) (mSt m L (clF m) k).fins from hS.p 0 _ rfl)
        rcases q1.2 with ⟨q2, -⟩ | ⟨g', cap', cur', q2, -, -, -, q3, -⟩
        · injection q2 with _ _ q2; omega
        · injection q2 with _ _ q2; unfold maxLen at q3; omega
      have hfl : (mSt m L (clF m) k).fins.length ≤ k := (mSt_res m L (clF m) k).fl
      clear hS hke hI hmet
      by_cases h8 : (mSt m L (clF m) k).rows.length ≤ 8
      · have h8I : ¬ ((mSt m L (clF m) k).rows.length : Int) > 8 := by omega
        have H8 := hide h8
        clear h8
        go_wp2
        refine wp_region_any (by kernel_rfl) ?_
        change wpAny _ _ _ _ _ _ _ (World.drew _)
        refine wpAny_ix ((Ext.refl _).drew) 7 [0,1,2,3,4,5,6] [7,8] (by kernel_rfl) rfl ?_; simp only [nths, nth1]
        iterate 2 (apply quiet_val; (focus rfl); (focus (intro w' hw'; have hk' := hw'.cells; go_simp; all_goals exact rfl)); simp only [Act.put, List.setIfInBounds_toArray, List.set_cons_succ, List.set_cons_zero])
        apply quiet_call; (focus rfl); (focus (intro w' hw'; go_simp; all_goals (first | exact rfl | (apply And.intro <;> exact rfl))))
        · exact fun w' hw' => same_quiet (ClipR_any _ _ _ _ hcn hcn9) hw'
        (simp only [Act.put, List.setIfInBounds_toArray, List.set_cons_succ, List.set_cons_zero])
        iterate 2 (apply quiet_val; (focus rfl); (focus (intro w' hw'; have hk' := hw'.cells; go_simp; all_goals exact rfl)); simp only [Act.put, List.setIfInBounds_toArray, List.set_cons_succ, List.set_cons_zero])
        apply quiet_call; (focus rfl); (focus (intro w' hw'; go_simp; all_goals (first | exact rfl | (apply And.intro <;> exact rfl))))
        · exact fun w' hw' => same_quiet (Clip_any _ _ _ _ hcf hcf9) hw'
        (simp only [Act.put, List.setIfInBounds_toArray, List.set_cons_succ, List.set_cons_zero])
        (apply quiet_val; (focus rfl); (focus (intro w' hw'; have hk' := hw'.cells; go_simp; all_goals exact rfl)); simp only [Act.put, List.setIfInBounds_toArray, List.set_cons_succ, List.set_cons_zero])
        refine wpQuiet_nil ?_
        intro w9 hx9
        have H9 := hide (HSS.out.grow hx9)
        obtain ⟨r0, y0⟩ := H9.out.cellC 6 rfl 0 rfl
        obtain ⟨r1, y1⟩ := H9.out.cellC 6 rfl 1 rfl
        clear n0 n1 hbo hrs hx9
        go_wp2
        refine bodyPost_ret (v := .tuple #[.agg #[.slice An (mSt m L (clF m) k).rows.length (mSt m L (clF m) k).rows.length, .slice Af (mSt m L (clF m) k).fins.length (mSt m L (clF m) k).fins.length], .bool true]) ?res rfl ?_
        case res =>
          unfold results
          simp only [Try.f38]
          go_simp
        refine ⟨L, HLL.out, ?_⟩
        rw [← HE.out, MinI, if_pos H8.out]
        obtain ⟨-, -, -, -, hO⟩ := OutP.of_apt (((H9.out.set 6 (w.heap.size + 1) _ rfl 0 (.slice An (mSt m L (clF m) k).rows.length (mSt m L (clF m) k).rows.length) (by simp)).set 6 (w.heap.size + 1) _ rfl 1 (.slice Af (mSt m L (clF m) k).fins.length (mSt m L (clF m) k).fins.length) (by simp)).take 2) (by omega)
        exact ⟨_, _, _, _, rfl, hO⟩
      · have h8I : ((mSt m L (clF m) k).rows.length : Int) > 8 := by omega
        have H8 := hide h8
        clear h8
        go_wp2
        refine bodyPost_ret (v := .tuple #[.agg #[.slice none 0 0, .slice none 0 0], .bool false]) ?res rfl ?_
        case res =>
          unfold results
          simp only [Try.f38]
          go_simp
        refine ⟨L, HLL.out, ?_⟩
        rw [← HE.out, MinI, if_neg H8.out]
        exact ⟨rfl, ((HSS.out.set 6 (w.heap.size + 1) _ rfl 0 (.slice none 0 0) (by simp)).set 6 (w.heap.size + 1) _ rfl 1 (.slice none 0 0) (by simp)).ext⟩
end Go.Proofs.Ytdiedghaoleblaa
