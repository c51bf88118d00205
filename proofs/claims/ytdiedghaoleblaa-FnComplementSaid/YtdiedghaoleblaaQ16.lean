/- ComplementAutomaton, in the reference and in the program. -/
import Derived.Test.YtdiedghaoleblaaMcA
namespace Go.Proofs.Ytdiedghaoleblaa
open Go.RowKit

/-- The machine of all other words. -/
def negM (m : Mc) : Mc := ⟨m.nx, m.fin.map (fun b => !b)⟩
theorem negM_fin {m : Mc} (hm : MOk m) {i : Nat} (hi : i < m.nx.length) : mF (negM m) i = !mF m i := by
  unfold mF negM
  rw [getD_lt _ _ (by rw [List.length_map, hm.fl]; exact hi), getD_lt _ _ (by rw [hm.fl]; exact hi), List.getElem_map]
theorem negM_ok {m : Mc} (hm : MOk m) : MOk (negM m) := ⟨hm.pos, hm.le, by show (m.fin.map _).length = _; rw [List.length_map]; exact hm.fl, hm.six, hm.rng⟩
/-- The value of ComplementAutomaton. -/
def LimV (m : Mc) (ok : Bool) (rows : List (List Int)) (fins : List Int) : Prop :=
  ∃ r f, IsMin m r f ∧ if r.length ≤ 8 then ok = true ∧ rows = r ∧ fins = f else ok = false ∧ rows = [] ∧ fins = []
theorem LimV.uniq {m : Mc} (hm : MOk m) {ok ok' : Bool} {r r' : List (List Int)} {f f' : List Int} (h : LimV m ok r f) (h' : LimV m ok' r' f') : ok = ok' ∧ r = r' ∧ f = f' := by
  obtain ⟨r1, f1, h1, h2⟩ := h
  obtain ⟨r2, f2, h3, h4⟩ := h'
  obtain ⟨rfl, rfl⟩ := IsMin.uniq hm h1 h3
  split at h2
  · rename_i h8
    rw [if_pos h8] at h4
    exact ⟨h2.1.trans h4.1.symm, h2.2.1.trans h4.2.1.symm, h2.2.2.trans h4.2.2.symm⟩
  · rename_i h8
    rw [if_neg h8] at h4
    exact ⟨h2.1.trans h4.1.symm, h2.2.1.trans h4.2.1.symm, h2.2.2.trans h4.2.2.symm⟩
theorem LimV.ok {m : Mc} (hm : MOk m) {o : Bool} {r : List (List Int)} {f : List Int} (h : LimV m o r f) : OkA r f := by
  obtain ⟨r1, f1, h1, h2⟩ := h
  split at h2
  · obtain ⟨-, rfl, rfl⟩ := h2; exact h1.ok hm
  · obtain ⟨-, rfl, rfl⟩ := h2; exact OkA.nil_
def CmpV (a : Au) (ok : Bool) (rows : List (List Int)) (fins : List Int) : Prop :=
  if vAut a then LimV (negM (totM a)) ok rows fins else ok = false ∧ rows = [] ∧ fins = []
theorem CmpV.uniq {a : Au} {ok ok' : Bool} {r r' : List (List Int)} {f f' : List Int} (h : CmpV a ok r f) (h' : CmpV a ok' r' f') : ok = ok' ∧ r = r' ∧ f = f' := by
  unfold CmpV at h h'
  split at h
  · rename_i hv
    rw [if_pos hv] at h'
    exact h.uniq (negM_ok (totM_ok hv)) h'
  · rename_i hv
    rw [if_neg hv] at h'
    exact ⟨h.1.trans h'.1.symm, h.2.1.trans h'.2.1.symm, h.2.2.trans h'.2.2.symm⟩
theorem CmpV.ok {a : Au} {o : Bool} {r : List (List Int)} {f : List Int} (h : CmpV a o r f) : OkA r f := by
  unfold CmpV at h
  split at h
  · rename_i hv; exact h.ok (negM_ok (totM_ok hv))
  · obtain ⟨-, rfl, rfl⟩ := h; exact OkA.nil_
/-- The automaton, if it has at most eight states. -/
def limA (A A' : Option Addr) (n c n' c' : Nat) : Value := .tuple (if n ≤ 8 then #[.agg #[.slice A n c, .slice A' n' c'], .bool true] else #[.agg #[.slice none 0 0, .slice none 0 0], .bool false])
theorem limA_yes {A A' : Option Addr} {n c n' c' : Nat} (h : n ≤ 8) : limA A A' n c n' c' = .tuple #[.agg #[.slice A n c, .slice A' n' c'], .bool true] := by rw [limA, if_pos h]
theorem limA_no {A A' : Option Addr} {n c n' c' : Nat} (h : ¬ n ≤ 8) : limA A A' n c n' c' = .tuple #[.agg #[.slice none 0 0, .slice none 0 0], .bool false] := by rw [limA, if_neg h]
set_option maxHeartbeats 2000000 in
theorem limited_any (A A' : Option Addr) (n c n' c' : Nat) (w : World) :
    Calls Try.prog 50 #[.agg #[.slice A n c, .slice A' n' c']] w fun e w' => Ext w w' ∧ e = .returned (limA A A' n c n' c') := by
  have h0 := ((Apt.nil_ (Ext.refl w)).newC [.slice A n c, .slice A' n' c'] 26 rfl).newC [.slice none 0 0, .slice none 0 0] 26 rfl
  simp only [World.size_alloc] at h0
  have H0 := hide h0
  clear h0
  by_cases h8 : n ≤ 8
  · have h8I : ¬ ((n : Int) > 8) := by omega
    have H8 := hide h8
    clear h8
    go_enter Try.func50, Try.ntmps50
    go_wp2
    refine bodyPost_ret (v := .tuple #[.agg #[.slice A n c, .slice A' n' c'], .bool true]) ?res rfl ?_
    case res =>
      unfold results
      simp only [Try.f50]
      go_simp
    rw [limA_yes H8.out]
    exact ⟨by first | exact ((Ext.refl w).alloc _).alloc _ | exact ((H0.out.set 0 (w.heap.size + 1) _ rfl 0 _ (by simp)).set 0 (w.heap.size + 1) _ rfl 1 _ (by simp)).ext, rfl⟩
  · have h8I : (n : Int) > 8 := by omega
    have H8 := hide h8
    clear h8
    go_enter Try.func50, Try.ntmps50
    go_wp2
    refine bodyPost_ret (v := .tuple #[.agg #[.slice none 0 0, .slice none 0 0], .bool false]) ?res rfl ?_
    case res =>
      unfold results
      simp only [Try.f50]
      go_simp
    rw [limA_no H8.out]
    exact ⟨by first | exact ((Ext.refl w).alloc _).alloc _ | exact ((H0.out.set 0 (w.heap.size + 1) _ rfl 0 (.slice none 0 0) (by simp)).set 0 (w.heap.size + 1) _ rfl 1 (.slice none 0 0) (by simp)).ext, rfl⟩
/-- The first k bools turned. -/
def negF (L : Nat → Bool) (k j : Nat) : Bool := if j < k then !L j else L j
theorem negF_step (L : Nat → Bool) (k j : Nat) : (if j = k then !L k else negF L k j) = negF L (k + 1) j := by
  unfold negF
  by_cases e : j = k
  · subst e; rw [if_pos rfl, if_pos (by omega)]
  · rw [if_neg e]
    by_cases e2 : j < k
    · rw [if_pos e2, if_pos (by omega)]
    · rw [if_neg e2, if_neg (by omega)]
theorem RdB.congr {w : World} {g n cap : Nat} {L L' : Nat → Bool} (h : RdB w g n cap L) (hl : ∀ j, j < n → L j = L' j) : RdB w g n cap L' := ⟨h.1, h.2.choose, h.2.choose_spec.1, fun i hi => by rw [h.2.choose_spec.2 i hi, hl i hi]⟩
theorem RdB.ofApp {B : Nat} {w : World} {A : Option Addr} {n c : Nat} {bs : List Bool} (h : AppB B w (.slice A n c) bs) (hp : 0 < bs.length) : ∃ g, A = some ⟨g, 0, none⟩ ∧ n = bs.length ∧ RdB w g n c (fun i => bs.getD i false) := by
  rcases h.2 with ⟨h1, h2⟩ | ⟨g, cap, cur, h1, hg, hh, hnc, hm, hcs, htk⟩
  · omega
  · injection h1 with e1 e2 e3
    subst e1; subst e3
    refine ⟨g, rfl, e2, by omega, fun j => cur.getD j undef, ⟨cur, hh, by omega, fun i hi => by show _ = some (cur.getD i _); rw [Array.getD_eq_getD_getElem?, Array.getElem?_eq_getElem (by omega)]; rfl⟩, fun j hj => ?_⟩
    have e1 : (cur.toList.take (bs.length * 1))[j]? = (bs.map vB)[j]? := by rw [htk]
    have hj' : j < bs.length := by have := e2; omega
    rw [List.getElem?_take, if_pos (by omega), List.getElem?_map, List.getElem?_eq_getElem hj', Array.getElem?_toList] at e1
    show cur.getD j _ = _
    rw [Array.getD_eq_getD_getElem?, e1]
    show vB _ = .bool (bs.getD j false)
    rw [getD_lt _ _ hj']
    rfl
theorem Apt.setL {w0 W : World} {l : List Itm} (h : Apt w0 W l) (m : Nat) {g n cap : Nat} {L L' : Nat → Bool} (hn : l[m]? = some (iL g n cap L)) (i : Nat) (x : Bool) (hl : ∀ j, j < n → (if j = i then x else L j) = L' j) : Apt w0 (W.setCell ⟨g, i, none⟩ (.bool x)) (l.set m (iL g n cap L')) := by
  have hb : g < W.heap.size := (h.d m _ hn g rfl).2
  refine h.upd m _ _ hn ((Keep.refl _ W).set (fun _ hh => hh rfl) _) (((show RdB W g n cap L from h.p m _ hn).set i x).congr hl) (fun k hk => ⟨.inl hk, ?_⟩) (iL_st _ _ _ _)
  have : k = g := hk
  subst this
  simpa [World.setCell] using hb
end Go.Proofs.Ytdiedghaoleblaa
/- ComplementAutomaton of the reference. -/
namespace Go.Proofs.Ytdiedghaoleblaa
open Go.RowKit
set_option maxRecDepth 100000 in
set_option maxHeartbeats 8000000 in
theorem ComplementS_any (vn vf : Value) (a : Au) (w : World) (hN : SRows w vn a.next) (hF : SInts w vf a.final) :
    Calls Try.prog 19 #[.agg #[vn, vf]] w fun e w' => ∃ ok rows fins, CmpV a ok rows fins ∧ SpT ok rows fins w e w' := by
  have hN0 := hide hN
  have hF0 := hide hF
  obtain ⟨A, c, rfl, -, hln⟩ := hN.form
  obtain ⟨A', c', rfl, -, hlf⟩ := hF.form
  clear hN hF
  have h0 := ((Apt.nil_ (Ext.refl w)).newC [.slice A a.next.length c, .slice A' a.final.length c'] 26 rfl).newC [.slice none 0 0, .slice none 0 0] 26 rfl
  simp only [World.size_alloc] at h0
  have H0 := hide h0
  clear h0
  go_enter Try.func19, Try.ntmps19
  go_wp2_with fail
  refine (validAutomaton_any _ _ a _ (hN0.out.ext H0.out.ext) (hF0.out.ext H0.out.ext)).mono ?_
  rintro e w1 ⟨rfl, hx1⟩
  have H1 := hide (H0.out.grow hx1)
  have a0 := (H1.out.cellC 1 rfl 0 rfl).1
  have a1 := (H1.out.cellC 1 rfl 1 rfl).1
  clear hx1
  cases hv : vAut a with
  | false =>
    obtain ⟨r0, y0⟩ := H1.out.cellC 0 rfl 0 rfl
    obtain ⟨r1, y1⟩ := H1.out.cellC 0 rfl 1 rfl
    have HV := hide hv
    clear hv
    go_wp2
    refine bodyPost_ret (v := .tuple #[.agg #[.slice none 0 0, .slice none 0 0], .bool false]) ?res rfl ?_
    case res =>
      unfold results
      simp only [Try.f19]
      go_simp
    refine ⟨false, [], [], ?_, _, _, rfl, SRows.nil0 _, SInts.nil0 _, ((H1.out.set 0 (w.heap.size + 1) _ rfl 0 (.slice none 0 0) (by simp)).set 0 (w.heap.size + 1) _ rfl 1 (.slice none 0 0) (by simp)).ext⟩
    unfold CmpV
    rw [if_neg (by rw [HV.out]; simp)]
    exact ⟨rfl, rfl, rfl⟩
  | true =>
    have HV := hide hv
    have HM := hide (totM_ok hv)
    clear hv
    go_wp2_with fail
    refine (total2_any _ _ a _ (hN0.out.ext H1.out.ext) (hF0.out.ext H1.out.ext) HV.out).mono ?_
    rintro e w2 ⟨vn2, vf2, kb, rfl, hA2⟩
    generalize htm : totM a = m at *
    have HTM := hide htm
    clear htm
    have hn := HM.out.le
    have HFL := hide HM.out.fl
    have hfb : m.fin.length ≤ 100 := by have := HFL.out; omega
    have hpos := HM.out.pos
    obtain ⟨An, cn, rfl, hcn⟩ := (show OwnW w1.heap.size w2 vn2 m.nx kb from hA2.p 1 _ rfl).form
    have hB2 := (show AppB w1.heap.size w2 vf2 m.fin from hA2.p 0 _ rfl)
    obtain ⟨Af, cf, rfl, hcf⟩ := hB2.form
    obtain ⟨g, rfl, -, hRB⟩ := RdB.ofApp hB2 (by have := HFL.out; omega)
    have H2 := hide (H1.out.grow hA2.ext)
    have hA2' := hA2.upd 0 _ (iL g m.fin.length cf (mF m)) rfl (Keep.refl _ _) hRB (fun k hk => by have e : k = g := hk; subst e; exact ⟨.inl rfl, (hA2.d 0 _ rfl k rfl).2⟩) (iL_st _ _ _ _)
    have HA2 := hide ((show Apt w1 w2 [iL g m.fin.length cf (mF m), iW w1.heap.size (.slice An m.nx.length cn) m.nx kb] from hA2').newC [.slice An m.nx.length cn, .slice (some ⟨g, 0, none⟩) m.fin.length cf] 59 rfl)
    have HMN := hide (negM_ok HM.out)
    clear hA2 hB2 hRB hA2' a0 a1
    go_wp2
    go_loopw [5] (fun i wr => ∃ k : Nat, i = .int .i64 k ∧ k ≤ m.fin.length ∧ Apt w1 wr [iC w2.heap.size [.slice An m.nx.length cn, .slice (some ⟨g, 0, none⟩) m.fin.length cf], iL g m.fin.length cf (negF (mF m) k), iW w1.heap.size (.slice An m.nx.length cn) m.nx kb]) (fun i _ => m.fin.length - (intOf i).toNat)
    case atStart => exact ⟨0, rfl, by omega, HA2.out⟩
    case round =>
      obtain ⟨k, rfl, hk, hA⟩ := hrel
      have HA := hide hA
      have m0 := (hA.cellC 0 rfl 0 rfl).1
      have m1 := (hA.cellC 0 rfl 1 rfl).1
      have hmW : w2.heap.size < wr.heap.size := (hA.d 0 _ rfl w2.heap.size rfl).2
      by_cases hlt : k < m.fin.length
      · have hkI : (k : Int) < m.fin.length := by omega
        obtain ⟨c0, z0, hgW⟩ := (show RdB wr g m.fin.length cf _ from hA.p 1 _ rfl).cell hlt
        rw [show negF (mF m) k k = mF m k by unfold negF; rw [if_neg (by omega)]] at c0
        clear hA
        go_wp2
        refine wp_region_any (by kernel_rfl) ?_
        change wpAny _ _ _ _ _ _ _ (World.drew _)
        refine wpAny_ix ((Ext.refl _).drew) 10 [0,1,2,3,4,5,6,7,8,9] [10] (by kernel_rfl) rfl ?_; simp only [nths, nth1]
        iterate 10 (apply quiet_val; (focus rfl); (focus (intro w' hw'; have hk' := hw'.cells; go_simp; all_goals exact rfl)); simp only [Act.put, List.setIfInBounds_toArray, List.set_cons_succ, List.set_cons_zero])
        refine wpQuiet_nil ?_
        intro w5 hx5
        have H5 := hide (HA.out.grow hx5)
        obtain ⟨c0, z0, hgW⟩ := (show RdB w5 g m.fin.length cf _ from H5.out.p 1 _ rfl).cell hlt
        clear m0 m1 hmW hx5
        go_wp2
        go_roundw
        case rel => exact ⟨k + 1, by go_num, by omega, H5.out.setL 1 rfl k (!mF m k) (fun j _ => negF_step _ _ _)⟩
        case measure => simp [intOf]; omega
      · obtain rfl : k = m.fin.length := by omega
        have hRM : RdM wr (.slice An m.nx.length cn) (.slice (some ⟨g, 0, none⟩) m.fin.length cf) (negM m) := by
          have hrb := (show RdB wr g m.fin.length cf _ from hA.p 1 _ rfl)
          have q := HMN.out.okRows
          have := RdM.of (c := cf) (off := 0) (b := g) HMN.out ((show OwnW w1.heap.size wr _ m.nx kb from hA.p 2 _ rfl).rows q.1 q.2.1 q.2.2) (by show m.nx.length ≤ _; have := HFL.out; omega) (hA.d 1 _ rfl g rfl).2 (fun s hs => by
            have hs' : s < m.nx.length := hs
            rw [Nat.zero_add, (hrb.cell (i := s) (by have := HFL.out; omega)).1, negM_fin HM.out hs', negF, if_pos (by have := HFL.out; omega)])
          rw [HFL.out]
          exact this
        have HRM := hide hRM
        have H3 := hide (H1.out.grow hA.ext)
        clear hA hRM
        go_wp2_with fail
        refine (minimalS_any _ _ _ _ HRM.out).mono ?_
        rintro e w3 ⟨L, hL, vn3, vf3, kb3, rfl, hA3⟩
        have H3 := hide (H3.out.grow hA3.ext)
        have hres : w.heap.size + 1 < wr.heap.size := by have := hA3.ext; exact (by have := (H1.out.d 0 _ rfl (w.heap.size + 1) rfl).2; have := HA.out.ext.size; omega)
        have hOW := (show OwnW wr.heap.size w3 vn3 _ kb3 from hA3.p 0 _ rfl)
        obtain ⟨A3, c3, rfl, -⟩ := hOW.form
        have hOI := (show AppI wr.heap.size w3 vf3 _ from hA3.p 1 _ rfl)
        obtain ⟨A4, c4, rfl, -⟩ := hOI.form
        obtain ⟨rows, hrows⟩ : ∃ rows, rows = (mEnd (negM m) L (clF (negM m))).rows := ⟨_, rfl⟩
        obtain ⟨fins, hfins⟩ : ∃ fins, fins = (mEnd (negM m) L (clF (negM m))).fins := ⟨_, rfl⟩
        rw [← hrows, ← hfins] at hA3 ⊢
        have HA3 := hide hA3
        have HI := hide (show IsMin (negM m) rows fins from ⟨L, hL, hrows, hfins⟩)
        clear hA3 hL hrows hfins hOW hOI
        go_wp2_with fail
        refine (limited_any A3 A4 rows.length c3 fins.length c4 _).mono ?_
        rintro e w4 ⟨hx4, rfl⟩
        have H4 := hide (H3.out.grow hx4)
        have HA4 := hide (HA3.out.grow hx4)
        obtain ⟨r0, y0⟩ := H4.out.cellC 0 rfl 0 rfl
        obtain ⟨r1, y1⟩ := H4.out.cellC 0 rfl 1 rfl
        have hok := HI.out.ok HMN.out
        have HOK := hide hok
        clear hx4 hok m0 m1
        by_cases h8 : rows.length ≤ 8
        · have HC := hide (show CmpV a true rows fins by unfold CmpV; rw [if_pos HV.out, HTM.out]; exact ⟨rows, fins, HI.out, by rw [if_pos h8]; exact ⟨rfl, rfl, rfl⟩⟩)
          rw [limA_yes h8]
          clear h8
          go_wp2
          refine bodyPost_ret (v := .tuple #[.agg #[.slice A3 rows.length c3, .slice A4 fins.length c4], .bool true]) ?res rfl ?_
          case res =>
            unfold results
            simp only [Try.f19]
            go_simp
          refine ⟨true, rows, fins, HC.out, _, _, rfl, ?_, ?_, ((H4.out.set 0 (w.heap.size + 1) _ rfl 0 _ (by simp)).set 0 (w.heap.size + 1) _ rfl 1 _ (by simp)).ext⟩
          · exact (show OwnW wr.heap.size _ _ rows kb3 from HA4.out.far (i := 0) rfl hres _ _).rows HOK.out.rows.1 HOK.out.rows.2.1 HOK.out.rows.2.2
          · exact (show AppI wr.heap.size _ _ fins from HA4.out.far (i := 1) rfl hres _ _).sints (by have := HOK.out.fl; omega) HOK.out.i64
        · have HC := hide (show CmpV a false [] [] by unfold CmpV; rw [if_pos HV.out, HTM.out]; exact ⟨rows, fins, HI.out, by rw [if_neg h8]; exact ⟨rfl, rfl, rfl⟩⟩)
          rw [limA_no h8]
          clear h8
          go_wp2
          refine bodyPost_ret (v := .tuple #[.agg #[.slice none 0 0, .slice none 0 0], .bool false]) ?res rfl ?_
          case res =>
            unfold results
            simp only [Try.f19]
            go_simp
          exact ⟨false, [], [], HC.out, _, _, rfl, SRows.nil0 _, SInts.nil0 _, ((H4.out.set 0 (w.heap.size + 1) _ rfl 0 (.slice none 0 0) (by simp)).set 0 (w.heap.size + 1) _ rfl 1 (.slice none 0 0) (by simp)).ext⟩
end Go.Proofs.Ytdiedghaoleblaa
/- ComplementAutomaton of the program. -/
namespace Go.Proofs.Ytdiedghaoleblaa
open Go.RowKit

/-- All blocks from B on that W0 has, but one: they are as in W0. -/
def iZ (B g : Nat) (W0 : World) : Itm := ⟨fun k => B ≤ k ∧ k < W0.heap.size ∧ k ≠ g, fun W => ∀ k, B ≤ k → k < W0.heap.size → k ≠ g → W.heap[k]? = W0.heap[k]?⟩
theorem iZ_st (B g : Nat) (W0 : World) : (iZ B g W0).St := by
  intro W W' h hk k h1 h2 h3
  have h4 := h k h1 h2 h3
  have h5 : k < W.heap.size := by
    rw [Array.getElem?_eq_getElem h2] at h4
    exact (Array.getElem?_eq_some_iff.1 h4).1
  exact (hk.block k h5 ⟨h1, h2, h3⟩).trans h4
theorem RowV.keepZ {B g : Nat} {W0 W : World} {v : Value} {xs : List Int} {n : Nat} {f : Nat → Value} (h : RowV B W0 v xs) (hr : W0.rowIs g 4 n f) (hz : ∀ k, B ≤ k → k < W0.heap.size → k ≠ g → W.heap[k]? = W0.heap[k]?) : RowV B W v xs := by
  obtain ⟨g1, cap, f1, h1, h2, h3, ⟨c, h4, h5⟩, h6⟩ := h
  obtain ⟨c2, hb2, -⟩ := hr
  have hne : g1 ≠ g := by
    rintro rfl
    rw [hb2] at h4
    injection h4 with h4
    injection h4 with _ h4
    exact absurd h4 (by decide)
  exact ⟨g1, cap, f1, h1, h2, h3, ⟨c, (hz g1 h2 (Array.getElem?_eq_some_iff.1 h4).1 hne).trans h4, h5⟩, h6⟩
theorem AppR.keepZ {B g : Nat} {W0 W : World} {v : Value} {rs : List (List Int)} {n : Nat} {f : Nat → Value} (h : AppR B W0 v rs) (hr : W0.rowIs g 4 n f) (hz : ∀ k, B ≤ k → k < W0.heap.size → k ≠ g → W.heap[k]? = W0.heap[k]?) : AppR B W v rs := by
  obtain ⟨cells, h1, h2⟩ := h
  refine ⟨cells, ⟨h1.1, ?_⟩, fun i hi => ?_⟩
  · rcases h1.2 with hn | ⟨g1, cap, cur, e, hb, hgg, rest⟩
    · exact .inl hn
    · have hne : g1 ≠ g := by
        rintro rfl
        obtain ⟨c2, hb2, -⟩ := hr
        rw [hb2] at hgg
        injection hgg with hgg
        injection hgg with _ hgg
        exact absurd hgg (by decide)
      exact .inr ⟨g1, cap, cur, e, hb, (hz g1 hb (Array.getElem?_eq_some_iff.1 hgg).1 hne).trans hgg, rest⟩
  · obtain ⟨cv, h3, h4⟩ := h2 i hi
    exact ⟨cv, h3, h4.keepZ hr hz⟩
/-- The program's machine: its row of bools may be written. -/
theorem NewMach.to {a : Au} {w w' : World} {e : Ending} (hv : vAut a = true) (h : NewMach a w e w') :
    ∃ A n c g, e = .returned (.agg #[.slice A n c, .slice (some ⟨g, 0, none⟩) n n]) ∧ n = (totM a).nx.length ∧ Apt w w' [iL g n n (mF (totM a)), iZ w.heap.size g w'] ∧
      ∀ W, (iZ w.heap.size g w').P W → SRows W (.slice A n c) (totM a).nx := by
  obtain ⟨vn, b, he, hA, hb, hr, hx⟩ := h
  have hm := totM_ok hv
  obtain ⟨q1, q2, q3⟩ := hm.okRows
  obtain ⟨A, c, rfl, hc⟩ := hA.form
  rw [mRows_len] at he hc
  refine ⟨A, a.next.length + 1, c, b, he, (totM_len a).symm, ⟨fun i x hi => ?_, fun i x hi k hk => ?_, fun i x hi => ?_, fun i j x y hi hj hij k hx hy => ?_, hx⟩, fun W hW => ?_⟩
  · match i, hi with
    | 0, hi =>
      injection hi with hi; subst hi
      exact ⟨Nat.le_refl _, _, hr, fun i hi => by rw [mFin, List.take_length, totM_fin a hi]⟩
    | 1, hi => injection hi with hi; subst hi; exact fun k _ _ _ => rfl
  · match i, hi with
    | 0, hi =>
      injection hi with hi; subst hi
      have e : k = b := hk
      subst e
      exact ⟨hb, hr.lt⟩
    | 1, hi => injection hi with hi; subst hi; exact ⟨hk.1, hk.2.1⟩
  · match i, hi with
    | 0, hi => injection hi with hi; subst hi; exact iL_st _ _ _ _
    | 1, hi => injection hi with hi; subst hi; exact iZ_st _ _ _
  · match i, j, hi, hj with
    | 0, 0, _, _ => exact hij rfl
    | 1, 1, _, _ => exact hij rfl
    | 0, 1, hi, hj => injection hi with hi; injection hj with hj; subst hi; subst hj; exact hy.2.2 hx
    | 1, 0, hi, hj => injection hi with hi; injection hj with hj; subst hi; subst hj; exact hx.2.2 hy
  · have := (hA.keepZ hr hW).rows q1 q2 q3
    rwa [mRows_len] at this
set_option maxRecDepth 100000 in
set_option maxHeartbeats 8000000 in
theorem ComplementI_any (vn vf : Value) (a : Au) (w : World) (hN : SRows w vn a.next) (hF : SInts w vf a.final) :
    Calls Try.prog 18 #[.agg #[vn, vf]] w fun e w' => ∃ ok rows fins, CmpV a ok rows fins ∧ OutT ok rows fins w e w' := by
  have hN0 := hide hN
  have hF0 := hide hF
  obtain ⟨A, c, rfl, -, hln⟩ := hN.form
  obtain ⟨A', c', rfl, -, hlf⟩ := hF.form
  clear hN hF
  have h0 := ((Apt.nil_ (Ext.refl w)).newC [.slice A a.next.length c, .slice A' a.final.length c'] 26 rfl).newC [.slice none 0 0, .slice none 0 0] 26 rfl
  simp only [World.size_alloc] at h0
  have H0 := hide h0
  clear h0
  go_enter Try.func18, Try.ntmps18
  go_wp2_with fail
  refine (ValidAutomatonI_any _ _ a _ (hN0.out.ext H0.out.ext) (hF0.out.ext H0.out.ext)).mono ?_
  rintro e w1 ⟨rfl, hx1⟩
  have H1 := hide (H0.out.grow hx1)
  have a0 := (H1.out.cellC 1 rfl 0 rfl).1
  have a1 := (H1.out.cellC 1 rfl 1 rfl).1
  clear hx1
  cases hv : vAut a with
  | false =>
    obtain ⟨r0, y0⟩ := H1.out.cellC 0 rfl 0 rfl
    obtain ⟨r1, y1⟩ := H1.out.cellC 0 rfl 1 rfl
    have HV := hide hv
    clear hv
    go_wp2
    refine bodyPost_ret (v := .tuple #[.agg #[.slice none 0 0, .slice none 0 0], .bool false]) ?res rfl ?_
    case res =>
      unfold results
      simp only [Try.f18]
      go_simp
    refine ⟨false, [], [], ?_, none, 0, none, 0, rfl, OutP.nil_ ((H1.out.set 0 (w.heap.size + 1) _ rfl 0 (.slice none 0 0) (by simp)).set 0 (w.heap.size + 1) _ rfl 1 (.slice none 0 0) (by simp)).ext⟩
    unfold CmpV
    rw [if_neg (by rw [HV.out]; simp)]
    exact ⟨rfl, rfl, rfl⟩
  | true =>
    have HV := hide hv
    have HM := hide (totM_ok hv)
    clear hv
    go_wp2_with fail
    refine (machineOf_any _ _ a _ (hN0.out.ext H1.out.ext) (hF0.out.ext H1.out.ext) HV.out).mono ?_
    intro e w2 hnm
    obtain ⟨An, n, cn, g, rfl, hnn, hA2, hSR⟩ := hnm.to HV.out
    have HSR := hide hSR
    generalize htm : totM a = m at *
    have HTM := hide htm
    have HNN := hide hnn
    clear htm
    have hnb : n ≤ 100 := by have := HM.out.le; omega
    have hpos : 0 < n := by have := HM.out.pos; omega
    have H2 := hide (H1.out.grow hA2.ext)
    have HA2 := hide (hA2.newC [.slice An n cn, .slice (some ⟨g, 0, none⟩) n n] 54 rfl)
    have HMN := hide (negM_ok HM.out)
    clear hA2 a0 a1 hnm hSR hnn
    go_wp2
    go_loopw [16] (fun i wr => ∃ k : Nat, i = .int .i64 k ∧ k ≤ n ∧ Apt w1 wr [iC w2.heap.size [.slice An n cn, .slice (some ⟨g, 0, none⟩) n n], iL g n n (negF (mF m) k), iZ w1.heap.size g w2]) (fun i _ => n - (intOf i).toNat)
    case atStart => exact ⟨0, rfl, by omega, HA2.out⟩
    case round =>
      obtain ⟨k, rfl, hk, hA⟩ := hrel
      have HA := hide hA
      have m0 := (hA.cellC 0 rfl 0 rfl).1
      have m1 := (hA.cellC 0 rfl 1 rfl).1
      have hmW : w2.heap.size < wr.heap.size := (hA.d 0 _ rfl w2.heap.size rfl).2
      by_cases hlt : k < n
      · have hkI : (k : Int) < n := by omega
        obtain ⟨c0, z0, hgW⟩ := (show RdB wr g n n _ from hA.p 1 _ rfl).cell hlt
        rw [show negF (mF m) k k = mF m k by unfold negF; rw [if_neg (by omega)]] at c0
        clear hA
        go_wp2
        go_roundw
        case rel => exact ⟨k + 1, by go_num, by omega, HA.out.setL 1 rfl k (!mF m k) (fun j _ => negF_step _ _ _)⟩
        case measure => simp [intOf]; omega
      · obtain rfl : k = n := by omega
        have hRM : RdM wr (.slice An k cn) (.slice (some ⟨g, 0, none⟩) k k) (negM m) := by
          have hrb := (show RdB wr g k k _ from hA.p 1 _ rfl)
          have e := HNN.out
          have := RdM.of (c := k) (off := 0) (b := g) HMN.out (HSR.out _ (hA.p 2 _ rfl)) (by show m.nx.length ≤ _; omega) (hA.d 1 _ rfl g rfl).2 (fun s hs => by
            have hs' : s < m.nx.length := hs
            rw [Nat.zero_add, (hrb.cell (i := s) (by omega)).1, negM_fin HM.out hs', negF, if_pos (by omega)])
          rw [show (negM m).nx.length = k from e.symm] at this
          exact this
        have HRM := hide hRM
        have H3 := hide (H1.out.grow hA.ext)
        clear hA hRM
        go_wp2_with fail
        refine (minimalI_any _ _ _ _ HRM.out).mono ?_
        rintro e w3 ⟨L, hL, hmi⟩
        obtain ⟨rows, hrows⟩ : ∃ rows, rows = (mEnd (negM m) L (clF (negM m))).rows := ⟨_, rfl⟩
        obtain ⟨fins, hfins⟩ : ∃ fins, fins = (mEnd (negM m) L (clF (negM m))).fins := ⟨_, rfl⟩
        rw [← hrows, ← hfins] at hmi
        have HI := hide (show IsMin (negM m) rows fins from ⟨L, hL, hrows, hfins⟩)
        have hres : w.heap.size + 1 < wr.heap.size := by have := (H1.out.d 0 _ rfl (w.heap.size + 1) rfl).2; have := HA.out.ext.size; omega
        by_cases h8 : rows.length ≤ 8
        · rw [MinI, if_pos h8] at hmi
          have HC := hide (show CmpV a true rows fins by unfold CmpV; rw [if_pos HV.out, HTM.out]; exact ⟨rows, fins, HI.out, by rw [if_pos h8]; exact ⟨rfl, rfl, rfl⟩⟩)
          obtain ⟨A3, c3, A4, c4, rfl, hO⟩ := hmi
          have HO := hide hO
          have hx3 : Ext wr w3 := by obtain ⟨-, -, -, -, -, -, -, -, -, hx⟩ := hO; exact hx
          have H4 := hide (H3.out.grow hx3)
          obtain ⟨r0, y0⟩ := H4.out.cellC 0 rfl 0 rfl
          obtain ⟨r1, y1⟩ := H4.out.cellC 0 rfl 1 rfl
          clear hL hrows hfins hO hx3 h8 m0 m1
          go_wp2
          refine bodyPost_ret (v := .tuple #[.agg #[.slice A3 rows.length c3, .slice A4 fins.length c4], .bool true]) ?res rfl ?_
          case res =>
            unfold results
            simp only [Try.f18]
            go_simp
          exact ⟨true, rows, fins, HC.out, A3, c3, A4, c4, rfl, HO.out.far H3.out.ext (by omega) hres _ _⟩
        · rw [MinI, if_neg h8] at hmi
          obtain ⟨rfl, hx3⟩ := hmi
          have HC := hide (show CmpV a false [] [] by unfold CmpV; rw [if_pos HV.out, HTM.out]; exact ⟨rows, fins, HI.out, by rw [if_neg h8]; exact ⟨rfl, rfl, rfl⟩⟩)
          have H4 := hide (H3.out.grow hx3)
          obtain ⟨r0, y0⟩ := H4.out.cellC 0 rfl 0 rfl
          obtain ⟨r1, y1⟩ := H4.out.cellC 0 rfl 1 rfl
          clear hL hrows hfins hx3 h8 m0 m1
          go_wp2
          refine bodyPost_ret (v := .tuple #[.agg #[.slice none 0 0, .slice none 0 0], .bool false]) ?res rfl ?_
          case res =>
            unfold results
            simp only [Try.f18]
            go_simp
          exact ⟨false, [], [], HC.out, none, 0, none, 0, rfl, OutP.nil_ ((H4.out.set 0 (w.heap.size + 1) _ rfl 0 (.slice none 0 0) (by simp)).set 0 (w.heap.size + 1) _ rfl 1 (.slice none 0 0) (by simp)).ext⟩
end Go.Proofs.Ytdiedghaoleblaa
