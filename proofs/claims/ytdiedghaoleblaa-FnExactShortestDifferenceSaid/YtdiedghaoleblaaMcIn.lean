/- IntersectAutomata, in the reference and in the program. -/
import Derived.Test.YtdiedghaoleblaaMcWi
import Derived.Deep.RegionHeld3
namespace Go.Proofs.Ytdiedghaoleblaa
open Go.RowKit

theorem pr2_le {a b : Au} (ha : vAut a = true) (hb : vAut b = true) : (totM a).nx.length * (totM b).nx.length ≤ 100 := by
  have h1 := vAut_len ha
  have h2 := vAut_len hb
  have h3 : (totM a).nx.length ≤ 9 := by rw [totM_len]; omega
  have h4 : (totM b).nx.length ≤ 9 := by rw [totM_len]; omega
  exact Nat.le_trans (Nat.mul_le_mul h3 h4) (by omega)
/-- The value of IntersectAutomata. -/
def IntV (a b : Au) (ok : Bool) (rows : List (List Int)) (fins : List Int) : Prop :=
  if vAut a = true ∧ vAut b = true then LimV (prM and (totM a) (totM b)) ok rows fins else ok = false ∧ rows = [] ∧ fins = []
theorem IntV.uniq {a b : Au} {ok ok' : Bool} {r r' : List (List Int)} {f f' : List Int} (h : IntV a b ok r f) (h' : IntV a b ok' r' f') : ok = ok' ∧ r = r' ∧ f = f' := by
  unfold IntV at h h'
  split at h
  · rename_i hv
    rw [if_pos hv] at h'
    exact h.uniq (prM_ok and (totM_ok hv.1) (totM_ok hv.2) (pr2_le hv.1 hv.2)) h'
  · rename_i hv
    rw [if_neg hv] at h'
    exact ⟨h.1.trans h'.1.symm, h.2.1.trans h'.2.1.symm, h.2.2.trans h'.2.2.symm⟩
theorem IntV.ok {a b : Au} {o : Bool} {r : List (List Int)} {f : List Int} (h : IntV a b o r f) : OkA r f := by
  unfold IntV at h
  split at h
  · rename_i hv; exact h.ok (prM_ok and (totM_ok hv.1) (totM_ok hv.2) (pr2_le hv.1 hv.2))
  · obtain ⟨-, rfl, rfl⟩ := h; exact OkA.nil_
theorem IntV.no {a b : Au} (h : vAut a = false ∨ vAut b = false) : IntV a b false [] [] := by
  unfold IntV
  rw [if_neg (by rcases h with h | h <;> rw [h] <;> simp)]
  exact ⟨rfl, rfl, rfl⟩
theorem OutP.ext {rows : List (List Int)} {fins : List Int} {w w' : World} {A A' : Option Addr} {c c' : Nat} (h : OutP rows fins w w' A c A' c') : Ext w w' := by obtain ⟨-, -, -, -, -, -, -, -, -, hx⟩ := h; exact hx
/-- Rows and final states stand in every world that agrees from B on. -/
def SpF (B : Nat) (w' : World) (vn vf : Value) (rows : List (List Int)) (fins : List Int) : Prop := ∀ W, Keep (fun k => B ≤ k) w' W → SRows W vn rows ∧ SInts W vf fins
theorem SpF.ext {B : Nat} {w' w2 : World} {vn vf : Value} {rows : List (List Int)} {fins : List Int} (h : SpF B w' vn vf rows fins) (hx : Ext w' w2) : SpF B w2 vn vf rows fins := fun W hW => h W ((hx.keep _).trans hW)
theorem SpF.nil_ (B : Nat) (w' : World) : SpF B w' (.slice none 0 0) (.slice none 0 0) [] [] := fun W _ => ⟨SRows.nil0 W, SInts.nil0 W⟩
/-- minimal and limited, in one form. -/
def MinS2 (m : Mc) (w : World) (e : Ending) (w' : World) : Prop :=
  ∃ A c A' c' rows fins, e = .returned (.agg #[.slice A rows.length c, .slice A' fins.length c']) ∧ IsMin m rows fins ∧ SpF w.heap.size w' (.slice A rows.length c) (.slice A' fins.length c') rows fins ∧ Ext w w'
theorem minimalS2_any (vn vf : Value) (m : Mc) (w : World) (hM : RdM w vn vf m) : Calls Try.prog 40 #[.agg #[vn, vf]] w (MinS2 m w) := by
  have hmo : MOk m := by obtain ⟨_, _, _, _, _, _, _, _, _, _, _, _, _, _, h⟩ := hM; exact h
  refine (minimalS_any vn vf m w hM).mono ?_
  rintro e w3 ⟨L, hL, vn3, vf3, kb3, rfl, hA3⟩
  have HI : IsMin m (mEnd m L (clF m)).rows (mEnd m L (clF m)).fins := ⟨L, hL, rfl, rfl⟩
  have hok := HI.ok hmo
  have hOW := (show OwnW w.heap.size w3 vn3 _ kb3 from hA3.p 0 _ rfl)
  obtain ⟨A3, c3, rfl, -⟩ := hOW.form
  have hOI := (show AppI w.heap.size w3 vf3 _ from hA3.p 1 _ rfl)
  obtain ⟨A4, c4, rfl, -⟩ := hOI.form
  refine ⟨A3, c3, A4, c4, _, _, rfl, HI, fun W hW => ⟨?_, ?_⟩, hA3.ext⟩
  · exact (show OwnW w.heap.size W _ _ kb3 from hA3.s 0 _ rfl _ _ (hA3.p 0 _ rfl) (hW.mono (fun k _ hk => (hA3.d 0 _ rfl k hk).1))).rows hok.rows.1 hok.rows.2.1 hok.rows.2.2
  · exact (show AppI w.heap.size W _ _ from hA3.s 1 _ rfl _ _ (hA3.p 1 _ rfl) (hW.mono (fun k _ hk => (hA3.d 1 _ rfl k hk).1))).sints (by have := hok.fl; omega) hok.i64
/-- What the reference's function hands back; it stands whatever is written below B. -/
def SpT2 (B : Nat) (ok : Bool) (rows : List (List Int)) (fins : List Int) (w : World) (e : Ending) (w' : World) : Prop :=
  ∃ A c A' c', e = .returned (.tuple #[.agg #[.slice A rows.length c, .slice A' fins.length c'], .bool ok]) ∧ SpF B w' (.slice A rows.length c) (.slice A' fins.length c') rows fins ∧ Ext w w'
theorem limited2_any (A A' : Option Addr) (c c' B : Nat) (m : Mc) (rows : List (List Int)) (fins : List Int) (w : World) (HI : IsMin m rows fins) (hS : SpF B w (.slice A rows.length c) (.slice A' fins.length c') rows fins) :
    Calls Try.prog 50 #[.agg #[.slice A rows.length c, .slice A' fins.length c']] w fun e w' => ∃ ok r f, LimV m ok r f ∧ SpT2 B ok r f w e w' := by
  refine (limited_any A A' rows.length c fins.length c' w).mono ?_
  rintro e w' ⟨hx, rfl⟩
  by_cases h8 : rows.length ≤ 8
  · rw [limA_yes h8]
    exact ⟨true, rows, fins, ⟨rows, fins, HI, by rw [if_pos h8]; exact ⟨rfl, rfl, rfl⟩⟩, _, _, _, _, rfl, hS.ext hx, hx⟩
  · rw [limA_no h8]
    exact ⟨false, [], [], ⟨rows, fins, HI, by rw [if_neg h8]; exact ⟨rfl, rfl, rfl⟩⟩, none, 0, none, 0, rfl, SpF.nil_ _ _, hx⟩
theorem RdM.new {w : World} {m : Mc} {e : Ending} {w' : World} (h : NewMc m w e w') : ∃ vn vf, e = .returned (.agg #[vn, vf]) ∧ RdM w' vn vf m ∧ Ext w w' := h
theorem MinI.lim {m : Mc} {w w' : World} {e : Ending} (h : ∃ L : Nat → Bool, (∀ x, x < m.nx.length → (L x = true ↔ Live m x)) ∧ MinI (mEnd m L (clF m)).rows (mEnd m L (clF m)).fins w e w') : ∃ ok r f, LimV m ok r f ∧ OutT ok r f w e w' := by
  obtain ⟨L, hL, h⟩ := h
  have HI : IsMin m (mEnd m L (clF m)).rows (mEnd m L (clF m)).fins := ⟨L, hL, rfl, rfl⟩
  unfold MinI at h
  split at h
  · rename_i h8
    obtain ⟨A3, c3, A4, c4, rfl, hO⟩ := h
    exact ⟨true, _, _, ⟨_, _, HI, by rw [if_pos h8]; exact ⟨rfl, rfl, rfl⟩⟩, A3, c3, A4, c4, rfl, hO⟩
  · rename_i h8
    obtain ⟨rfl, hx⟩ := h
    exact ⟨false, [], [], ⟨_, _, HI, by rw [if_neg h8]; exact ⟨rfl, rfl, rfl⟩⟩, none, 0, none, 0, rfl, OutP.nil_ hx⟩
/-- What a statement over two boxed automata finds in memory. -/
def HeldD (w0 : World) (a : Nat) (u0 u1 v0 v1 : Value) (W : World) : Prop :=
  (Ext w0 W ∧ a + 1 + 1 < W.heap.size) ∧ W.cell? ⟨a, 0, none⟩ = some u0 ∧ W.cell? ⟨a, 1, none⟩ = some u1 ∧ W.cell? ⟨a + 1, 0, none⟩ = some v0 ∧ W.cell? ⟨a + 1, 1, none⟩ = some v1
theorem HeldD.grow {w0 W W' : World} {a : Nat} {u0 u1 v0 v1 : Value} (h : HeldD w0 a u0 u1 v0 v1 W) (hx : Ext W W') : HeldD w0 a u0 u1 v0 v1 W' := by
  have h2 := h.1.2
  exact ⟨⟨h.1.1.trans hx, Nat.lt_of_lt_of_le h.1.2 hx.size⟩, (hx.cells _ _ (by omega)).trans h.2.1, (hx.cells _ _ (by omega)).trans h.2.2.1, (hx.cells _ _ (by omega)).trans h.2.2.2.1, (hx.cells _ _ (by omega)).trans h.2.2.2.2⟩
theorem HeldD.set {w0 W : World} {a : Nat} {u0 u1 v0 v1 : Value} (h : HeldD w0 a u0 u1 v0 v1 W) (ha : w0.heap.size ≤ a) (o : Nat) (u : Value) : HeldD w0 a u0 u1 v0 v1 (W.setCell ⟨a + 1 + 1, o, none⟩ u) := by
  refine ⟨⟨h.1.1.set (by show _ ≤ a + 1 + 1; omega) _, by simpa [World.setCell] using h.1.2⟩, ?_, ?_, ?_, ?_⟩
  · exact (World.cell?_setCell_other _ _ _ _ (by intro e; injection e with e1 e2; omega)).trans h.2.1
  · exact (World.cell?_setCell_other _ _ _ _ (by intro e; injection e with e1 e2; omega)).trans h.2.2.1
  · exact (World.cell?_setCell_other _ _ _ _ (by intro e; injection e with e1 e2; omega)).trans h.2.2.2.1
  · exact (World.cell?_setCell_other _ _ _ _ (by intro e; injection e with e1 e2; omega)).trans h.2.2.2.2
set_option maxRecDepth 100000 in
set_option maxHeartbeats 16000000 in
theorem IntersectS_any (vn vf vn2 vf2 : Value) (a b : Au) (w : World) (hN : SRows w vn a.next) (hF : SInts w vf a.final) (hN2 : SRows w vn2 b.next) (hF2 : SInts w vf2 b.final) :
    Calls Try.prog 24 #[.agg #[vn, vf], .agg #[vn2, vf2]] w fun e w' => ∃ ok rows fins, IntV a b ok rows fins ∧ SpT ok rows fins w e w' := by
  have hN0 := hide hN
  have hF0 := hide hF
  have hP0 := hide hN2
  have hG0 := hide hF2
  obtain ⟨A, c, rfl, -, hln⟩ := hN.form
  obtain ⟨A', c', rfl, -, hlf⟩ := hF.form
  obtain ⟨B, d, rfl, -, hln2⟩ := hN2.form
  obtain ⟨B', d', rfl, -, hlf2⟩ := hF2.form
  clear hN hF hN2 hF2
  have h0 := (((Apt.nil_ (Ext.refl w)).newC [.slice A a.next.length c, .slice A' a.final.length c'] 26 rfl).newC [.slice B b.next.length d, .slice B' b.final.length d'] 26 rfl).newC [.slice none 0 0, .slice none 0 0] 26 rfl
  simp only [World.size_alloc] at h0
  have H0 := hide h0
  clear h0
  go_enter Try.func24, Try.ntmps24
  go_wp2_with fail
  refine (validAutomaton_any _ _ a _ (hN0.out.ext H0.out.ext) (hF0.out.ext H0.out.ext)).mono ?_
  rintro e w1 ⟨rfl, hx1⟩
  have H1 := hide (H0.out.grow hx1)
  have b0 := (H1.out.cellC 1 rfl 0 rfl).1
  have b1 := (H1.out.cellC 1 rfl 1 rfl).1
  clear hx1
  cases hv : vAut a with
  | false =>
    obtain ⟨r0, y0⟩ := H1.out.cellC 0 rfl 0 rfl
    obtain ⟨r1, y1⟩ := H1.out.cellC 0 rfl 1 rfl
    have HV := hide hv
    clear hv
    go_wp2
    refine bodyPost_ret (v := .tuple #[.agg #[.slice none 0 0, .slice none 0 0], .bool false]) ?res rfl ?_
    case res =>
      unfold results
      simp only [Try.f24]
      go_simp
    exact ⟨false, [], [], IntV.no (.inl HV.out), _, _, rfl, SRows.nil0 _, SInts.nil0 _, ((H1.out.set 0 (w.heap.size + 1 + 1) _ rfl 0 (.slice none 0 0) (by simp)).set 0 (w.heap.size + 1 + 1) _ rfl 1 (.slice none 0 0) (by simp)).ext⟩
  | true =>
    have HV := hide hv
    clear hv
    go_wp2_with fail
    refine (validAutomaton_any _ _ b _ (hP0.out.ext H1.out.ext) (hG0.out.ext H1.out.ext)).mono ?_
    rintro e w2 ⟨rfl, hx2⟩
    have H2 := hide (H1.out.grow hx2)
    clear hx2 b0 b1
    cases hv : vAut b with
    | false =>
      obtain ⟨r0, y0⟩ := H2.out.cellC 0 rfl 0 rfl
      obtain ⟨r1, y1⟩ := H2.out.cellC 0 rfl 1 rfl
      have HV2 := hide hv
      clear hv
      go_wp2
      refine bodyPost_ret (v := .tuple #[.agg #[.slice none 0 0, .slice none 0 0], .bool false]) ?res rfl ?_
      case res =>
        unfold results
        simp only [Try.f24]
        go_simp
      exact ⟨false, [], [], IntV.no (.inr HV2.out), _, _, rfl, SRows.nil0 _, SInts.nil0 _, ((H2.out.set 0 (w.heap.size + 1 + 1) _ rfl 0 (.slice none 0 0) (by simp)).set 0 (w.heap.size + 1 + 1) _ rfl 1 (.slice none 0 0) (by simp)).ext⟩
    | true =>
      have HV2 := hide hv
      have a0 := (H2.out.cellC 2 rfl 0 rfl).1
      have a1 := (H2.out.cellC 2 rfl 1 rfl).1
      have b0 := (H2.out.cellC 1 rfl 0 rfl).1
      have b1 := (H2.out.cellC 1 rfl 1 rfl).1
      have waW := (H2.out.d 2 _ rfl w.heap.size rfl).2
      have wbW := (H2.out.d 1 _ rfl (w.heap.size + 1) rfl).2
      have hrs := (H2.out.d 0 _ rfl (w.heap.size + 1 + 1) rfl).2
      have HLE := hide (pr2_le HV.out HV2.out)
      clear hv
      go_wp2
      go_region_held3 (fun W => (Ext w W ∧ w.heap.size + 1 + 1 < W.heap.size) ∧ W.cell? ⟨w.heap.size, 0, none⟩ = some (.slice A a.next.length c) ∧ W.cell? ⟨w.heap.size, 1, none⟩ = some (.slice A' a.final.length c') ∧ W.cell? ⟨w.heap.size + 1, 0, none⟩ = some (.slice B b.next.length d) ∧ W.cell? ⟨w.heap.size + 1, 1, none⟩ = some (.slice B' b.final.length d'))
        (first | (exact ⟨⟨H2.out.ext.drew, hrs⟩, a0, a1, b0, b1⟩) | (exact (HeldD.grow ‹_› hxa)) | (exact (HeldD.grow ‹_› hxb)) | (exact (HeldD.grow ‹_› hxp)) | (exact (HeldD.grow ‹_› hxm)) | (exact (HeldD.grow ‹_› hxl)) | (exact ((HeldD.set ‹_› (Nat.le_refl _) 0 _).set (Nat.le_refl _) 1 _)))
        (first
          | (go_at_call 41; first
              | ((with_reducible refine (total_any (.slice A a.next.length c) (.slice A' a.final.length c') a _ (hN0.out.ext (And.left (And.left ‹_›))) (hF0.out.ext (And.left (And.left ‹_›))) HV.out).mono ?_); rintro e wa ⟨na, fa, rfl, hMa, hxa⟩)
              | ((with_reducible refine (total_any (.slice B b.next.length d) (.slice B' b.final.length d') b _ (hP0.out.ext (And.left (And.left ‹_›))) (hG0.out.ext (And.left (And.left ‹_›))) HV2.out).mono ?_); rintro e wb ⟨nb, fb, rfl, hMb, hxb⟩))
          | (go_at_call 53; refine (product_any na fa nb fb (totM a) (totM b) _ (by first | exact hMa | exact hMa.ext hxb) (by first | exact hMb | exact hMb.ext hxa) HLE.out).mono ?_; rintro e wp ⟨np, fp, rfl, hMp, hxp⟩)
          | (go_at_call 40; refine (minimalS2_any np fp _ wp hMp).mono ?_; rintro e wm ⟨Am, cm, Am', cm', rm, fm, rfl, hIm, hSm, hxm⟩; have HXP := hide (show Ext w2 wp by first | exact ((((Ext.refl w2).drew).trans hxa).trans hxb).trans hxp | exact ((((Ext.refl w2).drew).trans hxb).trans hxa).trans hxp); have hRW := hide (Nat.lt_of_lt_of_le hrs HXP.out.size))
          | (go_at_call 50; refine (limited2_any Am Am' cm cm' _ _ rm fm _ hIm hSm).mono ?_; rintro e wl ⟨ok, rl, fl, hLV, Al, cl, Al', cl', rfl, hSl, hxl⟩; have HL := hide (H2.out.grow ((HXP.out.trans hxm).trans hxl)); have r0 := (HL.out.cellC 0 rfl 0 rfl).1; have y0 := (HL.out.cellC 0 rfl 0 rfl).2; have r1 := (HL.out.cellC 0 rfl 1 rfl).1; have y1 := (HL.out.cellC 0 rfl 1 rfl).2))
      all_goals
        go_wp2
        refine bodyPost_ret (v := .tuple #[.agg #[.slice Al rl.length cl, .slice Al' fl.length cl'], .bool ok]) (by unfold results; simp only [Try.f24]; go_simp) rfl ?_
        have hq := hSl _ (((Keep.refl _ wl).set (p := ⟨w.heap.size + 1 + 1, 0, none⟩) (fun _ h => by have := hRW.out; simp only at h; omega) (.slice Al rl.length cl)).set (p := ⟨w.heap.size + 1 + 1, 1, none⟩) (fun _ h => by have := hRW.out; simp only at h; omega) (.slice Al' fl.length cl'))
        exact ⟨ok, rl, fl, (by unfold IntV; rw [if_pos ⟨HV.out, HV2.out⟩]; exact hLV), _, _, rfl, hq.1, hq.2, ((HL.out.set 0 (w.heap.size + 1 + 1) _ rfl 0 _ (by simp)).set 0 (w.heap.size + 1 + 1) _ rfl 1 _ (by simp)).ext⟩
set_option maxRecDepth 100000 in
set_option maxHeartbeats 16000000 in
theorem IntersectI_any (vn vf vn2 vf2 : Value) (a b : Au) (w : World) (hN : SRows w vn a.next) (hF : SInts w vf a.final) (hN2 : SRows w vn2 b.next) (hF2 : SInts w vf2 b.final) :
    Calls Try.prog 23 #[.agg #[vn, vf], .agg #[vn2, vf2]] w fun e w' => ∃ ok rows fins, IntV a b ok rows fins ∧ OutT ok rows fins w e w' := by
  have hN0 := hide hN
  have hF0 := hide hF
  have hP0 := hide hN2
  have hG0 := hide hF2
  obtain ⟨A, c, rfl, -, hln⟩ := hN.form
  obtain ⟨A', c', rfl, -, hlf⟩ := hF.form
  obtain ⟨B, d, rfl, -, hln2⟩ := hN2.form
  obtain ⟨B', d', rfl, -, hlf2⟩ := hF2.form
  clear hN hF hN2 hF2
  have h0 := (((Apt.nil_ (Ext.refl w)).newC [.slice A a.next.length c, .slice A' a.final.length c'] 26 rfl).newC [.slice B b.next.length d, .slice B' b.final.length d'] 26 rfl).newC [.slice none 0 0, .slice none 0 0] 26 rfl
  simp only [World.size_alloc] at h0
  have H0 := hide h0
  clear h0
  go_enter Try.func23, Try.ntmps23
  go_wp2_with fail
  refine (ValidAutomatonI_any _ _ a _ (hN0.out.ext H0.out.ext) (hF0.out.ext H0.out.ext)).mono ?_
  rintro e w1 ⟨rfl, hx1⟩
  have H1 := hide (H0.out.grow hx1)
  have b0 := (H1.out.cellC 1 rfl 0 rfl).1
  have b1 := (H1.out.cellC 1 rfl 1 rfl).1
  clear hx1
  cases hv : vAut a with
  | false =>
    obtain ⟨r0, y0⟩ := H1.out.cellC 0 rfl 0 rfl
    obtain ⟨r1, y1⟩ := H1.out.cellC 0 rfl 1 rfl
    have HV := hide hv
    clear hv
    go_wp2
    refine bodyPost_ret (v := .tuple #[.agg #[.slice none 0 0, .slice none 0 0], .bool false]) ?res rfl ?_
    case res =>
      unfold results
      simp only [Try.f23]
      go_simp
    exact ⟨false, [], [], IntV.no (.inl HV.out), none, 0, none, 0, rfl, OutP.nil_ ((H1.out.set 0 (w.heap.size + 1 + 1) _ rfl 0 (.slice none 0 0) (by simp)).set 0 (w.heap.size + 1 + 1) _ rfl 1 (.slice none 0 0) (by simp)).ext⟩
  | true =>
    have HV := hide hv
    clear hv
    go_wp2_with fail
    refine (ValidAutomatonI_any _ _ b _ (hP0.out.ext H1.out.ext) (hG0.out.ext H1.out.ext)).mono ?_
    rintro e w2 ⟨rfl, hx2⟩
    have H2 := hide (H1.out.grow hx2)
    clear hx2 b0 b1
    cases hv : vAut b with
    | false =>
      obtain ⟨r0, y0⟩ := H2.out.cellC 0 rfl 0 rfl
      obtain ⟨r1, y1⟩ := H2.out.cellC 0 rfl 1 rfl
      have HV2 := hide hv
      clear hv
      go_wp2
      refine bodyPost_ret (v := .tuple #[.agg #[.slice none 0 0, .slice none 0 0], .bool false]) ?res rfl ?_
      case res =>
        unfold results
        simp only [Try.f23]
        go_simp
      exact ⟨false, [], [], IntV.no (.inr HV2.out), none, 0, none, 0, rfl, OutP.nil_ ((H2.out.set 0 (w.heap.size + 1 + 1) _ rfl 0 (.slice none 0 0) (by simp)).set 0 (w.heap.size + 1 + 1) _ rfl 1 (.slice none 0 0) (by simp)).ext⟩
    | true =>
      have HV2 := hide hv
      have a0 := (H2.out.cellC 2 rfl 0 rfl).1
      have a1 := (H2.out.cellC 2 rfl 1 rfl).1
      have b0 := (H2.out.cellC 1 rfl 0 rfl).1
      have b1 := (H2.out.cellC 1 rfl 1 rfl).1
      have waW := (H2.out.d 2 _ rfl w.heap.size rfl).2
      have wbW := (H2.out.d 1 _ rfl (w.heap.size + 1) rfl).2
      have hrs := (H2.out.d 0 _ rfl (w.heap.size + 1 + 1) rfl).2
      have HLE := hide (pr2_le HV.out HV2.out)
      clear hv
      go_wp2
      go_region_held3 (fun W => (Ext w W ∧ w.heap.size + 1 + 1 < W.heap.size) ∧ W.cell? ⟨w.heap.size, 0, none⟩ = some (.slice A a.next.length c) ∧ W.cell? ⟨w.heap.size, 1, none⟩ = some (.slice A' a.final.length c') ∧ W.cell? ⟨w.heap.size + 1, 0, none⟩ = some (.slice B b.next.length d) ∧ W.cell? ⟨w.heap.size + 1, 1, none⟩ = some (.slice B' b.final.length d'))
        (first | (exact ⟨⟨H2.out.ext.drew, hrs⟩, a0, a1, b0, b1⟩) | (exact (HeldD.grow ‹_› hxa)) | (exact (HeldD.grow ‹_› hxb)) | (exact (HeldD.grow ‹_› hxp)) | (exact (HeldD.grow ‹_› hxm)) | (exact ((HeldD.set ‹_› (Nat.le_refl _) 0 _).set (Nat.le_refl _) 1 _)))
        (first
          | (go_at_call 37; first
              | ((with_reducible refine (machineOf_any (.slice A a.next.length c) (.slice A' a.final.length c') a _ (hN0.out.ext (And.left (And.left ‹_›))) (hF0.out.ext (And.left (And.left ‹_›))) HV.out).mono ?_); intro e wa hnma; obtain ⟨na, fa, rfl, hMa, hxa⟩ := RdM.mach HV.out hnma; clear hnma)
              | ((with_reducible refine (machineOf_any (.slice B b.next.length d) (.slice B' b.final.length d') b _ (hP0.out.ext (And.left (And.left ‹_›))) (hG0.out.ext (And.left (And.left ‹_›))) HV2.out).mono ?_); intro e wb hnmb; obtain ⟨nb, fb, rfl, hMb, hxb⟩ := RdM.mach HV2.out hnmb; clear hnmb))
          | (go_at_call 43; refine (with_any na fa nb fb (totM a) (totM b) 52 and _ (by first | exact hMa | exact hMa.ext hxb) (by first | exact hMb | exact hMb.ext hxa) HLE.out (fun args W => callFunc_body Try.func52 (by kernel_rfl) (by kernel_rfl) args W) (hide (fun x y W => bothF_any x y W))).mono ?_; rintro e wp ⟨np, fp, rfl, hMp, hxp⟩)
          | (go_at_call 38; refine (minimalI_any np fp _ wp hMp).mono ?_; intro e wl hmi; obtain ⟨ok, rl, fl, hLV, Al, cl, Al', cl', rfl, hSl⟩ := MinI.lim hmi; have hxm := hSl.ext; have HXP := hide (show Ext w2 wp by first | exact ((((Ext.refl w2).drew).trans hxa).trans hxb).trans hxp | exact ((((Ext.refl w2).drew).trans hxb).trans hxa).trans hxp); have HL := hide (H2.out.grow (HXP.out.trans hxm)); have r0 := (HL.out.cellC 0 rfl 0 rfl).1; have y0 := (HL.out.cellC 0 rfl 0 rfl).2; have r1 := (HL.out.cellC 0 rfl 1 rfl).1; have y1 := (HL.out.cellC 0 rfl 1 rfl).2; clear hmi))
      all_goals
        go_wp2
        refine bodyPost_ret (v := .tuple #[.agg #[.slice Al rl.length cl, .slice Al' fl.length cl'], .bool ok]) (by unfold results; simp only [Try.f23]; go_simp) rfl ?_
        exact ⟨ok, rl, fl, (by unfold IntV; rw [if_pos ⟨HV.out, HV2.out⟩]; exact hLV), Al, cl, Al', cl', rfl, hSl.far (H2.out.ext.trans HXP.out) (by omega) (Nat.lt_of_lt_of_le hrs HXP.out.size) _ _⟩
end Go.Proofs.Ytdiedghaoleblaa
