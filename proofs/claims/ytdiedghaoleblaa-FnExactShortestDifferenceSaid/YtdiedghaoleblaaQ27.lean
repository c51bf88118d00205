/- Marking an automaton of the call's own, and holding the marks. -/
import Derived.Test.YtdiedghaoleblaaMcM
import Derived.Test.YtdiedghaoleblaaMcT
namespace Go.Proofs.Ytdiedghaoleblaa
open Go.RowKit

/-- The rows lie in the blocks kb; a slice at the head of A points to them. -/
structure MkW (W : World) (A : Option Addr) (rs : List (List Int)) (kb : Nat → Nat) : Prop where
  out : 0 < rs.length → ∃ g m F, A = some ⟨g, 0, none⟩ ∧ W.rowIs g 24 m F ∧ rs.length ≤ m ∧ ∀ i, i < rs.length → ∃ c, F i = .slice (some ⟨kb i, 0, none⟩) (rw0 rs i).length c
  rows : ∀ i, i < rs.length → ∃ c f, (rw0 rs i).length ≤ c ∧ W.rowIs (kb i) 3 c f
theorem OutW.mk_ {B : Nat} {W : World} {A : Option Addr} {rs : List (List Int)} {kb : Nat → Nat} (h : OutW B W A rs kb) : MkW W A rs kb :=
  ⟨fun hp => by obtain ⟨g, m, F, h1, -, h2, h3, h4⟩ := h.out hp; exact ⟨g, m, F, h1, h2, h3, fun i hi => by obtain ⟨c, q, -⟩ := h4 i hi; exact ⟨c, q⟩⟩, fun i hi => by obtain ⟨-, c, f, q1, q2, -⟩ := h.rows i hi; exact ⟨c, f, q1, q2⟩⟩
theorem MkW.ext {W W' : World} {A : Option Addr} {rs : List (List Int)} {kb : Nat → Nat} (h : MkW W A rs kb) (hx : Ext W W') : MkW W' A rs kb :=
  ⟨fun hp => by obtain ⟨g, m, F, h1, h2, h3, h4⟩ := h.out hp; exact ⟨g, m, F, h1, hx.row h2, h3, h4⟩, fun i hi => by obtain ⟨c, f, q1, q2⟩ := h.rows i hi; exact ⟨c, f, q1, hx.row q2⟩⟩
theorem rowIs_type {W : World} {b : Nat} {t u : TypeId} {n m : Nat} {f g : Nat → Value} (h : W.rowIs b t n f) (k : W.rowIs b u m g) : t = u := by
  obtain ⟨c1, p1, -⟩ := h
  obtain ⟨c2, p2, -⟩ := k
  rw [p1] at p2
  injection p2 with p2
  injection p2 with _ p3
theorem szR_le {rs : List (List Int)} : ∀ {k n : Nat}, k ≤ n → szR rs k ≤ szR rs n := by
  intro k n h
  induction n with
  | zero =>
    obtain rfl : k = 0 := by omega
    exact Nat.le_refl _
  | succ n ih =>
    by_cases e : k = n + 1
    · subst e; exact Nat.le_refl _
    · have := ih (by omega); rw [szR]; omega
/-- Distinct blocks. -/
def Inj (n : Nat) (kb : Nat → Nat) : Prop := ∀ i j, i < n → j < n → kb i = kb j → i = j
/-- The rows' cells hold k0, k0 + 1, ... -/
def HeldW (W : World) (rs : List (List Int)) (kb : Nat → Nat) (k0 : Int) (n : Nat) : Prop := ∀ i, i < n → ∃ c f, (rw0 rs i).length ≤ c ∧ W.rowIs (kb i) 3 c f ∧ ∀ j, j < (rw0 rs i).length → f j = .int .i64 (k0 + szR rs i + j)
def MarkedW (rs : List (List Int)) (kb : Nat → Nat) (k0 : Int) (w : World) (e : Ending) (w' : World) : Prop :=
  e = .returned (.int .i64 (k0 + szR rs rs.length)) ∧ Keep (fun b => ∀ i, i < rs.length → b ≠ kb i) w w' ∧ (∀ b n f, w.rowIs b 3 n f → ∃ f', w'.rowIs b 3 n f') ∧ (Inj rs.length kb → HeldW w' rs kb k0 rs.length)
set_option maxHeartbeats 4000000 in
theorem markIntSS_any (A : Option Addr) (c : Nat) (rs : List (List Int)) (kb : Nat → Nat) (k0 : Int) (w : World) (h : MkW w A rs kb) (hk0 : 0 ≤ k0) (hk1 : k0 ≤ 100000000) (hn : szR rs rs.length ≤ 100000000) (hl : rs.length ≤ 100000000) :
    Calls Try.prog 61 #[.slice A rs.length c, .int .i64 k0] w (MarkedW rs kb k0 w) := by
  have H := hide h
  clear h
  go_enter Try.func61, Try.ntmps61
  go_wp2
  go_loopw [1, 5] (fun l i wr => ∃ k : Nat, k ≤ rs.length ∧ i = .int .i64 k ∧ l = .int .i64 (k0 + szR rs k) ∧ Keep (fun b => ∀ i, i < rs.length → b ≠ kb i) w wr ∧ (∀ b n f, w.rowIs b 3 n f → ∃ f', wr.rowIs b 3 n f') ∧ (Inj rs.length kb → HeldW wr rs kb k0 k)) (fun _ i _ => rs.length - (intOf i).toNat)
  case atStart => exact ⟨0, Nat.zero_le _, rfl, by simp [szR], Keep.refl _ _, fun b n f h => ⟨f, h⟩, fun _ i hi => by omega⟩
  case round =>
    obtain ⟨k, hk, rfl, rfl, hkp, hr, hh⟩ := hrel
    have HKP := hide hkp
    have HR := hide hr
    have HH := hide hh
    clear hkp hr hh
    by_cases hlt : k < rs.length
    · have hkI : (k : Int) < rs.length := by omega
      obtain ⟨g, m, F, rfl, hg, hm, hF⟩ := H.out.out (by omega)
      obtain ⟨ck, hFk⟩ := hF k hlt
      have hgk : ∀ i, i < rs.length → g ≠ kb i := fun i hi e => by
        obtain ⟨c9, f9, -, h9⟩ := H.out.rows i hi
        rw [← e] at h9
        have := rowIs_type hg h9
        revert this
        decide
      have f0 : wr.cell? ⟨g, k, none⟩ = some (.slice (some ⟨kb k, 0, none⟩) (rw0 rs k).length ck) := by
        have h9 : wr.rowIs g 24 m F := HKP.out.row (g := g) hgk hg
        rw [h9.cell (by omega), hFk]
      obtain ⟨cr, fr0, hcr, hrow0⟩ := H.out.rows k hlt
      obtain ⟨fr, hrow⟩ := HR.out _ _ _ hrow0
      have HROW := hide hrow
      have h1 := szR_le (rs := rs) (k := k + 1) (n := rs.length) (by omega)
      rw [szR] at h1
      clear hg hF hFk hrow hrow0
      go_wp2_with fail
      refine (markIntS_any (some ⟨kb k, 0, none⟩) (rw0 rs k).length ck (kb k) cr fr (k0 + szR rs k) _ (by omega) (by omega) (by omega) (hide fun _ => ⟨rfl, HROW.out, hcr⟩)).mono ?_
      rintro e w5 ⟨rfl, hgr, hro⟩
      have HGR := hide hgr
      have HRO := hide hro
      clear hgr hro
      go_wp2
      go_roundw
      case rel =>
        have hoff : ∀ b, b ≠ kb k → ∀ {t : TypeId} {n : Nat} {f : Nat → Value}, wr.rowIs b t n f → w5.rowIs b t n f := fun b hb _ _ _ h9 => upd_row HGR.out h9 (fun _ => hb)
        refine ⟨k + 1, by omega, by go_num, ?_, ?_, fun b n f hb => ?_, fun hinj i hi => ?_⟩
        · rw [szR]
          congr 1
          push_cast
          omega
        · refine HKP.out.then (T := fun b => b ≠ kb k) (Keep.mono (Keep.of_grown HGR.out) (fun b _ hb e => ?_)) (fun b _ hb => hb k hlt)
          unfold rowOf at e
          split at e
          · cases e
          · injection e with e; exact hb e.symm
        · obtain ⟨f1, h1⟩ := HR.out b n f hb
          by_cases hbk : b = kb k
          · subst hbk
            by_cases h0 : 0 < (rw0 rs k).length
            · have h9 := HRO.out h0
              have : n = cr := by
                obtain ⟨x1, y1, z1, -⟩ := h1
                obtain ⟨x2, y2, z2, -⟩ := HROW.out
                rw [y2] at y1
                injection y1 with y1; injection y1 with y1 _
                rw [← z1, ← z2, y1]
              subst this
              exact ⟨_, h9⟩
            · have hgr := HGR.out
              rw [rowOf, if_pos (by omega)] at hgr
              exact ⟨f1, h1.of_block (hgr.block _ h1.lt (by simp))⟩
          · exact ⟨f1, hoff _ hbk h1⟩
        · by_cases hik : i = k
          · subst hik
            by_cases h0 : 0 < (rw0 rs i).length
            · refine ⟨cr, _, hcr, HRO.out h0, fun j hj => ?_⟩
              unfold mcell
              rw [if_pos hj]
            · have hgr := HGR.out
              rw [rowOf, if_pos (by omega)] at hgr
              exact ⟨cr, fr, hcr, HROW.out.of_block (hgr.block _ HROW.out.lt (by simp)), fun j hj => by omega⟩
          · obtain ⟨c9, f9, q1, q2, q3⟩ := HH.out hinj i (by omega)
            exact ⟨c9, f9, q1, hoff _ (fun e => hik (hinj i k (by omega) hlt e)) q2, q3⟩
      case measure => simp [intOf]; omega
    · obtain rfl : k = rs.length := by omega
      go_wp2
      go_ret
      exact ⟨rfl, HKP.out, HR.out, HH.out⟩
end Go.Proofs.Ytdiedghaoleblaa
/- Marks of an automaton; MinimizeAutomaton in the reference and in the program. -/
namespace Go.Proofs.Ytdiedghaoleblaa
open Go.RowKit

/-- The final states' row. -/
def MkF (W : World) (A' : Option Addr) (b' : Nat) (n : Nat) : Prop := 0 < n → A' = some ⟨b', 0, none⟩ ∧ ∃ m f, n ≤ m ∧ W.rowIs b' 3 m f
def HeldF (W : World) (b' : Nat) (n : Nat) (k0 : Int) : Prop := 0 < n → ∃ m f, n ≤ m ∧ W.rowIs b' 3 m (mcell k0 f n)
def MarkedA (rows : List (List Int)) (nf : Nat) (kb : Nat → Nat) (b' : Nat) (k0 : Int) (w : World) (e : Ending) (w' : World) : Prop :=
  e = .returned (.int .i64 (k0 + szR rows rows.length + nf)) ∧ Keep (fun b => (∀ i, i < rows.length → b ≠ kb i) ∧ (0 < nf → b ≠ b')) w w' ∧
    (Inj rows.length kb → (0 < nf → ∀ i, i < rows.length → b' ≠ kb i) → HeldW w' rows kb k0 rows.length ∧ HeldF w' b' nf (k0 + szR rows rows.length))
set_option maxHeartbeats 4000000 in
theorem markAutomaton_any (A A' : Option Addr) (c c' : Nat) (rows : List (List Int)) (nf : Nat) (kb : Nat → Nat) (b' : Nat) (k0 : Int) (w : World) (h : MkW w A rows kb) (hf : MkF w A' b' nf) (hk0 : 0 ≤ k0) (hk1 : k0 ≤ 10000000) (hn : szR rows rows.length ≤ 10000000) (hl : rows.length ≤ 10000000) (hnf : nf ≤ 10000000)
    (hlt : ∀ i, i < rows.length → kb i < w.heap.size) (hlt' : 0 < nf → b' < w.heap.size) :
    Calls Try.prog 32 #[.agg #[.slice A rows.length c, .slice A' nf c'], .int .i64 k0] w (MarkedA rows nf kb b' k0 w) := by
  have H := hide h
  have HF := hide hf
  have HLT := hide hlt
  clear h hf hlt
  have hx0 := (Ext.refl w).alloc (.cells #[.slice A rows.length c, .slice A' nf c'] 26)
  have HX0 := hide hx0
  go_enter Try.func32, Try.ntmps32
  go_wp2_with fail
  refine (markIntSS_any A c rows kb k0 _ (H.out.ext hx0) hk0 (by omega) (by omega) (by omega)).mono ?_
  rintro e w1 ⟨rfl, hkp, hr, hh⟩
  have a1 : w1.cell? ⟨w.heap.size, 1, none⟩ = some (.slice A' nf c') := (hkp.cell (p := ⟨w.heap.size, 1, none⟩) (by simp) (fun i hi e => by have := HLT.out i hi; simp only at e; omega)).trans (by go_simp)
  have HKP := hide hkp
  have HR := hide hr
  have HH := hide hh
  have hF1 : MkF w1 A' b' nf := fun hp => by
    obtain ⟨e1, m, f, h1, h2⟩ := HF.out hp
    obtain ⟨f', h3⟩ := hr _ _ _ (hx0.row h2)
    exact ⟨e1, m, f', h1, h3⟩
  have HF1 := hide hF1
  clear hx0 hkp hr hh hF1
  by_cases h0 : 0 < nf
  · obtain ⟨rfl, m, f, h1, h2⟩ := HF1.out h0
    have H2 := hide h2
    clear h2
    go_wp2_with fail
    refine (markIntS_any (some ⟨b', 0, none⟩) nf c' b' m f (k0 + szR rows rows.length) _ (by omega) (by omega) (by omega) (hide fun _ => ⟨rfl, H2.out, h1⟩)).mono ?_
    rintro e w5 ⟨rfl, hgr, hro⟩
    have HGR := hide hgr
    have HRO := hide hro
    clear hgr hro
    go_wp2
    go_ret
    have hk5 := Keep.of_grown HGR.out
    rw [rowOf_pos h0] at hk5
    refine ⟨rfl, ?_, fun hi hd => ⟨fun i hil => ?_, fun _ => ⟨m, f, h1, HRO.out h0⟩⟩⟩
    · refine ((HX0.out.keep _).then (T := fun b => ∀ i, i < rows.length → b ≠ kb i) HKP.out (fun b _ hb => hb.1)).then hk5 (fun b _ hb e => ?_)
      injection e with e
      exact hb.2 h0 e.symm
    · obtain ⟨c9, f9, q1, q2, q3⟩ := HH.out hi i hil
      exact ⟨c9, f9, q1, hk5.row (fun e => hd h0 i hil (by injection e)) q2, q3⟩
  · obtain rfl : nf = 0 := by omega
    go_wp2_with fail
    refine (markIntS_any A' 0 c' b' 0 (fun _ => undef) (k0 + szR rows rows.length) _ (by omega) (by omega) (by omega) (hide fun h => absurd h (by omega))).mono ?_
    rintro e w5 ⟨rfl, hgr, -⟩
    have HGR := hide hgr
    clear hgr
    go_wp2
    go_ret
    have hk5 := Keep.of_grown HGR.out
    rw [show rowOf 0 b' = none from rfl] at hk5
    refine ⟨ret_i (by omega), ?_, fun hi hd => ⟨fun i hil => ?_, fun h => absurd h (by omega)⟩⟩
    · exact ((HX0.out.keep _).then (T := fun b => ∀ i, i < rows.length → b ≠ kb i) HKP.out (fun b _ hb => hb.1)).then hk5 (fun b _ hb e => (by cases e))
    · obtain ⟨c9, f9, q1, q2, q3⟩ := HH.out hi i hil
      exact ⟨c9, f9, q1, hk5.row (fun e => by cases e) q2, q3⟩
/-- rows and fins are the minimal form of the machine. -/
def IsMin (m : Mc) (rows : List (List Int)) (fins : List Int) : Prop := ∃ L : Nat → Bool, (∀ x, x < m.nx.length → (L x = true ↔ Live m x)) ∧ rows = (mEnd m L (clF m)).rows ∧ fins = (mEnd m L (clF m)).fins
theorem IsMin.uniq {m : Mc} (hm : MOk m) {r r' : List (List Int)} {f f' : List Int} (h : IsMin m r f) (h' : IsMin m r' f') : r = r' ∧ f = f' := by
  obtain ⟨L, h1, rfl, rfl⟩ := h
  obtain ⟨L', h1', rfl, rfl⟩ := h'
  have : mEnd m L (clF m) = mEnd m L' (clF m) := mEnd_congr hm (fun x hx => by
    rw [Bool.eq_iff_iff, h1 x hx, h1' x hx]) (fun _ _ => rfl) (fun x => clF_le m x)
  rw [this]
  exact ⟨rfl, rfl⟩
/-- Numbers of a size that memory holds. -/
structure OkA (rows : List (List Int)) (fins : List Int) : Prop where
  len : rows.length ≤ 100
  fl : fins.length ≤ 100
  row : ∀ k, k < rows.length → (rw0 rows k).length = 6 ∧ ∀ j, j < 6 → -1 ≤ at0 (rw0 rows k) j ∧ at0 (rw0 rows k) j ≤ 100
  fin : ∀ k, k < fins.length → 0 ≤ at0 fins k ∧ at0 fins k ≤ 100
theorem OkA.nil_ : OkA [] [] := ⟨by simp, by simp, fun k hk => absurd hk (by simp), fun k hk => absurd hk (by simp)⟩
theorem IsMin.ok {m : Mc} (hm : MOk m) {r : List (List Int)} {f : List Int} (h : IsMin m r f) : OkA r f := by
  obtain ⟨L, h1, rfl, rfl⟩ := h
  have hr := mSt_res m L (clF m) m.nx.length
  have hl := mSt_len hm L (fun x => clF_le m x) m.nx.length
  have := hm.le
  unfold mEnd
  exact ⟨Nat.le_trans hr.len this, Nat.le_trans hr.fl this, fun k hk => ⟨(hr.row k hk).1, fun j hj => by have := (hr.row k hk).2 j hj; omega⟩, fun k hk => by have := hr.fin k hk; omega⟩
theorem OkA.sz {r : List (List Int)} {f : List Int} (h : OkA r f) : szR r r.length ≤ 600 := by
  have : ∀ k, k ≤ r.length → szR r k ≤ 6 * k := by
    intro k
    induction k with
    | zero => intro _; simp [szR]
    | succ k ih =>
      intro hk
      have h1 := ih (by omega)
      have h2 := (h.row k (by omega)).1
      rw [szR]; omega
  have h1 := this _ (Nat.le_refl _)
  have := h.len
  omega
theorem OkA.rows {r : List (List Int)} {f : List Int} (h : OkA r f) : r.length * 24 ≤ 140737488355328 ∧ (∀ i, i < r.length → (rw0 r i).length * 8 ≤ 140737488355328) ∧ (∀ i, i < r.length → ∀ j, j < (rw0 r i).length → I64 (at0 (rw0 r i) j)) := by
  have := h.len
  refine ⟨by omega, fun i hi => by rw [(h.row i hi).1]; omega, fun i hi j hj => ?_⟩
  obtain ⟨h1, h2⟩ := h.row i hi
  rw [h1] at hj
  have := h2 j hj
  unfold I64; omega
theorem OkA.i64 {r : List (List Int)} {f : List Int} (h : OkA r f) : ∀ i, i < f.length → I64 (at0 f i) := fun i hi => by have := h.fin i hi; unfold I64; omega
/-- What the reference's function hands back. -/
def SpT (ok : Bool) (rows : List (List Int)) (fins : List Int) (w : World) (e : Ending) (w' : World) : Prop :=
  ∃ vn vf, e = .returned (.tuple #[.agg #[vn, vf], .bool ok]) ∧ SRows w' vn rows ∧ SInts w' vf fins ∧ Ext w w'
/-- What the program's function hands back. -/
def OutT (ok : Bool) (rows : List (List Int)) (fins : List Int) (w : World) (e : Ending) (w' : World) : Prop :=
  ∃ A c A' c', e = .returned (.tuple #[.agg #[.slice A rows.length c, .slice A' fins.length c'], .bool ok]) ∧ OutP rows fins w w' A c A' c'
theorem SInts.nil0 (w : World) : SInts w (.slice none 0 0) [] := ⟨_, _, rfl, by simp, by simp, fun i hi => absurd hi (by simp), fun hp => absurd hp (by simp)⟩
theorem SRows.nil0 (w : World) : SRows w (.slice none 0 0) [] := ⟨_, _, rfl, by simp, by simp, fun hp => absurd hp (by simp)⟩
theorem OutP.nil_ {w w' : World} (hx : Ext w w') : OutP [] [] w w' none 0 none 0 :=
  ⟨fun _ => 0, 0, 0, fun _ => undef, by simp, by simp, ⟨fun h => absurd h (by simp), fun i j hi => absurd hi (by simp), fun i hi => absurd hi (by simp)⟩, fun h => absurd h (by simp), fun h => absurd h (by simp), hx⟩
/-- Elder memory may be written. -/
theorem Apt.far {w0 W : World} {l : List Itm} (h : Apt w0 W l) {i : Nat} {a : Itm} (hi : l[i]? = some a) {b o o' : Nat} (hb : b < w0.heap.size) (u u' : Value) : a.P ((W.setCell ⟨b, o, none⟩ u).setCell ⟨b, o', none⟩ u') :=
  h.s i a hi W _ (h.p i a hi) (((Keep.refl _ W).set (fun _ hd => by have := (h.d i a hi b hd).1; omega) u).set (fun _ hd => by have := (h.d i a hi b hd).1; omega) u')
theorem OutW.far {B : Nat} {W : World} {A : Option Addr} {rs : List (List Int)} {kb : Nat → Nat} (h : OutW B W A rs kb) {b o : Nat} (hb : b < B) (u : Value) : OutW B (W.setCell ⟨b, o, none⟩ u) A rs kb :=
  ⟨fun hp => by obtain ⟨g, m, F, h1, h2, h3, h4, h5⟩ := h.out hp; exact ⟨g, m, F, h1, h2, h3.setOther (by simp only; omega) u, h4, h5⟩, h.inj, fun i hi => by obtain ⟨h1, c, f, h2, h3, h4⟩ := h.rows i hi; exact ⟨h1, c, f, h2, h3.setOther (by simp only; omega) u, h4⟩⟩
theorem OutW.base {B B' : Nat} {W : World} {A : Option Addr} {rs : List (List Int)} {kb : Nat → Nat} (h : OutW B W A rs kb) (hb : B' ≤ B) : OutW B' W A rs kb :=
  ⟨fun hp => by obtain ⟨g, m, F, h1, h2, h3⟩ := h.out hp; exact ⟨g, m, F, h1, by omega, h3⟩, h.inj, fun i hi => by obtain ⟨h1, h2⟩ := h.rows i hi; exact ⟨by omega, h2⟩⟩
theorem OutP.far {rows : List (List Int)} {fins : List Int} {w0 w w' : World} {A A' : Option Addr} {c c' : Nat} (h : OutP rows fins w w' A c A' c') (hx : Ext w0 w) {b o o' : Nat} (hb0 : w0.heap.size ≤ b) (hb : b < w.heap.size) (u u' : Value) : OutP rows fins w0 ((w'.setCell ⟨b, o, none⟩ u).setCell ⟨b, o', none⟩ u') A c A' c' := by
  obtain ⟨kb, b', m', f', h1, h2, h3, h4, h5, h6⟩ := h
  refine ⟨kb, b', m', f', h1, h2, ((h3.far hb u).far hb u').base hx.size, fun hp => ?_, fun hp => ⟨Nat.le_trans hx.size (h5 hp).1, (h5 hp).2⟩, ((hx.trans h6).set (by simpa using hb0) _).set (by simpa using hb0) _⟩
  obtain ⟨q1, q2, q3, q4⟩ := h4 hp
  have := (h5 hp).1
  exact ⟨q1, (q2.setOther (by simp only; omega) u).setOther (by simp only; omega) u', q3, q4⟩
/-- The value of MinimizeAutomaton. -/
def MinV (a : Au) (ok : Bool) (rows : List (List Int)) (fins : List Int) : Prop :=
  if vAut a then IsMin (totM a) rows fins ∧ ok = true else ok = false ∧ rows = [] ∧ fins = []
theorem MinV.uniq {a : Au} {ok ok' : Bool} {r r' : List (List Int)} {f f' : List Int} (h : MinV a ok r f) (h' : MinV a ok' r' f') : ok = ok' ∧ r = r' ∧ f = f' := by
  unfold MinV at h h'
  split at h
  · rename_i hv
    rw [if_pos hv] at h'
    obtain ⟨e1, e2⟩ := IsMin.uniq (totM_ok hv) h.1 h'.1
    exact ⟨h.2.trans h'.2.symm, e1, e2⟩
  · rename_i hv
    rw [if_neg hv] at h'
    exact ⟨h.1.trans h'.1.symm, h.2.1.trans h'.2.1.symm, h.2.2.trans h'.2.2.symm⟩
theorem MinV.ok {a : Au} {o : Bool} {r : List (List Int)} {f : List Int} (h : MinV a o r f) : OkA r f := by
  unfold MinV at h
  split at h
  · rename_i hv; exact IsMin.ok (totM_ok hv) h.1
  · obtain ⟨-, rfl, rfl⟩ := h; exact OkA.nil_
/-- The classes met are not that of the last state, which is dead. -/
theorem tot_dead {a : Au} (hv : vAut a = true) : ¬ Live (totM a) a.next.length := by
  have hm := totM_ok hv
  refine dead_of hm (fun s => s = a.next.length) (fun s hs e => ?_) (fun s hs e v hv6 => ?_) (by rw [totM_len]; omega) rfl
  · subst e
    rw [totM_fin a (by omega), decide_eq_false_iff_not]
    intro h
    obtain ⟨i, hi, e⟩ := List.mem_iff_getElem.1 h
    have hf : allR a.final 0 (a.next.length - 1) = true := by simp only [vAut, vFin, Bool.and_eq_true] at hv; exact hv.2.1
    have := allR_at hf hi
    unfold at0 at this
    rw [getD_lt _ _ hi, e] at this
    omega
  · subst e
    unfold mT
    show (at0 (rw0 (mRows a) a.next.length) v).toNat = _
    rw [mRows_last, at0_replicate _ _ hv6]
    simp
theorem tot_small {a : Au} (hv : vAut a = true) {r : List (List Int)} {f : List Int} (h : IsMin (totM a) r f) : r.length ≤ 8 := by
  obtain ⟨L, hL, rfl, rfl⟩ := h
  have hm := totM_ok hv
  have h8 := vAut_len hv
  have hLn : L a.next.length = false := by
    cases h : L a.next.length with
    | false => rfl
    | true => exact absurd ((hL _ (by rw [totM_len]; omega)).1 h) (tot_dead hv)
  have hne : ∀ y, y < (totM a).nx.length → y ≠ a.next.length → (clF (totM a) y : Int) ≠ a.next.length := fun y hy hyn e => by
    have := clF_le (totM a) y
    rw [totM_len] at hy
    omega
  have key : ∀ i, (∀ x ∈ (mSt (totM a) L (clF (totM a)) i).met, x ≠ (a.next.length : Int)) ∧ (mSt (totM a) L (clF (totM a)) i).rows.length ≤ (mSt (totM a) L (clF (totM a)) i).met.length := by
    intro i
    induction i with
    | zero =>
      refine ⟨fun x hx => ?_, by simp [mSt]⟩
      simp [mSt] at hx
      subst hx
      exact hne 0 hm.pos (by omega)
    | succ i ih =>
      rw [mSt]
      simp only
      split
      · rename_i hlt
        have hs := (mSt_ok hm L (C := clF (totM a)) (fun x => clF_le _ x) i).at_ hlt
        obtain ⟨ys, hys⟩ := pMet_pre (totM a) L (clF (totM a)) (mSt (totM a) L (clF (totM a)) i).met (at0 (mSt (totM a) L (clF (totM a)) i).met i).toNat 6
        refine ⟨?_, by have := (mSt_res (totM a) L (clF (totM a)) i).len; simp only [List.length_append, List.length_singleton]; rw [hys, List.length_append]; omega⟩
        have : ∀ v, v ≤ 6 → ∀ x ∈ pMet (totM a) L (clF (totM a)) (mSt (totM a) L (clF (totM a)) i).met (at0 (mSt (totM a) L (clF (totM a)) i).met i).toNat v, x ≠ (a.next.length : Int) := by
          intro v
          induction v with
          | zero => intro _; exact ih.1
          | succ v ihv =>
            intro hv6 x hx
            rw [pMet] at hx
            split at hx
            · rename_i hc
              rcases List.mem_append.1 hx with hx | hx
              · exact ihv (by omega) x hx
              · rw [List.mem_singleton] at hx
                subst hx
                refine hne _ (hm.lt (by omega) (by omega)) (fun e => ?_)
                rw [e, hLn] at hc
                cases hc
            · exact ihv (by omega) x hx
        exact this 6 (by omega)
      · exact ih
  obtain ⟨k1, k2⟩ := key (totM a).nx.length
  have hok := mSt_ok hm L (C := clF (totM a)) (fun x => clF_le _ x) (totM a).nx.length
  have : (mSt (totM a) L (clF (totM a)) (totM a).nx.length).met.length ≤ a.next.length := nodup_lt _ _ hok.nd (fun x hx => by
    have h1 := hok.rg x hx
    have h2 := k1 x hx
    rw [totM_len] at h1
    omega)
  unfold mEnd
  omega
end Go.Proofs.Ytdiedghaoleblaa
