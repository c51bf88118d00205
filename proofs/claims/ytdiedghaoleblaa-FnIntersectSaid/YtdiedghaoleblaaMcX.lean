/- Marking an automaton of the call's own, and holding the marks. -/
import Derived.Test.YtdiedghaoleblaaMcM
namespace Go.Proofs.Ytdiedghaoleblaa
open Go.RowKit

/-- The rows lie in the blocks kb; a slice at the head of A points to them. -/
structure MkW (W : World) (A : Option Addr) (rs : List (List Int)) (kb : Nat → Nat) : Prop where
  out : 0 < rs.length → ∃ g m F, A = some ⟨g, 0, none⟩ ∧ W.rowIs g 24 m F ∧ rs.length ≤ m ∧ ∀ i, i < rs.length → ∃ c, F i = .slice (some ⟨kb i, 0, none⟩) (rw0 rs i).length c
  rows : ∀ i, i < rs.length → ∃ c f, (rw0 rs i).length ≤ c ∧ W.rowIs (kb i) 3 c f
theorem OutW.mk_ {B : Nat} {W : World} {A : Option Addr} {rs : List (List Int)} {kb : Nat → Nat} (h : OutW B W A rs kb) : MkW W A rs kb :=
  ⟨fun hp => by obtain ⟨g, m, F, h1, -, h2, h3, h4⟩ := h.out hp; exact ⟨g, m, F, h1, h2, h3, fun i hi => by obtain ⟨c, q, -⟩ := h4 i hi; exact ⟨c, q⟩⟩, fun i hi => by obtain ⟨-, c, f, q1, q2, -⟩ := h.rows i hi; exact ⟨c, f, q1, q2⟩⟩
theorem MkW.ext {W W' : World} {A : Option Addr} {rs : List (List Int)} {kb : Nat → Nat} (h : MkW W A rs kb) (hx : Ext W W') : MkW W' A rs kb :=
  ⟨fun hp => by obtain ⟨g, m, F, h1, h2, h3, h4⟩ := h.out hp; exact ⟨g, m, F, h1, hx.row h2, h3, h4⟩, fun i hi => by obtain ⟨c, f, q1, q2⟩ := h.rows i hi; exact ⟨c, f, q1, hx.row q2⟩⟩
theorem rowIs_type {W : World} {b : Nat} {t u : TypeId} {n m : Nat} {f g : Nat → Value} (h : W.rowIs b t n f) (k : W.rowIs b u m g) : t = u := by
  obtain ⟨c1, p1, -⟩ := h
  obtain ⟨c2, p2, -⟩ := k
  rw [p1] at p2
  injection p2 with p2
  injection p2 with _ p3
theorem szR_le {rs : List (List Int)} : ∀ {k n : Nat}, k ≤ n → szR rs k ≤ szR rs n := by
  intro k n h
  induction n with
  | zero =>
    obtain rfl : k = 0 := by omega
    exact Nat.le_refl _
  | succ n ih =>
    by_cases e : k = n + 1
    · subst e; exact Nat.le_refl _
    · have := ih (by omega); rw [szR]; omega
/-- Distinct blocks. -/
def Inj (n : Nat) (kb : Nat → Nat) : Prop := ∀ i j, i < n → j < n → kb i = kb j → i = j
/-- The rows' cells hold k0, k0 + 1, ... -/
def HeldW (W : World) (rs : List (List Int)) (kb : Nat → Nat) (k0 : Int) (n : Nat) : Prop := ∀ i, i < n → ∃ c f, (rw0 rs i).length ≤ c ∧ W.rowIs (kb i) 3 c f ∧ ∀ j, j < (rw0 rs i).length → f j = .int .i64 (k0 + szR rs i + j)
def MarkedW (rs : List (List Int)) (kb : Nat → Nat) (k0 : Int) (w : World) (e : Ending) (w' : World) : Prop :=
  e = .returned (.int .i64 (k0 + szR rs rs.length)) ∧ Keep (fun b => ∀ i, i < rs.length → b ≠ kb i) w w' ∧ (∀ b n f, w.rowIs b 3 n f → ∃ f', w'.rowIs b 3 n f') ∧ (Inj rs.length kb → HeldW w' rs kb k0 rs.length)
set_option maxHeartbeats 4000000 in
theorem markIntSS_any (A : Option Addr) (c : Nat) (rs : List (List Int)) (kb : Nat → Nat) (k0 : Int) (w : World) (h : MkW w A rs kb) (hk0 : 0 ≤ k0) (hk1 : k0 ≤ 100000000) (hn : szR rs rs.length ≤ 100000000) (hl : rs.length ≤ 100000000) :
    Calls Try.prog 61 #[.slice A rs.length c, .int .i64 k0] w (MarkedW rs kb k0 w) := by
  have H := hide h
  clear h
  go_enter Try.func61, Try.ntmps61
  go_wp2
  go_loopw [1, 5] (fun l i wr => ∃ k : Nat, k ≤ rs.length ∧ i = .int .i64 k ∧ l = .int .i64 (k0 + szR rs k) ∧ Keep (fun b => ∀ i, i < rs.length → b ≠ kb i) w wr ∧ (∀ b n f, w.rowIs b 3 n f → ∃ f', wr.rowIs b 3 n f') ∧ (Inj rs.length kb → HeldW wr rs kb k0 k)) (fun _ i _ => rs.length - (intOf i).toNat)
  case atStart => exact ⟨0, Nat.zero_le _, rfl, by simp [szR], Keep.refl _ _, fun b n f h => ⟨f, h⟩, fun _ i hi => by omega⟩
  case round =>
    obtain ⟨k, hk, rfl, rfl, hkp, hr, hh⟩ := hrel
    have HKP := hide hkp
    have HR := hide hr
    have HH := hide hh
    clear hkp hr hh
    by_cases hlt : k < rs.length
    · have hkI : (k : Int) < rs.length := by omega
      obtain ⟨g, m, F, rfl, hg, hm, hF⟩ := H.out.out (by omega)
      obtain ⟨ck, hFk⟩ := hF k hlt
      have hgk : ∀ i, i < rs.length → g ≠ kb i := fun i hi e => by
        obtain ⟨c9, f9, -, h9⟩ := H.out.rows i hi
        rw [← e] at h9
        have := rowIs_type hg h9
        revert this
        decide
      have f0 : wr.cell? ⟨g, k, none⟩ = some (.slice (some ⟨kb k, 0, none⟩) (rw0 rs k).length ck) := by
        have h9 : wr.rowIs g 24 m F := HKP.out.row (g := g) hgk hg
        rw [h9.cell (by omega), hFk]
      obtain ⟨cr, fr0, hcr, hrow0⟩ := H.out.rows k hlt
      obtain ⟨fr, hrow⟩ := HR.out _ _ _ hrow0
      have HROW := hide hrow
      have h1 := szR_le (rs := rs) (k := k + 1) (n := rs.length) (by omega)
      rw [szR] at h1
      clear hg hF hFk hrow hrow0
      go_wp2_with fail
      refine (markIntS_any (some ⟨kb k, 0, none⟩) (rw0 rs k).length ck (kb k) cr fr (k0 + szR rs k) _ (by omega) (by omega) (by omega) (hide fun _ => ⟨rfl, HROW.out, hcr⟩)).mono ?_
      rintro e w5 ⟨rfl, hgr, hro⟩
      have HGR := hide hgr
      have HRO := hide hro
      clear hgr hro
      go_wp2
      go_roundw
      case rel =>
        have hoff : ∀ b, b ≠ kb k → ∀ {t : TypeId} {n : Nat} {f : Nat → Value}, wr.rowIs b t n f → w5.rowIs b t n f := fun b hb _ _ _ h9 => upd_row HGR.out h9 (fun _ => hb)
        refine ⟨k + 1, by omega, by go_num, ?_, ?_, fun b n f hb => ?_, fun hinj i hi => ?_⟩
        · rw [szR]
          congr 1
          push_cast
          omega
        · refine HKP.out.then (T := fun b => b ≠ kb k) (Keep.mono (Keep.of_grown HGR.out) (fun b _ hb e => ?_)) (fun b _ hb => hb k hlt)
          unfold rowOf at e
          split at e
          · cases e
          · injection e with e; exact hb e.symm
        · obtain ⟨f1, h1⟩ := HR.out b n f hb
          by_cases hbk : b = kb k
          · subst hbk
            by_cases h0 : 0 < (rw0 rs k).length
            · have h9 := HRO.out h0
              have : n = cr := by
                obtain ⟨x1, y1, z1, -⟩ := h1
                obtain ⟨x2, y2, z2, -⟩ := HROW.out
                rw [y2] at y1
                injection y1 with y1; injection y1 with y1 _
                rw [← z1, ← z2, y1]
              subst this
              exact ⟨_, h9⟩
            · have hgr := HGR.out
              rw [rowOf, if_pos (by omega)] at hgr
              exact ⟨f1, h1.of_block (hgr.block _ h1.lt (by simp))⟩
          · exact ⟨f1, hoff _ hbk h1⟩
        · by_cases hik : i = k
          · subst hik
            by_cases h0 : 0 < (rw0 rs i).length
            · refine ⟨cr, _, hcr, HRO.out h0, fun j hj => ?_⟩
              unfold mcell
              rw [if_pos hj]
            · have hgr := HGR.out
              rw [rowOf, if_pos (by omega)] at hgr
              exact ⟨cr, fr, hcr, HROW.out.of_block (hgr.block _ HROW.out.lt (by simp)), fun j hj => by omega⟩
          · obtain ⟨c9, f9, q1, q2, q3⟩ := HH.out hinj i (by omega)
            exact ⟨c9, f9, q1, hoff _ (fun e => hik (hinj i k (by omega) hlt e)) q2, q3⟩
      case measure => simp [intOf]; omega
    · obtain rfl : k = rs.length := by omega
      go_wp2
      go_ret
      exact ⟨rfl, HKP.out, HR.out, HH.out⟩
end Go.Proofs.Ytdiedghaoleblaa
