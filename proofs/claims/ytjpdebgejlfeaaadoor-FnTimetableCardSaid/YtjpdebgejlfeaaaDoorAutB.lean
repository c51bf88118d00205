/- Rows of ints and automata: how they read, and the walks of the laws' own copies, sizes and comparisons of them. -/
import Derived.Test.YtjpdebgejlfeaaaDoorLwsA
namespace Go.Proofs.YtjpdebgejlfeaaaDoor
open Go.RowKit

/-- Row i. -/
def rw0 (rs : List (List Int)) (i : Nat) : List Int := rs.getD i []
/-- v is a slice of slices that read as the rows rs. -/
def SRows (w : World) (v : Value) (rs : List (List Int)) : Prop :=
  ∃ A c, v = .slice A rs.length c ∧ rs.length ≤ c ∧ rs.length * 24 ≤ 140737488355328 ∧
    (0 < rs.length → ∃ b off, A = some ⟨b, off, none⟩ ∧ b < w.heap.size ∧ ∀ i, i < rs.length → ∃ rv, w.cell? ⟨b, off + i, none⟩ = some rv ∧ SInts w rv (rw0 rs i))
theorem SRows.ext {w w' : World} {v : Value} {rs : List (List Int)} (h : SRows w v rs) (hx : Ext w w') : SRows w' v rs := by
  obtain ⟨A, c, h1, h2, h3, h5⟩ := h
  refine ⟨A, c, h1, h2, h3, fun hp => ?_⟩
  obtain ⟨b, off, e, hb, hc⟩ := h5 hp
  refine ⟨b, off, e, Nat.lt_of_lt_of_le hb hx.size, fun i hi => ?_⟩
  obtain ⟨rv, h6, h7⟩ := hc i hi
  exact ⟨rv, (hx.cell (p := ⟨b, off + i, none⟩) hb).trans h6, h7.ext hx⟩
theorem SRows.form {w : World} {v : Value} {rs : List (List Int)} (h : SRows w v rs) : ∃ A c, v = .slice A rs.length c ∧ rs.length ≤ c ∧ rs.length ≤ 5864062014805 := by
  obtain ⟨A, c, h1, h2, h3, -⟩ := h
  exact ⟨A, c, h1, h2, by omega⟩
theorem SRows.bytes {w : World} {v : Value} {rs : List (List Int)} (h : SRows w v rs) : rs.length * 24 ≤ 140737488355328 := by
  obtain ⟨A, c, -, -, h3, -⟩ := h
  exact h3
theorem SRows.at_ {w : World} {A : Option Addr} {n c : Nat} {rs : List (List Int)} (h : SRows w (.slice A n c) rs) {k : Nat} (hk : k < rs.length) :
    ∃ b off A' c', A = some ⟨b, off, none⟩ ∧ b < w.heap.size ∧ w.cell? ⟨b, off + k, none⟩ = some (.slice A' (rw0 rs k).length c') ∧ SInts w (.slice A' (rw0 rs k).length c') (rw0 rs k) := by
  obtain ⟨A', c', h1, -, -, h5⟩ := h
  injection h1 with e1 e2 e3
  subst e1
  obtain ⟨b, off, e, hb, hc⟩ := h5 (by omega)
  obtain ⟨rv, h6, h7⟩ := hc k hk
  obtain ⟨A2, c2, rfl, -, -⟩ := h7.form
  exact ⟨b, off, A2, c2, e, hb, h6, h7⟩
theorem SRows.rows {w : World} {v : Value} {rs : List (List Int)} (h : SRows w v rs) {k : Nat} (hk : k < rs.length) : ∃ rv, SInts w rv (rw0 rs k) := by
  obtain ⟨A, c, -, -, -, h5⟩ := h
  obtain ⟨b, off, e, hb, hc⟩ := h5 (by omega)
  obtain ⟨rv, h6, h7⟩ := hc k hk
  exact ⟨rv, h7⟩

/-- How many numbers and rows there are. -/
def szR (rs : List (List Int)) : Nat → Nat
  | 0 => 0
  | k + 1 => szR rs k + (rw0 rs k).length

/-- The sizes of rows fit: the rest is r. Or they do not: the rest is -1. -/
def SzR (rs : List (List Int)) (n : Int) (w : World) (e : Ending) (w' : World) : Prop :=
  ∃ r : Int, e = .returned (.int .i64 r) ∧ (r = -1 ∨ 0 ≤ r ∧ r ≤ n ∧ (rs.length : Int) ≤ n ∧ r = n - rs.length - szR rs rs.length ∧ ∀ i, i < rs.length → ((rw0 rs i).length : Int) ≤ n) ∧ Ext w w'

/-- Block b holds the first k rows, each in a block of its own from B0 on; the other cells are nil. -/
def OwnK (B0 : Nat) (w : World) (b : Nat) (rs : List (List Int)) (k : Nat) : Prop :=
  ∃ g : Nat → Value, w.rowIs b 24 rs.length g ∧ (∀ i, k ≤ i → g i = .slice none 0 0) ∧
    ∀ i, i < k → ∃ bi, B0 ≤ bi ∧ bi ≠ b ∧ g i = .slice (some ⟨bi, 0, none⟩) (rw0 rs i).length (rw0 rs i).length ∧ w.rowIs bi 3 (rw0 rs i).length (icell (rw0 rs i) (rw0 rs i).length)
theorem OwnK.ext {B0 : Nat} {w w' : World} {b : Nat} {rs : List (List Int)} {k : Nat} (h : OwnK B0 w b rs k) (hx : Ext w w') : OwnK B0 w' b rs k := by
  obtain ⟨g, h1, h2, h3⟩ := h
  refine ⟨g, hx.row h1, h2, fun i hi => ?_⟩
  obtain ⟨bi, e1, e2, e3, e4⟩ := h3 i hi
  exact ⟨bi, e1, e2, e3, hx.row e4⟩
theorem OwnK.set_ {B0 : Nat} {w : World} {b : Nat} {rs : List (List Int)} {k bi : Nat} (h : OwnK B0 w b rs k) (hb : B0 ≤ bi) (hne : bi ≠ b)
    (hr : w.rowIs bi 3 (rw0 rs k).length (icell (rw0 rs k) (rw0 rs k).length)) :
    OwnK B0 (w.setCell ⟨b, k, none⟩ (.slice (some ⟨bi, 0, none⟩) (rw0 rs k).length (rw0 rs k).length)) b rs (k + 1) := by
  obtain ⟨g, h1, h2, h3⟩ := h
  refine ⟨_, h1.set k _, fun i hi => ?_, fun i hi => ?_⟩
  · show (if i = k then _ else g i) = _
    rw [if_neg (by omega), h2 i (by omega)]
  · show ∃ bi', B0 ≤ bi' ∧ bi' ≠ b ∧ (if i = k then _ else g i) = _ ∧ _
    by_cases hik : i = k
    · subst hik
      exact ⟨bi, hb, hne, by rw [if_pos rfl], hr.setOther hne _⟩
    · obtain ⟨bj, e1, e2, e3, e4⟩ := h3 i (by omega)
      exact ⟨bj, e1, e2, by rw [if_neg hik]; exact e3, e4.setOther e2 _⟩
theorem OwnK.rows {B0 : Nat} {w : World} {b : Nat} {rs : List (List Int)} (h : OwnK B0 w b rs rs.length) (hc : rs.length * 24 ≤ 140737488355328)
    (hl : ∀ i, i < rs.length → (rw0 rs i).length * 8 ≤ 140737488355328) (hi : ∀ i, i < rs.length → ∀ j, j < (rw0 rs i).length → I64 (at0 (rw0 rs i) j)) : SRows w (.slice (some ⟨b, 0, none⟩) rs.length rs.length) rs := by
  obtain ⟨g, h1, -, h3⟩ := h
  refine ⟨_, _, rfl, Nat.le_refl _, hc, fun _ => ⟨b, 0, rfl, h1.lt, fun i hi' => ?_⟩⟩
  obtain ⟨bi, e1, e2, e3, e4⟩ := h3 i hi'
  refine ⟨g i, by rw [Nat.zero_add]; exact h1.cell hi', ?_⟩
  rw [e3]
  exact SInts.of_row e4 (hl i hi') (hi i hi')
/-- The numbers and lengths are such as came in. -/
def OkRows (rs : List (List Int)) : Prop := rs.length * 24 ≤ 140737488355328 ∧ (∀ i, i < rs.length → (rw0 rs i).length * 8 ≤ 140737488355328) ∧ (∀ i, i < rs.length → ∀ j, j < (rw0 rs i).length → I64 (at0 (rw0 rs i) j))
theorem SRows.ok {w : World} {v : Value} {rs : List (List Int)} (h : SRows w v rs) : OkRows rs := by
  refine ⟨h.bytes, fun i hi => ?_, fun i hi j hj => ?_⟩
  · obtain ⟨rv, hr⟩ := h.rows hi
    exact hr.bytes
  · obtain ⟨rv, hr⟩ := h.rows hi
    exact hr.i64 hj
/-- A copy of rows in new memory. -/
def NewRows (rs : List (List Int)) (w : World) (e : Ending) (w' : World) : Prop :=
  ∃ b, w.heap.size ≤ b ∧ e = .returned (.slice (some ⟨b, 0, none⟩) rs.length rs.length) ∧ OwnK w.heap.size w' b rs rs.length ∧ Ext w w'

theorem Tryd.infoS : (Tryd.prog.info? 24).map (fun i => (i.zero, i.size, i.bytes)) = some (some (.slice none 0 0), 1, 24) := by kernel_rfl
end Go.Proofs.YtjpdebgejlfeaaaDoor
