/- Lists of clauses: how they read, and the walks of the laws' own copies, sizes and comparisons of them. -/
import Derived.Test.YtgpbmggfpbebmaaGreatLits
import Derived.Test.YtgpbmggfpbebmaaGreatAutB
namespace Go.Proofs.YtgpbmggfpbebmaaGreat
open Go.RowKit

/-- v is a slice of slices that read as the rows rs. -/
def SCls (w : World) (v : Value) (rs : List (List Lt)) : Prop :=
  ∃ A c, v = .slice A rs.length c ∧ rs.length ≤ c ∧ rs.length * 24 ≤ 140737488355328 ∧
    (0 < rs.length → ∃ b off, A = some ⟨b, off, none⟩ ∧ b < w.heap.size ∧ ∀ i, i < rs.length → ∃ rv, w.cell? ⟨b, off + i, none⟩ = some rv ∧ SLt w rv (cl0 rs i))
theorem SCls.ext {w w' : World} {v : Value} {rs : List (List Lt)} (h : SCls w v rs) (hx : Ext w w') : SCls w' v rs := by
  obtain ⟨A, c, h1, h2, h3, h5⟩ := h
  refine ⟨A, c, h1, h2, h3, fun hp => ?_⟩
  obtain ⟨b, off, e, hb, hc⟩ := h5 hp
  refine ⟨b, off, e, Nat.lt_of_lt_of_le hb hx.size, fun i hi => ?_⟩
  obtain ⟨rv, h6, h7⟩ := hc i hi
  exact ⟨rv, (hx.cell (p := ⟨b, off + i, none⟩) hb).trans h6, h7.ext hx⟩
theorem SCls.form {w : World} {v : Value} {rs : List (List Lt)} (h : SCls w v rs) : ∃ A c, v = .slice A rs.length c ∧ rs.length ≤ c ∧ rs.length ≤ 5864062014805 := by
  obtain ⟨A, c, h1, h2, h3, -⟩ := h
  exact ⟨A, c, h1, h2, by omega⟩
theorem SCls.bytes {w : World} {v : Value} {rs : List (List Lt)} (h : SCls w v rs) : rs.length * 24 ≤ 140737488355328 := by
  obtain ⟨A, c, -, -, h3, -⟩ := h
  exact h3
theorem SCls.at_ {w : World} {A : Option Addr} {n c : Nat} {rs : List (List Lt)} (h : SCls w (.slice A n c) rs) {k : Nat} (hk : k < rs.length) :
    ∃ b off A' c', A = some ⟨b, off, none⟩ ∧ b < w.heap.size ∧ w.cell? ⟨b, off + k, none⟩ = some (.slice A' (cl0 rs k).length c') ∧ SLt w (.slice A' (cl0 rs k).length c') (cl0 rs k) := by
  obtain ⟨A', c', h1, -, -, h5⟩ := h
  injection h1 with e1 e2 e3
  subst e1
  obtain ⟨b, off, e, hb, hc⟩ := h5 (by omega)
  obtain ⟨rv, h6, h7⟩ := hc k hk
  obtain ⟨A2, c2, rfl, -, -⟩ := h7.form
  exact ⟨b, off, A2, c2, e, hb, h6, h7⟩
theorem SCls.rows {w : World} {v : Value} {rs : List (List Lt)} (h : SCls w v rs) {k : Nat} (hk : k < rs.length) : ∃ rv, SLt w rv (cl0 rs k) := by
  obtain ⟨A, c, -, -, -, h5⟩ := h
  obtain ⟨b, off, e, hb, hc⟩ := h5 (by omega)
  obtain ⟨rv, h6, h7⟩ := hc k hk
  exact ⟨rv, h7⟩

/-- How many numbers and rows there are. -/
def szL (rs : List (List Lt)) : Nat → Nat
  | 0 => 0
  | k + 1 => szL rs k + (cl0 rs k).length

/-- The sizes of rows fit: the rest is r. Or they do not: the rest is -1. -/
def SzL (rs : List (List Lt)) (n : Int) (w : World) (e : Ending) (w' : World) : Prop :=
  ∃ r : Int, e = .returned (.int .i64 r) ∧ (r = -1 ∨ 0 ≤ r ∧ r ≤ n ∧ (rs.length : Int) ≤ n ∧ r = n - rs.length - szL rs rs.length ∧ ∀ i, i < rs.length → ((cl0 rs i).length : Int) ≤ n) ∧ Ext w w'

/-- Block b holds the first k rows, each in a block of its own from B0 on; the other cells are nil. -/
def OwnL (B0 : Nat) (w : World) (b : Nat) (rs : List (List Lt)) (k : Nat) : Prop :=
  ∃ g : Nat → Value, w.rowIs b 35 rs.length g ∧ (∀ i, k ≤ i → g i = .slice none 0 0) ∧
    ∀ i, i < k → ∃ bi, B0 ≤ bi ∧ bi ≠ b ∧ g i = .slice (some ⟨bi, 0, none⟩) (cl0 rs i).length (cl0 rs i).length ∧ w.rowIs bi 56 ((cl0 rs i).length * 3) (lcell (cl0 rs i) (cl0 rs i).length)
theorem OwnL.ext {B0 : Nat} {w w' : World} {b : Nat} {rs : List (List Lt)} {k : Nat} (h : OwnL B0 w b rs k) (hx : Ext w w') : OwnL B0 w' b rs k := by
  obtain ⟨g, h1, h2, h3⟩ := h
  refine ⟨g, hx.row h1, h2, fun i hi => ?_⟩
  obtain ⟨bi, e1, e2, e3, e4⟩ := h3 i hi
  exact ⟨bi, e1, e2, e3, hx.row e4⟩
theorem OwnL.set_ {B0 : Nat} {w : World} {b : Nat} {rs : List (List Lt)} {k bi : Nat} (h : OwnL B0 w b rs k) (hb : B0 ≤ bi) (hne : bi ≠ b)
    (hr : w.rowIs bi 56 ((cl0 rs k).length * 3) (lcell (cl0 rs k) (cl0 rs k).length)) :
    OwnL B0 (w.setCell ⟨b, k, none⟩ (.slice (some ⟨bi, 0, none⟩) (cl0 rs k).length (cl0 rs k).length)) b rs (k + 1) := by
  obtain ⟨g, h1, h2, h3⟩ := h
  refine ⟨_, h1.set k _, fun i hi => ?_, fun i hi => ?_⟩
  · show (if i = k then _ else g i) = _
    rw [if_neg (by omega), h2 i (by omega)]
  · show ∃ bi', B0 ≤ bi' ∧ bi' ≠ b ∧ (if i = k then _ else g i) = _ ∧ _
    by_cases hik : i = k
    · subst hik
      exact ⟨bi, hb, hne, by rw [if_pos rfl], hr.setOther hne _⟩
    · obtain ⟨bj, e1, e2, e3, e4⟩ := h3 i (by omega)
      exact ⟨bj, e1, e2, by rw [if_neg hik]; exact e3, e4.setOther e2 _⟩
theorem OwnL.rows {B0 : Nat} {w : World} {b : Nat} {rs : List (List Lt)} (h : OwnL B0 w b rs rs.length) (hc : rs.length * 24 ≤ 140737488355328)
    (hl : ∀ i, i < rs.length → (cl0 rs i).length * 24 ≤ 140737488355328) : SCls w (.slice (some ⟨b, 0, none⟩) rs.length rs.length) rs := by
  obtain ⟨g, h1, -, h3⟩ := h
  refine ⟨_, _, rfl, Nat.le_refl _, hc, fun _ => ⟨b, 0, rfl, h1.lt, fun i hi' => ?_⟩⟩
  obtain ⟨bi, e1, e2, e3, e4⟩ := h3 i hi'
  refine ⟨g i, by rw [Nat.zero_add]; exact h1.cell hi', ?_⟩
  rw [e3]
  exact SLt.of_row e4 (hl i hi')
/-- The numbers and lengths are such as came in. -/
def OkCls (rs : List (List Lt)) : Prop := rs.length * 24 ≤ 140737488355328 ∧ (∀ i, i < rs.length → (cl0 rs i).length * 24 ≤ 140737488355328)
theorem SCls.ok {w : World} {v : Value} {rs : List (List Lt)} (h : SCls w v rs) : OkCls rs := by
  refine ⟨h.bytes, fun i hi => ?_⟩
  obtain ⟨rv, A, c, -, -, h3, -⟩ := h.rows hi
  exact h3
/-- A copy of rows in new memory. -/
def NewCls (rs : List (List Lt)) (w : World) (e : Ending) (w' : World) : Prop :=
  ∃ b, w.heap.size ≤ b ∧ e = .returned (.slice (some ⟨b, 0, none⟩) rs.length rs.length) ∧ OwnL w.heap.size w' b rs rs.length ∧ Ext w w'

theorem Tryz.infoLS : (Tryz.prog.info? 35).map (fun i => (i.zero, i.size, i.bytes)) = some (some (.slice none 0 0), 1, 24) := by kernel_rfl
end Go.Proofs.YtgpbmggfpbebmaaGreat
