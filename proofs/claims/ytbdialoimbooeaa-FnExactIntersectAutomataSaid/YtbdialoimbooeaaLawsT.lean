/- The walks of the laws' own helpers over tasks: size, copy, comparison. -/
import Derived.Test.YtbdialoimbooeaaLawsI
namespace Go.Proofs.Ytbdialoimbooeaa
open Go.RowKit

def tkV (t : Tk) : Value := .agg #[.int .i64 t.s, .int .i64 t.d, .int .i64 t.m]
/-- The copied cells: the first k tasks, then zeros. -/
def tcell (ts : List Tk) (k j : Nat) : Value :=
  if j < 3 * k then (if j % 3 = 0 then .int .i64 (tkS ts (j / 3)) else if j % 3 = 1 then .int .i64 (tkD ts (j / 3)) else .int .i64 (tkM ts (j / 3))) else .int .i64 0

theorem tcell_step (ts : List Tk) (k j : Nat) :
    (if j = k * 3 + 2 then Value.int .i64 (tkM ts k) else if j = k * 3 + 1 then .int .i64 (tkD ts k) else if j = k * 3 then .int .i64 (tkS ts k) else tcell ts k j) = tcell ts (k + 1) j := by
  unfold tcell
  by_cases h2 : j = k * 3 + 2
  · subst h2
    rw [if_pos rfl, if_pos (by omega), if_neg (by omega), if_neg (by omega), show (k * 3 + 2) / 3 = k by omega]
  by_cases h1 : j = k * 3 + 1
  · subst h1
    rw [if_neg (by omega), if_pos rfl, if_pos (by omega), if_neg (by omega), if_pos (by omega), show (k * 3 + 1) / 3 = k by omega]
  by_cases h0 : j = k * 3
  · subst h0
    rw [if_neg (by omega), if_neg (by omega), if_pos rfl, if_pos (by omega), if_pos (by omega), show (k * 3) / 3 = k by omega]
  rw [if_neg h2, if_neg h1, if_neg h0]
  by_cases h : j < 3 * k
  · rw [if_pos h, if_pos (show j < 3 * (k + 1) by omega)]
  · rw [if_neg h, if_neg (show ¬ j < 3 * (k + 1) by omega)]
theorem row_task {w : World} {b : Nat} {t : TypeId} {n : Nat} {ts : List Tk} {k : Nat} (h : w.rowIs b t n (tcell ts k)) :
    (((w.setCell ⟨b, k * 3, none⟩ (.int .i64 (tkS ts k))).setCell ⟨b, k * 3 + 1, none⟩ (.int .i64 (tkD ts k))).setCell ⟨b, k * 3 + 2, none⟩ (.int .i64 (tkM ts k))).rowIs b t n (tcell ts (k + 1)) :=
  (((h.set _ _).set _ _).set _ _).congr fun j _ => tcell_step ts k j
theorem STasks.of_row {w : World} {b : Nat} {t : TypeId} {ts : List Tk} (h : w.rowIs b t (ts.length * 3) (tcell ts ts.length)) (hc : ts.length * 24 ≤ 140737488355328)
    (hb : ∀ i, i < ts.length → I64 (tkS ts i) ∧ I64 (tkD ts i) ∧ I64 (tkM ts i)) : STasks w (.slice (some ⟨b, 0, none⟩) ts.length ts.length) ts := by
  refine ⟨_, _, rfl, Nat.le_refl _, hc, hb, fun _ => ⟨b, 0, rfl, h.lt, fun i hi => ⟨?_, ?_, ?_⟩⟩⟩
  · rw [Nat.zero_add, h.cell (by omega)]
    unfold tcell
    rw [if_pos (by omega), if_pos (by omega), show (i * 3) / 3 = i by omega]
  · rw [Nat.zero_add, h.cell (by omega)]
    unfold tcell
    rw [if_pos (by omega), if_neg (by omega), if_pos (by omega), show (i * 3 + 1) / 3 = i by omega]
  · rw [Nat.zero_add, h.cell (by omega)]
    unfold tcell
    rw [if_pos (by omega), if_neg (by omega), if_neg (by omega), show (i * 3 + 2) / 3 = i by omega]

end Go.Proofs.Ytbdialoimbooeaa
