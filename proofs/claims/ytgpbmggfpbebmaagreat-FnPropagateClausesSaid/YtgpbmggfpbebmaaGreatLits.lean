/- Literals: how they read; the laws' copies, sizes and comparisons of them. -/
import Derived.Test.YtgpbmggfpbebmaaGreatLawM
import Derived.Test.YtgpbmggfpbebmaaGreatQ11
import Derived.Test.YtgpbmggfpbebmaaGreatDom
import Derived.Test.YtgpbmggfpbebmaaGreatClsP
namespace Go.Proofs.YtgpbmggfpbebmaaGreat
open Go.RowKit

/-- v is a slice whose cells read as the literals rs. -/
def SLt (w : World) (v : Value) (rs : List Lt) : Prop :=
  ∃ A c, v = .slice A rs.length c ∧ rs.length ≤ c ∧ rs.length * 24 ≤ 140737488355328 ∧
    (0 < rs.length → ∃ b off, A = some ⟨b, off, none⟩ ∧ b < w.heap.size ∧ ∀ i, i < rs.length → w.cell? ⟨b, off + i * 3, none⟩ = some (.int .i64 (ltX rs i)) ∧ w.cell? ⟨b, off + i * 3 + 1, none⟩ = some (.int .i64 (ltV rs i)) ∧ w.cell? ⟨b, off + i * 3 + 2, none⟩ = some (.bool (ltN rs i)))
theorem SLt.ext {w w' : World} {v : Value} {rs : List Lt} (h : SLt w v rs) (hx : Ext w w') : SLt w' v rs := by
  obtain ⟨A, c, h1, h2, h3, h5⟩ := h
  refine ⟨A, c, h1, h2, h3, fun hp => ?_⟩
  obtain ⟨b, off, e, hb, hc⟩ := h5 hp
  refine ⟨b, off, e, Nat.lt_of_lt_of_le hb hx.size, fun i hi => ?_⟩
  obtain ⟨g1, g2, g3⟩ := hc i hi
  exact ⟨(hx.cell (p := ⟨b, _, none⟩) hb).trans g1, (hx.cell (p := ⟨b, _, none⟩) hb).trans g2, (hx.cell (p := ⟨b, _, none⟩) hb).trans g3⟩
theorem SLt.form {w : World} {v : Value} {rs : List Lt} (h : SLt w v rs) : ∃ A c, v = .slice A rs.length c ∧ rs.length ≤ c ∧ rs.length ≤ 5864062014805 := by
  obtain ⟨A, c, h1, h2, h3, -⟩ := h
  exact ⟨A, c, h1, h2, by omega⟩
theorem SLt.at_ {w : World} {A : Option Addr} {n c : Nat} {rs : List Lt} (h : SLt w (.slice A n c) rs) {k : Nat} (hk : k < rs.length) :
    ∃ b off, A = some ⟨b, off, none⟩ ∧ b < w.heap.size ∧ w.cell? ⟨b, off + k * 3, none⟩ = some (.int .i64 (ltX rs k)) ∧ w.cell? ⟨b, off + k * 3 + 1, none⟩ = some (.int .i64 (ltV rs k)) ∧ w.cell? ⟨b, off + k * 3 + 2, none⟩ = some (.bool (ltN rs k)) := by
  obtain ⟨A', c', h1, -, -, h5⟩ := h
  injection h1 with e1 e2 e3
  subst e1
  obtain ⟨b, off, e, hb, hc⟩ := h5 (by omega)
  exact ⟨b, off, e, hb, hc k hk⟩
theorem SLt.nil_ (w : World) : SLt w (.slice none 0 0) [] := ⟨none, 0, rfl, Nat.le_refl _, by simp, fun h => absurd h (by simp)⟩
def ltW (r : Lt) : Value := .agg #[.int .i64 r.x, .int .i64 r.v, .bool r.n]
theorem Tryz.infoLt : (Tryz.prog.info? 56).map (fun i => (i.zero, i.size, i.bytes)) = some (some (.agg #[.int .i64 0, .int .i64 0, .bool false]), 3, 24) := by kernel_rfl
/-- The copied cells: the first k literals, then zeros. -/
def lcell (rs : List Lt) (k j : Nat) : Value := if j < 3 * k then (if j % 3 = 0 then .int .i64 (ltX rs (j / 3)) else if j % 3 = 1 then .int .i64 (ltV rs (j / 3)) else .bool (ltN rs (j / 3))) else (if j % 3 = 2 then .bool false else .int .i64 0)
theorem lcell_step (rs : List Lt) (k j : Nat) : (if j = k * 3 + 2 then Value.bool (ltN rs k) else if j = k * 3 + 1 then .int .i64 (ltV rs k) else if j = k * 3 then .int .i64 (ltX rs k) else lcell rs k j) = lcell rs (k + 1) j := by
  unfold lcell
  by_cases h2 : j = k * 3 + 2
  · subst h2
    rw [if_pos rfl, if_pos (by omega), if_neg (by omega), if_neg (by omega), show (k * 3 + 2) / 3 = k by omega]
  by_cases h1 : j = k * 3 + 1
  · subst h1
    rw [if_neg (by omega), if_pos rfl, if_pos (by omega), if_neg (by omega), if_pos (by omega), show (k * 3 + 1) / 3 = k by omega]
  by_cases h0 : j = k * 3
  · subst h0
    rw [if_neg (by omega), if_neg (by omega), if_pos rfl, if_pos (by omega), if_pos (by omega), show (k * 3) / 3 = k by omega]
  rw [if_neg h2, if_neg h1, if_neg h0]
  by_cases h : j < 3 * k
  · rw [if_pos h, if_pos (show j < 3 * (k + 1) by omega)]
  · rw [if_neg h, if_neg (show ¬ j < 3 * (k + 1) by omega)]
theorem SLt.of_row {w : World} {b : Nat} {t : TypeId} {rs : List Lt} (h : w.rowIs b t (rs.length * 3) (lcell rs rs.length)) (hc : rs.length * 24 ≤ 140737488355328) : SLt w (.slice (some ⟨b, 0, none⟩) rs.length rs.length) rs := by
  refine ⟨_, _, rfl, Nat.le_refl _, hc, fun _ => ⟨b, 0, rfl, h.lt, fun i hi => ⟨?_, ?_, ?_⟩⟩⟩
  · rw [Nat.zero_add, h.cell (by omega)]
    unfold lcell
    rw [if_pos (by omega), if_pos (by omega), show (i * 3) / 3 = i by omega]
  · rw [Nat.zero_add, h.cell (by omega)]
    unfold lcell
    rw [if_pos (by omega), if_neg (by omega), if_pos (by omega), show (i * 3 + 1) / 3 = i by omega]
  · rw [Nat.zero_add, h.cell (by omega)]
    unfold lcell
    rw [if_pos (by omega), if_neg (by omega), if_neg (by omega), show (i * 3 + 2) / 3 = i by omega]
theorem zero3l (i : Nat) : (Value.agg #[.int .i64 0, .int .i64 0, .bool false]).cells[i % (Value.agg #[.int .i64 0, .int .i64 0, .bool false]).cells.size]! = if i % 3 = 2 then .bool false else .int .i64 0 := by
  have h2 : i % 3 < 3 := Nat.mod_lt _ (by omega)
  show #[Value.int .i64 0, Value.int .i64 0, Value.bool false][i % 3]! = _
  generalize i % 3 = q at h2
  match q, h2 with
  | 0, _ => rfl
  | 1, _ => rfl
  | 2, _ => rfl
def NewLts (rs : List Lt) (w : World) (e : Ending) (w' : World) : Prop :=
  ∃ b, w.heap.size ≤ b ∧ e = .returned (.slice (some ⟨b, 0, none⟩) rs.length rs.length) ∧ w'.rowIs b 56 (rs.length * 3) (lcell rs rs.length) ∧ Ext w w'
end Go.Proofs.YtgpbmggfpbebmaaGreat
