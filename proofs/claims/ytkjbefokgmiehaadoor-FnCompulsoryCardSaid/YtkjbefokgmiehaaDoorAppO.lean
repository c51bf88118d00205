/- append to a slice of the call's own, told which block it writes and where the result lies. -/
import Derived.Test.YtkjbefokgmiehaaDoorAppR
import Derived.Test.YtkjbefokgmiehaaDoorRF
import Derived.Laws.OwnMore
import Derived.ArgAppend
namespace Go.Proofs.YtkjbefokgmiehaaDoor
open Go.RowKit

theorem ownsRow_base {w : World} {b1 b2 size n : Nat} {e : TypeId} {v : Value} {xs : List Value} (h : w.ownsRow b2 e size v n xs) (hb : b1 ≤ b2) : w.ownsRow b1 e size v n xs := by
  refine ⟨h.1, ?_⟩
  rcases h.2 with hn | ⟨g, cap, cur, e1, hg, rest⟩
  · exact .inl hn
  · exact .inr ⟨g, cap, cur, e1, by omega, rest⟩
theorem run_append_kind {P : Program} (w : World) (base : Nat) (t ty e : TypeId) (i : TypeInfo) (z : Value) (bytes : Nat) (ht : P.underlying t = some (.slice e)) (hi : P.info? e = some i) (hz : i.zero = some z)
    (hsz : i.size = 1) (hby : i.bytes = bytes) (hzs : z.cells.size = 1) (v : Value) (k : Nat) (xs : List Value) (hown : w.ownsRow base e 1 v k xs) (b c : Nat) (u : Value) (hu : w.cell? ⟨b, 0, none⟩ = some u) (hu1 : u.oneCell' = true)
    (h1 : k + 1 ≤ maxLen) (h2 : (k + 1) * bytes ≤ 140737488355328) (hb : base ≤ w.heap.size) :
    ∃ v' w', (Builtin.append_ #[t, t] ty #[v, .slice (some ⟨b, 0, none⟩) 1 c]).run P w = .ok v' w' ∧ w'.ownsRow base e 1 v' (k + 1) (xs ++ [u]) ∧ w.grownBy w' v.ownBlock ∧ (∀ g, v'.ownBlock = some g → v.ownBlock = some g ∨ w.heap.size ≤ g) := by
  have hn : ∀ (j : Nat) (u' : Value), [u][j]? = some u' → w.cell? ((⟨b, 0, none⟩ : Addr).add j) = some u' := by
    intro j u' hj
    match j with
    | 0 => simp at hj; subst hj; simpa [Addr.add] using hu
    | j + 1 => simp at hj
  have hone : ∀ u' ∈ [u], u'.oneCell' = true := by intro u' h; simp at h; subst h; exact hu1
  rcases hown.2 with ⟨rfl, rfl⟩ | ⟨g, cap, cur, rfl, hg, hh, hnc, hcm, hcs, htk⟩
  · obtain rfl : xs = [] := List.length_eq_zero_iff.1 (by simpa using hown.1)
    obtain ⟨v', w', e1, e2, e3, -⟩ := run_append_own (P := P) w w.heap.size t ty e i z 1 bytes ht hi hz hsz hby hzs (by omega) (.slice none 0 0) 0 [] (World.ownsRow_nil w _ _ _) ⟨b, 0, none⟩ 1 c [u] rfl hn hone h1 h2 (Nat.le_refl _)
    exact ⟨v', w', e1, ownsRow_base e2 hb, e3, fun g hg => .inr (World.ownsRow.lt e2 g hg).1⟩
  · by_cases hlt : k + 1 ≤ cap
    · obtain ⟨w', e1, e2, e3⟩ := run_append_fits (P := P) w base t ty e i 1 ht hi hsz g k cap xs hown ⟨b, 0, none⟩ 1 c [u] rfl hn hone hlt
      exact ⟨_, w', e1, e2, e3, fun g' hg' => .inl hg'⟩
    · have hcell : ∀ (j : Nat) (u' : Value), xs[j]? = some u' → w.cell? ((⟨g, 0, none⟩ : Addr).add j) = some u' := by
        intro j u' hj
        have hjl : j < k * 1 := by rw [← hown.1]; exact (List.getElem?_eq_some_iff.1 hj).1
        have e1 : (cur.toList.take (k * 1))[j]? = xs[j]? := by rw [htk]
        rw [List.getElem?_take, if_pos hjl, hj, Array.getElem?_toList] at e1
        have hadd : (⟨g, 0, none⟩ : Addr).add j = ⟨g, j, none⟩ := by unfold Addr.add; split <;> simp_all
        rw [hadd]
        simp [World.cell?, hh, e1]
      obtain ⟨v', w', e1, e2, e3⟩ := run_append_arg_grows (P := P) w t ty e i z 1 bytes ht hi hz hsz hby hzs (by omega) ⟨g, 0, none⟩ k cap xs hown.1 hcell ⟨b, 0, none⟩ 1 c [u] rfl hn (by omega) h1 h2
      exact ⟨v', w', e1, ownsRow_base e2 hb, ⟨e3.os, e3.tape, e3.output, e3.size, fun k hk _ => e3.block k hk (by simp)⟩, fun g' hg' => .inr (World.ownsRow.lt e2 g' hg').1⟩
/-- v is a slice at the head of a block whose first cells read as xs. -/
def RowW (w : World) (v : Value) (xs : List Int) : Prop :=
  ∃ g cap m f, v = .slice (some ⟨g, 0, none⟩) xs.length cap ∧ xs.length ≤ cap ∧ xs.length ≤ m ∧ w.rowIs g 3 m f ∧ ∀ i, i < xs.length → f i = vI (at0 xs i)
theorem RowW.one {w : World} {v : Value} {xs : List Int} (h : RowW w v xs) : v.oneCell' = true := by
  obtain ⟨g, cap, m, f, rfl, -⟩ := h
  rfl
theorem RowW.ints {w : World} {v : Value} {xs : List Int} (h : RowW w v xs) (hc : xs.length * 8 ≤ 140737488355328) (hb : ∀ i, i < xs.length → I64 (at0 xs i)) : SInts w v xs := by
  obtain ⟨g, cap, m, f, rfl, h1, h2, h3, h4⟩ := h
  exact ⟨_, _, rfl, h1, hc, hb, fun _ => ⟨g, 0, rfl, h3.lt, fun i hi => by rw [Nat.zero_add, h3.cell (by omega), h4 i hi]; rfl⟩⟩
theorem RowW.own {w : World} {xs : List Int} {A : Option Addr} {c b m : Nat} {f : Nat → Value} (hc : xs.length ≤ c) (h : OwnC w A b m f xs) (hp : 0 < xs.length) : A = some ⟨b, 0, none⟩ ∧ RowW w (.slice A xs.length c) xs := by
  obtain ⟨rfl, h2, h3, h4⟩ := h hp
  exact ⟨rfl, b, c, m, f, rfl, hc, h3, h2, h4⟩
/-- v is nil, or a slice of the call's own whose cells are slices that read as the rows rs; all its blocks are such as S names. -/
def AppRS (S : Nat → Prop) (w : World) (v : Value) (rs : List (List Int)) : Prop :=
  ∃ cells, w.ownsRow 0 30 1 v rs.length cells ∧ (∀ g, v.ownBlock = some g → S g) ∧ ∀ i, i < rs.length → ∃ cv, cells[i]? = some cv ∧ RowW w cv (rw0 rs i) ∧ (∀ g, cv.ownBlock = some g → S g)
theorem AppRS.nil_ (S : Nat → Prop) (w : World) : AppRS S w (.slice none 0 0) [] := ⟨[], World.ownsRow_nil w 0 _ _, (fun g hg => by cases hg), fun i hi => absurd hi (by simp)⟩
theorem AppRS.empty (S : Nat → Prop) (w : World) {o : Obj} (ho : o = .cells #[] 30) (hS : S w.heap.size) : AppRS S (w.alloc o) (.slice (some ⟨w.heap.size, 0, none⟩) 0 0) [] := by
  subst ho
  exact ⟨[], World.ownsRow_lit (size := 1) (e := 30) w #[] 0 (Nat.zero_le _) (by unfold maxLen; omega) rfl, (fun g hg => by cases hg; exact hS), fun i hi => absurd hi (by simp)⟩
theorem AppRS.form {S : Nat → Prop} {w : World} {v : Value} {rs : List (List Int)} (h : AppRS S w v rs) : ∃ A c, v = .slice A rs.length c ∧ rs.length ≤ c := by
  obtain ⟨cells, h, -⟩ := h
  rcases h.2 with ⟨h1, h2⟩ | ⟨g, cap, cur, h1, -, -, h2, -⟩
  · exact ⟨none, 0, by rw [h1, h2], by omega⟩
  · exact ⟨_, _, h1, h2⟩
theorem AppRS.rows {S : Nat → Prop} {w : World} {v : Value} {rs : List (List Int)} (h : AppRS S w v rs) (hc : rs.length * 24 ≤ 140737488355328)
    (hl : ∀ i, i < rs.length → (rw0 rs i).length * 8 ≤ 140737488355328) (hi : ∀ i, i < rs.length → ∀ j, j < (rw0 rs i).length → I64 (at0 (rw0 rs i) j)) : SRows w v rs := by
  obtain ⟨cells, h1, -, h2⟩ := h
  rcases h1.2 with ⟨e1, e2⟩ | ⟨g, cap, cur, e1, hg, hh, hnc, hm, hcs, htk⟩
  · exact ⟨none, 0, by rw [e1, e2], by omega, hc, fun hp => absurd hp (by omega)⟩
  · refine ⟨_, _, e1, hnc, hc, fun _ => ⟨g, 0, rfl, (Array.getElem?_eq_some_iff.1 hh).1, fun i hi' => ?_⟩⟩
    obtain ⟨cv, h3, h4, -⟩ := h2 i hi'
    refine ⟨cv, ?_, h4.ints (hl i hi') (hi i hi')⟩
    have e3 : (cur.toList.take (rs.length * 1))[i]? = cells[i]? := by rw [htk]
    rw [List.getElem?_take, if_pos (by omega), h3, Array.getElem?_toList] at e3
    simp [World.cell?, hh, e3]
/-- It abides whatever leaves the blocks that S names. -/
theorem AppRS.keep {S T : Nat → Prop} {w w' : World} {v : Value} {rs : List (List Int)} (h : AppRS S w v rs) (hk : Keep T w w') (hST : ∀ k, S k → T k) : AppRS S w' v rs := by
  obtain ⟨cells, h1, hv, h2⟩ := h
  refine ⟨cells, ⟨h1.1, ?_⟩, hv, fun i hi => ?_⟩
  · rcases h1.2 with hn | ⟨g, cap, cur, e, hb, hgg, rest⟩
    · exact .inl hn
    · exact .inr ⟨g, cap, cur, e, hb, (hk.block g (Array.getElem?_eq_some_iff.1 hgg).1 (hST g (hv g (by rw [e]; rfl)))).trans hgg, rest⟩
  · obtain ⟨cv, h3, ⟨g, cap, m, f, k1, k2, k3, k4, k5⟩, h6⟩ := h2 i hi
    exact ⟨cv, h3, ⟨g, cap, m, f, k1, k2, k3, hk.row (hST g (h6 g (by rw [k1]; rfl))) k4, k5⟩, h6⟩
theorem AppRS.ext {S : Nat → Prop} {w w' : World} {v : Value} {rs : List (List Int)} (h : AppRS S w v rs) (hx : Ext w w') : AppRS S w' v rs := h.keep (hx.keep S) (fun _ h => h)
theorem Keep.of_grown {w w' : World} {r : Option Nat} (h : w.grownBy w' r) : Keep (fun k => r ≠ some k) w w' := ⟨h.os, h.tape, h.output, h.size, fun k hk hs => h.block k hk (fun e => hs e.symm)⟩
end Go.Proofs.YtkjbefokgmiehaaDoor
