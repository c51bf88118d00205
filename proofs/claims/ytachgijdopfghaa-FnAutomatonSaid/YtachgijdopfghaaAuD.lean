/- Draws of the generator: tables whose rows are known by their bounds alone. -/
import Derived.Test.YtachgijdopfghaaDrwA
namespace Go.Proofs.Ytachgijdopfghaa
open Go.RowKit

/-- A row of numbers of a range at the head of a block that S names; its length is told by P. -/
def LRow (S P : Nat → Prop) (w : World) (v : Value) (lo hi : Int) : Prop :=
  ∃ b l cp m f, v = .slice (some ⟨b, 0, none⟩) l cp ∧ P l ∧ l ≤ cp ∧ l ≤ m ∧ S b ∧ w.rowIs b 3 m f ∧ ∀ t, t < l → ∃ x : Int, f t = vI x ∧ lo ≤ x ∧ x ≤ hi
theorem LRow.keep {S T P : Nat → Prop} {w w' : World} {v : Value} {lo hi : Int} (h : LRow S P w v lo hi) (hk : Keep T w w') (hS : ∀ k, S k → T k) : LRow S P w' v lo hi := by
  obtain ⟨b, l, cp, m, f, h1, h2, h3, h4, h5, h6, h7⟩ := h
  exact ⟨b, l, cp, m, f, h1, h2, h3, h4, h5, hk.row (hS b h5) h6, h7⟩
theorem LRow.mono {S T P Q : Nat → Prop} {w : World} {v : Value} {lo hi lo' hi' : Int} (h : LRow S P w v lo hi) (hS : ∀ k, S k → T k) (hP : ∀ l, P l → Q l) (hl : lo' ≤ lo) (hh : hi ≤ hi') : LRow T Q w v lo' hi' := by
  obtain ⟨b, l, cp, m, f, h1, h2, h3, h4, h5, h6, h7⟩ := h
  exact ⟨b, l, cp, m, f, h1, hP l h2, h3, h4, hS b h5, h6, fun t ht => by obtain ⟨x, a, b, c⟩ := h7 t ht; exact ⟨x, a, by omega, by omega⟩⟩
/-- A number of the range is written into a row's block: a row stays a row. -/
theorem LRow.set {S P : Nat → Prop} {w : World} {v : Value} {lo hi : Int} (h : LRow S P w v lo hi) (b t : Nat) {x : Int} (hx : lo ≤ x ∧ x ≤ hi) : LRow S P (w.setCell ⟨b, t, none⟩ (.int .i64 x)) v lo hi := by
  obtain ⟨b', l, cp, m, f, h1, h2, h3, h4, h5, h6, h7⟩ := h
  by_cases e : b' = b
  · subst e
    refine ⟨b', l, cp, m, _, h1, h2, h3, h4, h5, h6.set t (.int .i64 x), fun u hu => ?_⟩
    show ∃ y : Int, (if u = t then _ else f u) = vI y ∧ _
    by_cases eu : u = t
    · rw [if_pos eu]; exact ⟨x, rfl, hx⟩
    · rw [if_neg eu]; exact h7 u hu
  · exact ⟨b', l, cp, m, f, h1, h2, h3, h4, h5, ((Keep.refl (fun k => k ≠ b) w).set (p := ⟨b, t, none⟩) (fun _ hh => hh rfl) _).row e h6, h7⟩
/-- A table of n such rows. -/
def LTab (S P : Nat → Prop) (w : World) (v : Value) (n : Nat) (lo hi : Int) : Prop :=
  ∃ cells, w.ownsRow 0 24 1 v n cells ∧ (∀ g, v.ownBlock = some g → S g) ∧ ∀ i, i < n → ∃ cv, cells[i]? = some cv ∧ LRow S P w cv lo hi
theorem LTab.keep {S T P : Nat → Prop} {w w' : World} {v : Value} {n : Nat} {lo hi : Int} (h : LTab S P w v n lo hi) (hk : Keep T w w') (hS : ∀ k, S k → T k) : LTab S P w' v n lo hi := by
  obtain ⟨cells, h1, h2, h3⟩ := h
  refine ⟨cells, ⟨h1.1, ?_⟩, h2, fun i hi => by obtain ⟨cv, a, b⟩ := h3 i hi; exact ⟨cv, a, b.keep hk hS⟩⟩
  rcases h1.2 with hn | ⟨g, cap, cur, e, hbg, hgg, rest⟩
  · exact .inl hn
  · exact .inr ⟨g, cap, cur, e, hbg, (hk.block g (Array.getElem?_eq_some_iff.1 hgg).1 (hS g (h2 g (by rw [e]; rfl)))).trans hgg, rest⟩
theorem LTab.ext {S P : Nat → Prop} {w w' : World} {v : Value} {n : Nat} {lo hi : Int} (h : LTab S P w v n lo hi) (hx : Ext w w') : LTab S P w' v n lo hi := h.keep (hx.keep S) (fun _ h => h)
theorem LTab.mono {S T P Q : Nat → Prop} {w : World} {v : Value} {n : Nat} {lo hi lo' hi' : Int} (h : LTab S P w v n lo hi) (hS : ∀ k, S k → T k) (hP : ∀ l, P l → Q l) (hl : lo' ≤ lo) (hh : hi ≤ hi') : LTab T Q w v n lo' hi' := by
  obtain ⟨cells, h1, h2, h3⟩ := h
  exact ⟨cells, h1, fun g hg => hS g (h2 g hg), fun i hi => by obtain ⟨cv, a, b⟩ := h3 i hi; exact ⟨cv, a, b.mono hS hP hl hh⟩⟩
theorem LTab.form {S P : Nat → Prop} {w : World} {v : Value} {n : Nat} {lo hi : Int} (h : LTab S P w v n lo hi) : ∃ A c, v = .slice A n c ∧ n ≤ c := by
  obtain ⟨cells, h1, -⟩ := h
  rcases h1.2 with ⟨e1, e2⟩ | ⟨g, cap, cur, e1, -, -, e2, -⟩
  · exact ⟨none, 0, by rw [e1, e2], by omega⟩
  · exact ⟨_, _, e1, e2⟩
/-- Row i: the cell that holds it, and what it is. -/
theorem LTab.row {S P : Nat → Prop} {w : World} {v : Value} {n i : Nat} {lo hi : Int} (h : LTab S P w v n lo hi) (hi' : i < n) :
    ∃ g cap b l cp m f, v = .slice (some ⟨g, 0, none⟩) n cap ∧ n ≤ cap ∧ S g ∧ g < w.heap.size ∧ g ≠ b ∧ w.cell? ⟨g, i, none⟩ = some (.slice (some ⟨b, 0, none⟩) l cp) ∧ w.frozen? ⟨g, i, none⟩ = false ∧ P l ∧ l ≤ cp ∧ l ≤ m ∧ S b ∧ b < w.heap.size ∧ w.rowIs b 3 m f ∧ ∀ t, t < l → ∃ x : Int, f t = vI x ∧ lo ≤ x ∧ x ≤ hi := by
  obtain ⟨cells, h1, h2, h3⟩ := h
  obtain ⟨cv, a, b, l, cp, m, f, rfl, q1, q2, q3, q4, q5, q6⟩ := h3 i hi'
  rcases h1.2 with ⟨-, e2⟩ | ⟨g, cap, cur, e1, -, hh, hnc, hm, hcs, htk⟩
  · omega
  · have hgs := (Array.getElem?_eq_some_iff.1 hh).1
    have hne : g ≠ b := by
      rintro rfl
      obtain ⟨cur', k2, -⟩ := q5
      rw [hh] at k2
      injection k2 with k2
      injection k2 with _ k3
      cases k3
    refine ⟨g, cap, b, l, cp, m, f, e1, hnc, h2 g (by rw [e1]; rfl), hgs, hne, ?_, ?_, q1, q2, q3, q4, q5.lt, q5, q6⟩
    · have e5 : (cur.toList.take (n * 1))[i]? = cells[i]? := by rw [htk]
      rw [List.getElem?_take, if_pos (by omega), Array.getElem?_toList, a] at e5
      simp [World.cell?, hh, e5]
    · simp [World.frozen?, hh]
/-- A number is written into a row. -/
theorem LTab.setn {S P : Nat → Prop} {w : World} {v : Value} {n : Nat} {lo hi : Int} (h : LTab S P w v n lo hi) {b m : Nat} {f : Nat → Value} (hr : w.rowIs b 3 m f) (t : Nat) {x : Int} (hx : lo ≤ x ∧ x ≤ hi) : LTab S P (w.setCell ⟨b, t, none⟩ (.int .i64 x)) v n lo hi := by
  obtain ⟨cells, h1, h2, h3⟩ := h
  refine ⟨cells, ⟨h1.1, ?_⟩, h2, fun i hi => by obtain ⟨cv, a, b⟩ := h3 i hi; exact ⟨cv, a, b.set _ _ hx⟩⟩
  rcases h1.2 with hn | ⟨g, cap, cur, e, hbg, hgg, rest⟩
  · exact .inl hn
  · have hne : g ≠ b := by
      rintro rfl
      obtain ⟨cur', k2, -⟩ := hr
      rw [hgg] at k2
      injection k2 with k2
      injection k2 with _ k3
      cases k3
    exact .inr ⟨g, cap, cur, e, hbg, (((Keep.refl (fun k => k ≠ b) w).set (p := ⟨b, t, none⟩) (fun _ hh => hh rfl) (.int .i64 x)).block g (Array.getElem?_eq_some_iff.1 hgg).1 hne).trans hgg, rest⟩
theorem AppRS.ltab {S : Nat → Prop} {w : World} {v : Value} {rs : List (List Int)} (h : AppRS S w v rs) (h6 : Rows6 rs) : LTab S (fun l => l = 6) w v rs.length (-1) 5 := by
  obtain ⟨cells, h1, h2, h3⟩ := h
  refine ⟨cells, h1, h2, fun i hi => ?_⟩
  obtain ⟨cv, a, ⟨g, cap, m, f, rfl, q1, q2, q3, q4⟩, q5⟩ := h3 i hi
  obtain ⟨l6, hb⟩ := h6 i hi
  exact ⟨_, a, g, _, cap, m, f, rfl, l6, q1, q2, q5 g rfl, q3, fun t ht => ⟨_, q4 t ht, hb t (by omega)⟩⟩
/-- The numbers that a row's value reads as. -/
def rowAt (w : World) : Value → List Int
  | .slice (some a) l _ => (List.range l).map fun t => match w.cell? ⟨a.block, a.off + t, none⟩ with | some (.int _ x) => x | _ => 0
  | _ => []
theorem LRow.ints {S P : Nat → Prop} {w : World} {v : Value} {lo hi : Int} (h : LRow S P w v lo hi) (hP : ∀ l, P l → l ≤ 1000) (h1 : -100000 ≤ lo) (h2 : hi ≤ 100000) : SInts w v (rowAt w v) ∧ P (rowAt w v).length ∧ ∀ t, t < (rowAt w v).length → lo ≤ at0 (rowAt w v) t ∧ at0 (rowAt w v) t ≤ hi := by
  obtain ⟨b, l, cp, m, f, rfl, q1, q2, q3, q4, q5, q6⟩ := h
  have hl : (rowAt w (.slice (some ⟨b, 0, none⟩) l cp)).length = l := by simp [rowAt]
  have hat : ∀ t, t < l → ∃ x : Int, at0 (rowAt w (.slice (some ⟨b, 0, none⟩) l cp)) t = x ∧ w.cell? ⟨b, 0 + t, none⟩ = some (.int .i64 x) ∧ lo ≤ x ∧ x ≤ hi := fun t ht => by
    obtain ⟨x, e1, e2, e3⟩ := q6 t ht
    have hc : w.cell? ⟨b, t, none⟩ = some (.int .i64 x) := (q5.cell (by omega)).trans (by rw [e1]; rfl)
    refine ⟨x, ?_, by rw [Nat.zero_add]; exact hc, e2, e3⟩
    unfold at0
    rw [getD_lt _ _ (by omega)]
    simp [rowAt, hc]
  refine ⟨⟨_, _, by rw [hl], by omega, by have := hP l q1; omega, fun t ht => ?_, fun _ => ⟨b, 0, rfl, q5.lt, fun t ht => ?_⟩⟩, by rw [hl]; exact q1, fun t ht => ?_⟩
  · obtain ⟨x, e1, -, e2, e3⟩ := hat t (by omega)
    rw [e1]; unfold I64; omega
  · obtain ⟨x, e1, e2, -⟩ := hat t (by omega)
    rw [e1]; exact e2
  · obtain ⟨x, e1, -, e2, e3⟩ := hat t (by omega)
    rw [e1]; exact ⟨e2, e3⟩
/-- The table reads as rows. -/
theorem LTab.rows {S P : Nat → Prop} {w : World} {v : Value} {n : Nat} {lo hi : Int} (h : LTab S P w v n lo hi) (hP : ∀ l, P l → l ≤ 1000) (hn : n ≤ 1000) (h1 : -100000 ≤ lo) (h2 : hi ≤ 100000) : ∃ rs, rs.length = n ∧ SRows w v rs ∧ ∀ i, i < n → P (rw0 rs i).length ∧ ∀ t, t < (rw0 rs i).length → lo ≤ at0 (rw0 rs i) t ∧ at0 (rw0 rs i) t ≤ hi := by
  obtain ⟨cells, k1, k2, k3⟩ := h
  have hcl : cells.length = n := by have := k1.1; omega
  have hrw : ∀ i cv, i < n → cells[i]? = some cv → rw0 (cells.map (rowAt w)) i = rowAt w cv := fun i cv hi hc => by
    unfold rw0
    rw [List.getD_eq_getElem?_getD, List.getElem?_map, hc]; rfl
  refine ⟨cells.map (rowAt w), by simp [hcl], ?_, fun i hi => ?_⟩
  · rcases k1.2 with ⟨e1, e2⟩ | ⟨g, cap, cur, e1, -, hh, hnc, hm, hcs, htk⟩
    · subst e2
      exact ⟨none, 0, by rw [e1]; simp [hcl], by simp [hcl], by simp [hcl], fun hp => absurd hp (by simp [hcl])⟩
    · refine ⟨_, cap, by rw [e1]; simp [hcl], by simp [hcl]; exact hnc, by simp [hcl]; omega, fun _ => ⟨g, 0, rfl, (Array.getElem?_eq_some_iff.1 hh).1, fun i hi => ?_⟩⟩
      have hi : i < n := by simpa [hcl] using hi
      obtain ⟨cv, a, b⟩ := k3 i hi
      refine ⟨cv, ?_, by rw [hrw i cv hi a]; exact (b.ints hP h1 h2).1⟩
      have e5 : (cur.toList.take (n * 1))[i]? = cells[i]? := by rw [htk]
      rw [List.getElem?_take, if_pos (by omega), Array.getElem?_toList, a] at e5
      simp [World.cell?, hh, e5]
  · obtain ⟨cv, a, b⟩ := k3 i hi
    rw [hrw i cv hi a]
    exact (b.ints hP h1 h2).2
end Go.Proofs.Ytachgijdopfghaa
