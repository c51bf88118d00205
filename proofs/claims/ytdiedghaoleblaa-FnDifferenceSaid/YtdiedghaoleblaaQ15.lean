/- Draws of the generator: tables whose rows are known by their bounds alone. -/
import Derived.Test.YtdiedghaoleblaaDrwA
import Derived.Test.YtdiedghaoleblaaDrwF
import Derived.Test.YtdiedghaoleblaaDrwB
namespace Go.Proofs.Ytdiedghaoleblaa
open Go.RowKit

/-- A row of numbers of a range at the head of a block that S names; its length is told by P. -/
def LRow (S P : Nat → Prop) (w : World) (v : Value) (lo hi : Int) : Prop :=
  ∃ b l cp m f, v = .slice (some ⟨b, 0, none⟩) l cp ∧ P l ∧ l ≤ cp ∧ l ≤ m ∧ S b ∧ w.rowIs b 3 m f ∧ ∀ t, t < l → ∃ x : Int, f t = vI x ∧ lo ≤ x ∧ x ≤ hi
theorem LRow.keep {S T P : Nat → Prop} {w w' : World} {v : Value} {lo hi : Int} (h : LRow S P w v lo hi) (hk : Keep T w w') (hS : ∀ k, S k → T k) : LRow S P w' v lo hi := by
  obtain ⟨b, l, cp, m, f, h1, h2, h3, h4, h5, h6, h7⟩ := h
  exact ⟨b, l, cp, m, f, h1, h2, h3, h4, h5, hk.row (hS b h5) h6, h7⟩
theorem LRow.mono {S T P Q : Nat → Prop} {w : World} {v : Value} {lo hi lo' hi' : Int} (h : LRow S P w v lo hi) (hS : ∀ k, S k → T k) (hP : ∀ l, P l → Q l) (hl : lo' ≤ lo) (hh : hi ≤ hi') : LRow T Q w v lo' hi' := by
  obtain ⟨b, l, cp, m, f, h1, h2, h3, h4, h5, h6, h7⟩ := h
  exact ⟨b, l, cp, m, f, h1, hP l h2, h3, h4, hS b h5, h6, fun t ht => by obtain ⟨x, a, b, c⟩ := h7 t ht; exact ⟨x, a, by omega, by omega⟩⟩
/-- A number of the range is written into a row's block: a row stays a row. -/
theorem LRow.set {S P : Nat → Prop} {w : World} {v : Value} {lo hi : Int} (h : LRow S P w v lo hi) (b t : Nat) {x : Int} (hx : lo ≤ x ∧ x ≤ hi) : LRow S P (w.setCell ⟨b, t, none⟩ (.int .i64 x)) v lo hi := by
  obtain ⟨b', l, cp, m, f, h1, h2, h3, h4, h5, h6, h7⟩ := h
  by_cases e : b' = b
  · subst e
    refine ⟨b', l, cp, m, _, h1, h2, h3, h4, h5, h6.set t (.int .i64 x), fun u hu => ?_⟩
    show ∃ y : Int, (if u = t then _ else f u) = vI y ∧ _
    by_cases eu : u = t
    · rw [if_pos eu]; exact ⟨x, rfl, hx⟩
    · rw [if_neg eu]; exact h7 u hu
  · exact ⟨b', l, cp, m, f, h1, h2, h3, h4, h5, ((Keep.refl (fun k => k ≠ b) w).set (p := ⟨b, t, none⟩) (fun _ hh => hh rfl) _).row e h6, h7⟩
/-- A table of n such rows. -/
def LTab (S P : Nat → Prop) (w : World) (v : Value) (n : Nat) (lo hi : Int) : Prop :=
  ∃ cells, w.ownsRow 0 24 1 v n cells ∧ (∀ g, v.ownBlock = some g → S g) ∧ ∀ i, i < n → ∃ cv, cells[i]? = some cv ∧ LRow S P w cv lo hi
theorem LTab.keep {S T P : Nat → Prop} {w w' : World} {v : Value} {n : Nat} {lo hi : Int} (h : LTab S P w v n lo hi) (hk : Keep T w w') (hS : ∀ k, S k → T k) : LTab S P w' v n lo hi := by
  obtain ⟨cells, h1, h2, h3⟩ := h
  refine ⟨cells, ⟨h1.1, ?_⟩, h2, fun i hi => by obtain ⟨cv, a, b⟩ := h3 i hi; exact ⟨cv, a, b.keep hk hS⟩⟩
  rcases h1.2 with hn | ⟨g, cap, cur, e, hbg, hgg, rest⟩
  · exact .inl hn
  · exact .inr ⟨g, cap, cur, e, hbg, (hk.block g (Array.getElem?_eq_some_iff.1 hgg).1 (hS g (h2 g (by rw [e]; rfl)))).trans hgg, rest⟩
theorem LTab.ext {S P : Nat → Prop} {w w' : World} {v : Value} {n : Nat} {lo hi : Int} (h : LTab S P w v n lo hi) (hx : Ext w w') : LTab S P w' v n lo hi := h.keep (hx.keep S) (fun _ h => h)
theorem LTab.mono {S T P Q : Nat → Prop} {w : World} {v : Value} {n : Nat} {lo hi lo' hi' : Int} (h : LTab S P w v n lo hi) (hS : ∀ k, S k → T k) (hP : ∀ l, P l → Q l) (hl : lo' ≤ lo) (hh : hi ≤ hi') : LTab T Q w v n lo' hi' := by
  obtain ⟨cells, h1, h2, h3⟩ := h
  exact ⟨cells, h1, fun g hg => hS g (h2 g hg), fun i hi => by obtain ⟨cv, a, b⟩ := h3 i hi; exact ⟨cv, a, b.mono hS hP hl hh⟩⟩
theorem LTab.form {S P : Nat → Prop} {w : World} {v : Value} {n : Nat} {lo hi : Int} (h : LTab S P w v n lo hi) : ∃ A c, v = .slice A n c ∧ n ≤ c := by
  obtain ⟨cells, h1, -⟩ := h
  rcases h1.2 with ⟨e1, e2⟩ | ⟨g, cap, cur, e1, -, -, e2, -⟩
  · exact ⟨none, 0, by rw [e1, e2], by omega⟩
  · exact ⟨_, _, e1, e2⟩
/-- Row i: the cell that holds it, and what it is. -/
theorem LTab.row {S P : Nat → Prop} {w : World} {v : Value} {n i : Nat} {lo hi : Int} (h : LTab S P w v n lo hi) (hi' : i < n) :
    ∃ g cap b l cp m f, v = .slice (some ⟨g, 0, none⟩) n cap ∧ n ≤ cap ∧ S g ∧ g < w.heap.size ∧ g ≠ b ∧ w.cell? ⟨g, i, none⟩ = some (.slice (some ⟨b, 0, none⟩) l cp) ∧ w.frozen? ⟨g, i, none⟩ = false ∧ P l ∧ l ≤ cp ∧ l ≤ m ∧ S b ∧ b < w.heap.size ∧ w.rowIs b 3 m f ∧ ∀ t, t < l → ∃ x : Int, f t = vI x ∧ lo ≤ x ∧ x ≤ hi := by
  obtain ⟨cells, h1, h2, h3⟩ := h
  obtain ⟨cv, a, b, l, cp, m, f, rfl, q1, q2, q3, q4, q5, q6⟩ := h3 i hi'
  rcases h1.2 with ⟨-, e2⟩ | ⟨g, cap, cur, e1, -, hh, hnc, hm, hcs, htk⟩
  · omega
  · have hgs := (Array.getElem?_eq_some_iff.1 hh).1
    have hne : g ≠ b := by
      rintro rfl
      obtain ⟨cur', k2, -⟩ := q5
      rw [hh] at k2
      injection k2 with k2
      injection k2 with _ k3
      cases k3
    refine ⟨g, cap, b, l, cp, m, f, e1, hnc, h2 g (by rw [e1]; rfl), hgs, hne, ?_, ?_, q1, q2, q3, q4, q5.lt, q5, q6⟩
    · have e5 : (cur.toList.take (n * 1))[i]? = cells[i]? := by rw [htk]
      rw [List.getElem?_take, if_pos (by omega), Array.getElem?_toList, a] at e5
      simp [World.cell?, hh, e5]
    · simp [World.frozen?, hh]
/-- A number is written into a row. -/
theorem LTab.setn {S P : Nat → Prop} {w : World} {v : Value} {n : Nat} {lo hi : Int} (h : LTab S P w v n lo hi) {b m : Nat} {f : Nat → Value} (hr : w.rowIs b 3 m f) (t : Nat) {x : Int} (hx : lo ≤ x ∧ x ≤ hi) : LTab S P (w.setCell ⟨b, t, none⟩ (.int .i64 x)) v n lo hi := by
  obtain ⟨cells, h1, h2, h3⟩ := h
  refine ⟨cells, ⟨h1.1, ?_⟩, h2, fun i hi => by obtain ⟨cv, a, b⟩ := h3 i hi; exact ⟨cv, a, b.set _ _ hx⟩⟩
  rcases h1.2 with hn | ⟨g, cap, cur, e, hbg, hgg, rest⟩
  · exact .inl hn
  · have hne : g ≠ b := by
      rintro rfl
      obtain ⟨cur', k2, -⟩ := hr
      rw [hgg] at k2
      injection k2 with k2
      injection k2 with _ k3
      cases k3
    exact .inr ⟨g, cap, cur, e, hbg, (((Keep.refl (fun k => k ≠ b) w).set (p := ⟨b, t, none⟩) (fun _ hh => hh rfl) (.int .i64 x)).block g (Array.getElem?_eq_some_iff.1 hgg).1 hne).trans hgg, rest⟩
theorem AppRS.ltab {S : Nat → Prop} {w : World} {v : Value} {rs : List (List Int)} (h : AppRS S w v rs) (h6 : RowsSx rs) : LTab S (fun l => l = 6) w v rs.length (-1) 5 := by
  obtain ⟨cells, h1, h2, h3⟩ := h
  refine ⟨cells, h1, h2, fun i hi => ?_⟩
  obtain ⟨cv, a, ⟨g, cap, m, f, rfl, q1, q2, q3, q4⟩, q5⟩ := h3 i hi
  obtain ⟨l6, hb⟩ := h6 i hi
  exact ⟨_, a, g, _, cap, m, f, rfl, l6, q1, q2, q5 g rfl, q3, fun t ht => ⟨_, q4 t ht, hb t (by omega)⟩⟩
/-- The numbers that a row's value reads as. -/
def rowAt (w : World) : Value → List Int
  | .slice (some a) l _ => (List.range l).map fun t => match w.cell? ⟨a.block, a.off + t, none⟩ with | some (.int _ x) => x | _ => 0
  | _ => []
theorem LRow.ints {S P : Nat → Prop} {w : World} {v : Value} {lo hi : Int} (h : LRow S P w v lo hi) (hP : ∀ l, P l → l ≤ 1000) (h1 : -100000 ≤ lo) (h2 : hi ≤ 100000) : SInts w v (rowAt w v) ∧ P (rowAt w v).length ∧ ∀ t, t < (rowAt w v).length → lo ≤ at0 (rowAt w v) t ∧ at0 (rowAt w v) t ≤ hi := by
  obtain ⟨b, l, cp, m, f, rfl, q1, q2, q3, q4, q5, q6⟩ := h
  have hl : (rowAt w (.slice (some ⟨b, 0, none⟩) l cp)).length = l := by simp [rowAt]
  have hat : ∀ t, t < l → ∃ x : Int, at0 (rowAt w (.slice (some ⟨b, 0, none⟩) l cp)) t = x ∧ w.cell? ⟨b, 0 + t, none⟩ = some (.int .i64 x) ∧ lo ≤ x ∧ x ≤ hi := fun t ht => by
    obtain ⟨x, e1, e2, e3⟩ := q6 t ht
    have hc : w.cell? ⟨b, t, none⟩ = some (.int .i64 x) := (q5.cell (by omega)).trans (by rw [e1]; rfl)
    refine ⟨x, ?_, by rw [Nat.zero_add]; exact hc, e2, e3⟩
    unfold at0
    rw [getD_lt _ _ (by omega)]
    simp [rowAt, hc]
  refine ⟨⟨_, _, by rw [hl], by omega, by have := hP l q1; omega, fun t ht => ?_, fun _ => ⟨b, 0, rfl, q5.lt, fun t ht => ?_⟩⟩, by rw [hl]; exact q1, fun t ht => ?_⟩
  · obtain ⟨x, e1, -, e2, e3⟩ := hat t (by omega)
    rw [e1]; unfold I64; omega
  · obtain ⟨x, e1, e2, -⟩ := hat t (by omega)
    rw [e1]; exact e2
  · obtain ⟨x, e1, -, e2, e3⟩ := hat t (by omega)
    rw [e1]; exact ⟨e2, e3⟩
/-- The table reads as rows. -/
theorem LTab.rows {S P : Nat → Prop} {w : World} {v : Value} {n : Nat} {lo hi : Int} (h : LTab S P w v n lo hi) (hP : ∀ l, P l → l ≤ 1000) (hn : n ≤ 1000) (h1 : -100000 ≤ lo) (h2 : hi ≤ 100000) : ∃ rs, rs.length = n ∧ SRows w v rs ∧ ∀ i, i < n → P (rw0 rs i).length ∧ ∀ t, t < (rw0 rs i).length → lo ≤ at0 (rw0 rs i) t ∧ at0 (rw0 rs i) t ≤ hi := by
  obtain ⟨cells, k1, k2, k3⟩ := h
  have hcl : cells.length = n := by have := k1.1; omega
  have hrw : ∀ i cv, i < n → cells[i]? = some cv → rw0 (cells.map (rowAt w)) i = rowAt w cv := fun i cv hi hc => by
    unfold rw0
    rw [List.getD_eq_getElem?_getD, List.getElem?_map, hc]; rfl
  refine ⟨cells.map (rowAt w), by simp [hcl], ?_, fun i hi => ?_⟩
  · rcases k1.2 with ⟨e1, e2⟩ | ⟨g, cap, cur, e1, -, hh, hnc, hm, hcs, htk⟩
    · subst e2
      exact ⟨none, 0, by rw [e1]; simp [hcl], by simp [hcl], by simp [hcl], fun hp => absurd hp (by simp [hcl])⟩
    · refine ⟨_, cap, by rw [e1]; simp [hcl], by simp [hcl]; exact hnc, by simp [hcl]; omega, fun _ => ⟨g, 0, rfl, (Array.getElem?_eq_some_iff.1 hh).1, fun i hi => ?_⟩⟩
      have hi : i < n := by simpa [hcl] using hi
      obtain ⟨cv, a, b⟩ := k3 i hi
      refine ⟨cv, ?_, by rw [hrw i cv hi a]; exact (b.ints hP h1 h2).1⟩
      have e5 : (cur.toList.take (n * 1))[i]? = cells[i]? := by rw [htk]
      rw [List.getElem?_take, if_pos (by omega), Array.getElem?_toList, a] at e5
      simp [World.cell?, hh, e5]
  · obtain ⟨cv, a, b⟩ := k3 i hi
    rw [hrw i cv hi a]
    exact (b.ints hP h1 h2).2
end Go.Proofs.Ytdiedghaoleblaa
/- Draws of automata: appends of rows to loose tables, copies of rows. -/
namespace Go.Proofs.Ytdiedghaoleblaa
open Go.RowKit

theorem Addr.add0 (b j : Nat) : (⟨b, 0, none⟩ : Addr).add j = ⟨b, j, none⟩ := by unfold Addr.add; split <;> simp_all
/-- append of n cells to a slice of the call's own: which block is written, where the result lies. -/
theorem run_append_kindN {P : Program} (w : World) (base : Nat) (t ty e : TypeId) (i : TypeInfo) (z : Value) (bytes : Nat) (ht : P.underlying t = some (.slice e)) (hi : P.info? e = some i) (hz : i.zero = some z)
    (hsz : i.size = 1) (hby : i.bytes = bytes) (hzs : z.cells.size = 1) (v : Value) (k : Nat) (xs : List Value) (hown : w.ownsRow base e 1 v k xs) (b c : Nat) (us : List Value) (hu : ∀ j u, us[j]? = some u → w.cell? ⟨b, j, none⟩ = some u) (hu1 : ∀ u, u ∈ us → u.oneCell' = true)
    (h1 : k + us.length ≤ maxLen) (h2 : (k + us.length) * bytes ≤ 140737488355328) (hb : base ≤ w.heap.size) :
    ∃ v' w', (Builtin.append_ #[t, t] ty #[v, .slice (some ⟨b, 0, none⟩) us.length c]).run P w = .ok v' w' ∧ w'.ownsRow base e 1 v' (k + us.length) (xs ++ us) ∧ w.grownBy w' v.ownBlock ∧ (∀ g, v'.ownBlock = some g → v.ownBlock = some g ∨ w.heap.size ≤ g) := by
  have hn : ∀ (j : Nat) (u' : Value), us[j]? = some u' → w.cell? ((⟨b, 0, none⟩ : Addr).add j) = some u' := by
    intro j u' hj
    rw [Addr.add0]; exact hu j u' hj
  rcases hown.2 with ⟨rfl, rfl⟩ | ⟨g, cap, cur, rfl, hg, hh, hnc, hcm, hcs, htk⟩
  · obtain rfl : xs = [] := List.length_eq_zero_iff.1 (by simpa using hown.1)
    obtain ⟨v', w', e1, e2, e3, -⟩ := run_append_own (P := P) w w.heap.size t ty e i z 1 bytes ht hi hz hsz hby hzs (by omega) (.slice none 0 0) 0 [] (World.ownsRow_nil w _ _ _) ⟨b, 0, none⟩ us.length c us (by simp) hn hu1 h1 h2 (Nat.le_refl _)
    exact ⟨v', w', e1, ownsRow_base e2 hb, e3, fun g hg => .inr (World.ownsRow.lt e2 g hg).1⟩
  · by_cases hlt : k + us.length ≤ cap
    · obtain ⟨w', e1, e2, e3⟩ := run_append_fits (P := P) w base t ty e i 1 ht hi hsz g k cap xs hown ⟨b, 0, none⟩ us.length c us (by simp) hn hu1 hlt
      exact ⟨_, w', e1, e2, e3, fun g' hg' => .inl hg'⟩
    · have hcell : ∀ (j : Nat) (u' : Value), xs[j]? = some u' → w.cell? ((⟨g, 0, none⟩ : Addr).add j) = some u' := by
        intro j u' hj
        have hjl : j < k * 1 := by rw [← hown.1]; exact (List.getElem?_eq_some_iff.1 hj).1
        have e1 : (cur.toList.take (k * 1))[j]? = xs[j]? := by rw [htk]
        rw [List.getElem?_take, if_pos hjl, hj, Array.getElem?_toList] at e1
        rw [Addr.add0]
        simp [World.cell?, hh, e1]
      obtain ⟨v', w', e1, e2, e3⟩ := run_append_arg_grows (P := P) w t ty e i z 1 bytes ht hi hz hsz hby hzs (by omega) ⟨g, 0, none⟩ k cap xs hown.1 hcell ⟨b, 0, none⟩ us.length c us (by simp) hn (by omega) h1 h2
      exact ⟨v', w', e1, ownsRow_base e2 hb, ⟨e3.os, e3.tape, e3.output, e3.size, fun k hk _ => e3.block k hk (by simp)⟩, fun g' hg' => .inr (World.ownsRow.lt e2 g' hg').1⟩
set_option maxRecDepth 100000 in
/-- append of a table to a table. -/
theorem run_appLTab (S P : Nat → Prop) (w : World) (ty : TypeId) (v v2 : Value) (n m : Nat) (lo hi : Int) (h : LTab S P w v n lo hi) (h2 : LTab S P w v2 m lo hi) (hm : 0 < m) (hl : n + m ≤ 1000) (hS : ∀ k, w.heap.size ≤ k → S k) :
    ∃ v' w', (Builtin.append_ #[23, 23] ty #[v, v2]).run Try.prog w = .ok v' w' ∧ LTab S P w' v' (n + m) lo hi ∧ w.grownBy w' v.ownBlock := by
  obtain ⟨i, hi', hz, hsz, hby⟩ := Try.infoSp
  obtain ⟨cells, h1, hv, hr⟩ := h
  obtain ⟨us, k1, kv, kr⟩ := h2
  have hul : us.length = m := by simpa using k1.1
  have hcl : cells.length = n := by simpa using h1.1
  rcases k1.2 with ⟨-, rfl⟩ | ⟨b, c, cur, rfl, -, hh, hnc, hcm, hcs, htk⟩
  · omega
  · have hcell : ∀ (j : Nat) (u' : Value), us[j]? = some u' → w.cell? ⟨b, j, none⟩ = some u' := by
      intro j u' hj
      have hjl : j < m * 1 := by have := (List.getElem?_eq_some_iff.1 hj).1; omega
      have e1 : (cur.toList.take (m * 1))[j]? = us[j]? := by rw [htk]
      rw [List.getElem?_take, if_pos hjl, hj, Array.getElem?_toList] at e1
      simp [World.cell?, hh, e1]
    obtain ⟨v', w', e1, e2, e3, e4⟩ := run_append_kindN (P := Try.prog) w 0 23 ty 24 i (.slice none 0 0) 24 Try.underlying23 hi' hz hsz hby rfl v n cells h1 b c us hcell (fun u hu => by
      obtain ⟨j, hj, rfl⟩ := List.getElem_of_mem hu
      obtain ⟨cv, q1, q2⟩ := kr j (by omega)
      rw [List.getElem?_eq_getElem hj] at q1
      injection q1 with q1
      obtain ⟨_, _, _, _, _, q3, -⟩ := q2
      rw [q1, q3]; rfl) (by unfold maxLen; omega) (by omega) (Nat.zero_le _)
    have hkeep : ∀ {cv : Value}, LRow S P w cv lo hi → LRow S P w' cv lo hi := by
      intro cv hcv
      obtain ⟨g, l, cp, m', f, q1, q2, q3, q4, q5, q6, q7⟩ := hcv
      refine ⟨g, l, cp, m', f, q1, q2, q3, q4, q5, q6.of_block (e3.block g q6.lt ?_), q7⟩
      intro hne
      rcases h1.2 with ⟨p1, -⟩ | ⟨g', cap', cur', p1, -, p2, -⟩
      · rw [p1] at hne; cases hne
      · rw [p1] at hne
        injection hne with hne
        simp at hne
        subst hne
        obtain ⟨cc, r1, -⟩ := q6
        rw [r1] at p2
        injection p2 with p2
        injection p2 with _ p3
        cases p3
    rw [hul] at e1 e2
    refine ⟨v', w', e1, ⟨cells ++ us, e2, fun g hg => (e4 g hg).elim (hv g) (hS g), fun t ht => ?_⟩, e3⟩
    by_cases hlt : t < n
    · obtain ⟨cv, q1, q2⟩ := hr t hlt
      exact ⟨cv, by rw [List.getElem?_append_left (by omega)]; exact q1, hkeep q2⟩
    · obtain ⟨cv, q1, q2⟩ := kr (t - n) (by omega)
      exact ⟨cv, by rw [List.getElem?_append_right (by omega), hcl]; exact q1, hkeep q2⟩
/-- Rows whose bounds are known are a loose table. -/
theorem AppRS.ltabP {S : Nat → Prop} {w : World} {v : Value} {rs : List (List Int)} {P : Nat → Prop} {lo hi : Int} (h : AppRS S w v rs) (h6 : ∀ i, i < rs.length → P (rw0 rs i).length ∧ ∀ t, t < (rw0 rs i).length → lo ≤ at0 (rw0 rs i) t ∧ at0 (rw0 rs i) t ≤ hi) : LTab S P w v rs.length lo hi := by
  obtain ⟨cells, h1, h2, h3⟩ := h
  refine ⟨cells, h1, h2, fun i hi' => ?_⟩
  obtain ⟨cv, a, ⟨g, cap, m, f, rfl, q1, q2, q3, q4⟩, q5⟩ := h3 i hi'
  obtain ⟨l6, hb⟩ := h6 i hi'
  exact ⟨_, a, g, _, cap, m, f, rfl, l6, q1, q2, q5 g rfl, q3, fun t ht => ⟨_, q4 t ht, hb t ht⟩⟩
theorem Ext.grown {w w1 w2 : World} {r : Option Nat} (h : Ext w w1) (hg : w1.grownBy w2 r) (hr : ∀ g, r = some g → w.heap.size ≤ g) : Ext w w2 :=
  h.below ⟨hg.os, hg.tape, hg.output, hg.size, fun k hk => hg.block k (Nat.lt_of_lt_of_le hk h.size) (fun e => by have := hr k e.symm; omega)⟩
theorem rows_takeS {rs : List (List Int)} {j : Nat} (hj : j < rs.length) : rs.take (j + 1) = rs.take j ++ [rw0 rs j] := by
  rw [List.take_add_one, List.getElem?_eq_getElem hj, rw0, getD_lt _ _ hj]; rfl
/-- Copied rows. -/
def RowsGot (rs : List (List Int)) (w : World) (e : Ending) (w' : World) : Prop := ∃ v', e = .returned v' ∧ AppRS (fun k => w.heap.size ≤ k) w' v' rs ∧ Ext w w'
set_option maxRecDepth 100000 in
set_option maxHeartbeats 4000000 in
theorem copyRows_any (v : Value) (rs : List (List Int)) (w : World) (hS : SRows w v rs) (hn : rs.length ≤ 1000) (hp : ∀ i, i < rs.length → 0 < (rw0 rs i).length) :
    Calls Try.prog 65 #[v] w (RowsGot rs w) := by
  have HS := hide hS
  have HP := hide hp
  obtain ⟨A, cp, rfl, hl, hlen⟩ := hS.form
  clear hS hp
  go_enter Try.func65, Try.ntmps65
  go_wp2_with fail
  go_loopw [3, 4] (fun o i wr => ∃ j : Nat, i = .int .i64 j ∧ j ≤ rs.length ∧ AppRS (fun k => w.heap.size ≤ k) wr o (rs.take j) ∧ Ext w wr) (fun _ i _ => rs.length - (intOf i).toNat)
  case atStart => exact ⟨0, rfl, Nat.zero_le _, AppRS.empty _ w rfl (Nat.le_refl _), (Ext.refl w).alloc _⟩
  case round =>
    obtain ⟨j, rfl, hj, hA, hX⟩ := hrel
    have HA := hide hA
    have HX := hide hX
    have htl : (rs.take j).length = j := by simp; omega
    obtain ⟨Ao, co, hv, -⟩ := hA.form
    rw [htl] at hv
    subst hv
    have hsz := hX.size
    clear hA hX
    by_cases hjn : j < rs.length
    · have hjI : (j : Int) < (rs.length : Int) := by omega
      obtain ⟨b, off, A', c', rfl, hbl, hcc, hrow⟩ := (HS.out.ext HX.out).at_ hjn
      have HR := hide hrow
      clear hrow
      go_wp2_with fail
      refine (copyInts_any _ _ _ HR.out (HP.out j hjn)).mono ?_
      rintro e W2 ⟨A2, c2, b2, m2, f2, rfl, q1, q2, q3, q4, q5⟩
      obtain ⟨rfl, q6⟩ := RowW.own q1 q4 (HP.out j hjn)
      have HQ := hide q6
      have HX2 := hide (HX.out.trans q5)
      have HA2 := hide (HA.out.ext q5)
      have HAF := hide (HA2.out.blk9)
      clear q6 q5 q4
      go_wp2_with (at_builtin; go_must (refine wpList_appRS _ rfl _ _ rfl (fun k => w.heap.size ≤ k) (.slice Ao j co) (rs.take j) (rw0 rs j) (.slice (some ⟨b2, 0, none⟩) (rw0 rs j).length c2) _ 1 rfl rfl (HA2.out.ext ((Ext.refl _).alloc _)) (by go_simp) (HQ.out.keep9 (((Ext.refl _).alloc _).keep (fun _ => True)) (fun _ _ => trivial)) (fun g' hg' => by cases hg'; exact Nat.le_trans hsz q3) (by rw [htl]; omega) (fun k hk => by simp at hk; have := HX2.out.size; omega) ?_); intro v' W5 hA5 hg5 hb5; obtain ⟨A5, c5, hv5, -⟩ := hA5.form; rw [show (rs.take j ++ [rw0 rs j]).length = j + 1 by simp; omega] at hv5; subst hv5; have HA5 := hide hA5; have HG5 := hide hg5; clear hA5 hg5 hb5)
      go_roundw
      case rel => exact ⟨j + 1, by go_num, by omega, by rw [rows_takeS hjn]; exact HA5.out, (HX2.out.alloc _).grown HG5.out (fun g hg => (HAF.out g hg).1)⟩
      case measure => simp [intOf]; omega
    · obtain rfl : j = rs.length := by omega
      have hjI : ¬ ((rs.length : Int) < (rs.length : Int)) := by omega
      go_wp2_with fail
      go_ret
      have hfin := HA.out
      rw [List.take_length] at hfin
      exact ⟨_, rfl, hfin, HX.out⟩
end Go.Proofs.Ytdiedghaoleblaa
/- Draws of automata: an automaton in the making. -/
namespace Go.Proofs.Ytdiedghaoleblaa
open Go.RowKit

/-- An automaton in the making: it lies in block bc; its rows lie below B, its final states from B on; the result's block beside it. -/
structure AB (w0 : World) (br rb bc B N n m : Nat) (P : Nat → Prop) (lo hi : Int) (W wr : World) (nx fn : Value) : Prop where
  c0 : wr.cell? ⟨bc, 0, none⟩ = some nx
  c1 : wr.cell? ⟨bc, 1, none⟩ = some fn
  fz : ∀ i, wr.frozen? ⟨bc, i, none⟩ = false
  t : LTab (fun k => W.heap.size ≤ k ∧ k < B ∧ k ≠ bc) P wr nx n lo hi
  f : LN B wr fn m (-1) 8
  b0 : W.heap.size ≤ bc
  b1 : bc < B
  b2 : B ≤ wr.heap.size
  r : RB rb 2 wr
  r1 : rb ≠ br
  r2 : rb < W.heap.size
  rd : RdSt w0 br N wr
  kp : Keep (fun k => k ≠ br) W wr
  br0 : br < W.heap.size
  w00 : w0.heap.size ≤ W.heap.size
theorem AB.keep {w0 : World} {br rb bc B N M n m : Nat} {P : Nat → Prop} {lo hi : Int} {W wr w2 : World} {nx fn : Value} (h : AB w0 br rb bc B N n m P lo hi W wr nx fn) (hR : RdSt w0 br M w2) (hK : Keep (fun k => k ≠ br) wr w2) : AB w0 br rb bc B M n m P lo hi W w2 nx fn := by
  have hb : bc ≠ br := by have := h.b0; have := h.br0; omega
  have b1 : bc < wr.heap.size := Nat.lt_of_lt_of_le h.b1 h.b2
  exact ⟨(hK.cell (p := ⟨bc, 0, none⟩) b1 hb).trans h.c0, (hK.cell (p := ⟨bc, 1, none⟩) b1 hb).trans h.c1, fun i => (hK.frz (p := ⟨bc, i, none⟩) b1 hb).trans (h.fz i),
    h.t.keep hK (fun k hk => by have := h.br0; omega), h.f.keep hK (fun k hk => by have := h.br0; have := h.b1; have := h.b0; omega), h.b0, h.b1, Nat.le_trans h.b2 hK.size, h.r.keep hK h.r1, h.r1, h.r2, hR, h.kp.trans hK, h.br0, h.w00⟩
theorem AB.grow {w0 : World} {br rb bc B N n m : Nat} {P : Nat → Prop} {lo hi : Int} {W wr w2 : World} {nx fn : Value} (h : AB w0 br rb bc B N n m P lo hi W wr nx fn) (hx : Ext wr w2) : AB w0 br rb bc B N n m P lo hi W w2 nx fn := h.keep (h.rd.grow hx) (hx.keep _)
/-- The final states were appended to. -/
theorem AB.far1 {w0 : World} {br rb bc B N n m m' : Nat} {P : Nat → Prop} {lo hi : Int} {W wr w1 : World} {nx fn u : Value} (h : AB w0 br rb bc B N n m P lo hi W wr nx fn) (hk : Below B wr w1) (hu : LN B w1 u m' (-1) 8) : AB w0 br rb bc B N n m' P lo hi W (w1.setCell ⟨bc, 1, none⟩ u) nx u := by
  have b0 := h.b0
  have b1 := h.b1
  have b2 := h.b2
  have hbr := h.br0
  have hw0 := h.w00
  have hr2 := h.r2
  have hs := hk.size
  have hbc : bc < wr.heap.size := by omega
  have hk1 : Keep (fun k => k < B) wr w1 := Below.keep12 hk
  have hk2 : Keep (fun k => k < B ∧ k ≠ bc) wr (w1.setCell ⟨bc, 1, none⟩ u) := (hk1.mono (fun k _ hh => hh.1)).set (p := ⟨bc, 1, none⟩) (fun _ hh => hh.2 rfl) u
  exact ⟨(World.cell?_setCell_other _ _ _ _ (by simp)).trans ((hk1.cell (p := ⟨bc, 0, none⟩) hbc b1).trans h.c0), World.cell?_setCell_same' _ _ _ (by rw [(hk1.cell (p := ⟨bc, 1, none⟩) hbc b1).trans h.c1]; rfl),
    fun i => (World.frozen?_setCell ..).trans ((hk1.frz (p := ⟨bc, i, none⟩) hbc b1).trans (h.fz i)), h.t.keep hk2 (fun k hk => ⟨hk.2.1, hk.2.2⟩),
    hu.keep (S := fun k => k ≠ bc) ((Keep.refl _ _).set (p := ⟨bc, 1, none⟩) (fun _ hh => hh rfl) u) (fun k hk => by omega), b0, b1, by simp [World.setCell]; omega, h.r.keep hk2 ⟨by omega, by omega⟩, h.r1, h.r2,
    h.rd.keep hk2 ⟨by omega, by omega⟩ (fun k hk => ⟨by omega, by omega⟩), h.kp.trans9 hk2 (fun k hk _ => ⟨by omega, by omega⟩), hbr, hw0⟩
theorem LTab.lt {S P : Nat → Prop} {w : World} {v : Value} {n : Nat} {lo hi : Int} (h : LTab S P w v n lo hi) : LTab (fun k => S k ∧ k < w.heap.size) P w v n lo hi := by
  obtain ⟨cells, h1, h2, h3⟩ := h
  refine ⟨cells, h1, fun g hg => ⟨h2 g hg, (World.ownsRow.lt h1 g hg).2⟩, fun i hi => ?_⟩
  obtain ⟨cv, a, b, l, cp, m, f, q0, q1, q2, q3, q4, q5, q6⟩ := h3 i hi
  exact ⟨cv, a, b, l, cp, m, f, q0, q1, q2, q3, ⟨q4, q5.lt⟩, q5, q6⟩
theorem AB.start {w0 : World} {br rb N n : Nat} {P : Nat → Prop} {lo hi : Int} {W wr : World} {nx : Value} (ty : TypeId) (ht : LTab (fun k => W.heap.size ≤ k) P wr nx n lo hi) (hr : RB rb 2 W) (hrb : rb ≠ br) (hr2 : rb < W.heap.size) (hR : RdSt w0 br N wr) (hK : Keep (fun k => k ≠ br) W wr) (hbr : br < W.heap.size) (hw0 : w0.heap.size ≤ W.heap.size) :
    AB w0 br rb wr.heap.size (wr.heap.size + 1) N n 0 P lo hi W (wr.alloc (.cells #[nx, .slice none 0 0] ty)) nx (.slice none 0 0) := by
  have hx : Ext wr (wr.alloc (.cells #[nx, .slice none 0 0] ty)) := (Ext.refl wr).alloc _
  have hs := hK.size
  exact ⟨World.cell?_alloc_at _ _ _ _ rfl, World.cell?_alloc_at _ _ _ _ rfl, fun i => World.frozen?_alloc_new _ _ _ _, (ht.lt.ext hx).mono (fun k hk => by omega) (fun _ h => h) (Int.le_refl _) (Int.le_refl _), .inl ⟨rfl, rfl⟩, hs, by omega, by simp, (hr.keep hK hrb).keep (hx.keep (fun _ => True)) trivial, hrb, hr2, hR.grow hx, hK.trans (hx.keep _), hbr, hw0⟩
/-- A number was written into a row. -/
theorem AB.setn {w0 : World} {br rb bc B N n m : Nat} {P : Nat → Prop} {lo hi : Int} {W wr : World} {nx fn : Value} (h : AB w0 br rb bc B N n m P lo hi W wr nx fn) {b m' : Nat} {f : Nat → Value} (hr : wr.rowIs b 3 m' f) (hb : W.heap.size ≤ b ∧ b < B ∧ b ≠ bc) (t : Nat) {x : Int} (hx : lo ≤ x ∧ x ≤ hi) : AB w0 br rb bc B N n m P lo hi W (wr.setCell ⟨b, t, none⟩ (.int .i64 x)) nx fn := by
  have b0 := h.b0
  have b1 := h.b1
  have b2 := h.b2
  have hbr := h.br0
  have hw0 := h.w00
  have hr2 := h.r2
  obtain ⟨hb1, hb2, hb3⟩ := hb
  have hbc : bc < wr.heap.size := by omega
  have hk : Keep (fun k => k ≠ b) wr (wr.setCell ⟨b, t, none⟩ (.int .i64 x)) := (Keep.refl _ _).set (p := ⟨b, t, none⟩) (fun _ hh => hh rfl) _
  exact ⟨(hk.cell (p := ⟨bc, 0, none⟩) hbc (Ne.symm hb3)).trans h.c0, (hk.cell (p := ⟨bc, 1, none⟩) hbc (Ne.symm hb3)).trans h.c1,
    fun i => (hk.frz (p := ⟨bc, i, none⟩) hbc (Ne.symm hb3)).trans (h.fz i), h.t.setn hr t hx, h.f.keep hk (fun k hk => by omega), b0, b1, by simp [World.setCell]; omega, h.r.keep hk (by omega), h.r1, h.r2,
    h.rd.keep hk (by omega) (fun k hk => by omega), h.kp.trans9 hk (fun k hk _ => by omega), hbr, hw0⟩
theorem AB.rdN {w0 : World} {br rb bc B N M n m : Nat} {P : Nat → Prop} {lo hi : Int} {W wr : World} {nx fn : Value} (h : AB w0 br rb bc B N n m P lo hi W wr nx fn) (hM : N ≤ M) : AB w0 br rb bc B M n m P lo hi W wr nx fn := h.keep (h.rd.mono hM) (Keep.refl _ _)
/-- An automaton came: its rows are told by P, lo and 5; at most nm rows, at most fm final states. -/
def AGot (P : Nat → Prop) (lo : Int) (nm fm : Nat) (w0 : World) (br N : Nat) (W : World) (e : Ending) (W' : World) : Prop :=
  ∃ nx fn n m B, e = .returned (.agg #[nx, fn]) ∧ 1 ≤ n ∧ n ≤ nm ∧ m ≤ fm ∧ W.heap.size ≤ B ∧ B ≤ W'.heap.size ∧ LTab (fun k => W.heap.size ≤ k ∧ k < B) P W' nx n lo 5 ∧ LN B W' fn m (-1) 8 ∧ RdSt w0 br N W' ∧ Keep (fun k => k ≠ br) W W'
theorem AB.done {w0 : World} {br bc B N n m nm fm : Nat} {P : Nat → Prop} {lo : Int} {W Wb wr w' : World} {nx fn : Value} (h : AB w0 br W.heap.size bc B N n m P lo 5 Wb wr nx fn) (hx : Ext W Wb) (hs : Wb.heap.size = W.heap.size + 1) (hk : Keep (fun k => k ≠ W.heap.size) wr w') (hbr : br < W.heap.size) (hw : w0.heap.size ≤ W.heap.size) (h1 : 1 ≤ n) (h2 : n ≤ nm) (h3 : m ≤ fm) :
    AGot P lo nm fm w0 br N W (.returned (.agg #[nx, fn])) w' := by
  have b0 := h.b0
  have b1 := h.b1
  exact ⟨nx, fn, n, m, B, rfl, h1, h2, h3, by omega, Nat.le_trans h.b2 hk.size, (h.t.keep hk (fun k hk => by omega)).mono (fun k hk => by omega) (fun _ h => h) (Int.le_refl _) (Int.le_refl _), h.f.keep hk (fun k hk => by omega), h.rd.keep hk (by omega) (fun k hk => by omega),
    ((hx.keep _).trans h.kp).trans9 hk (fun k hk _ => by omega)⟩
set_option maxRecDepth 100000 in
set_option maxHeartbeats 8000000 in
theorem automaton_any (w0 : World) (br N : Nat) (W : World) (hN : N ≤ 70000) (hR : RdSt w0 br N W) :
    Calls Try.prog 62 #[.pointer (some ⟨br, 0, none⟩)] W (AGot (fun l => l = 6) (-1) 4 4 w0 br (N + 60) W) := by
  have HR := hide hR
  have hbr := hR.lt
  have hw0 := hR.ext.size
  clear hR
  go_enter Try.func62, Try.ntmps62
  go_wp2_with fail
  refine (pick_any w0 br N 4 _ (by omega) (by omega) (by omega) (HR.out.grow ((Ext.refl W).alloc _))).mono ?_
  rintro e W1 ⟨k, k0, k1, rfl, hR1, hK1⟩
  have HR1 := hide hR1
  obtain ⟨Wb, hxb, hsb, hbb, hK1⟩ : ∃ Wb, Ext W Wb ∧ Wb.heap.size = W.heap.size + 1 ∧ RB W.heap.size 2 Wb ∧ Keep (fun k => k ≠ br) Wb W1 := by
    refine ⟨_, (Ext.refl W).alloc _, by simp, ⟨by simp, fun i => World.frozen?_alloc_new _ _ _ _, fun i hi => ?_⟩, hK1⟩
    obtain rfl | rfl : i = 0 ∨ i = 1 := by omega
    all_goals exact ⟨_, World.cell?_alloc_at _ _ _ _ rfl⟩
  have HXB := hide hxb
  have HSB := hide hsb
  have HBB := hide hbb
  have hsz0 : W.heap.size + 1 ≤ Wb.heap.size := by omega
  have HK1 := hide hK1
  have hz1 := hK1.size
  have hwk : IntKind.i64.wrap (1 + k) = 1 + k := IntWalk.i64_in _ (by omega)
  clear hR1 hK1 hxb hsb hbb
  go_wp2_with fail
  obtain ⟨k', rfl⟩ : ∃ k' : Nat, k = k' := ⟨k.toNat, by omega⟩
  have hsv := randomAutomaton_any w0 br (N + 1) (k' + 1) _ (by omega) (by omega) (by omega) HR1.out
  rw [show ((k' + 1 : Nat) : Int) = 1 + (k' : Int) by omega] at hsv
  refine hsv.mono ?_
  clear hsv
  rintro e W3 ⟨nx, rs, rfl, hrl, hA, h6, hR3, hK3⟩
  obtain ⟨n, hn⟩ : ∃ n, n = k' + 1 := ⟨_, rfl⟩
  have hT := hA.ltab h6
  rw [hrl, ← hn] at hT
  have hn1 : 1 ≤ n := by omega
  have hn4 : n ≤ 4 := by omega
  have HT := hide hT
  have HR3 := hide (hR3.mono (M := N + 55) (by omega))
  have HK3 := hide (HK1.out.trans hK3)
  have hz3 := hK3.size
  obtain ⟨An, cn, hv, hcn⟩ := hT.form
  subst hv
  clear hrl hA h6 hR3 hK3 hT hn hwk HR1 HK1 k0 k1
  go_wp2_with fail
  go_loopw [4] (fun i wr => ∃ (j m : Nat) (fn : Value), i = .int .i64 j ∧ j ≤ n ∧ m ≤ j ∧ AB w0 br W.heap.size W3.heap.size (W3.heap.size + 1) (N + 55 + j) n m (fun l => l = 6) (-1) 5 Wb wr (.slice An n cn) fn) (fun i _ => n - (intOf i).toNat)
  case atStart => exact ⟨0, 0, _, rfl, Nat.zero_le _, Nat.le_refl _, AB.start _ (HT.out.mono (fun k hk => by have := HSB.out; omega) (fun _ h => h) (Int.le_refl _) (Int.le_refl _)) HBB.out (by omega) (by omega) HR3.out HK3.out (by omega) (by omega)⟩
  case round =>
    obtain ⟨j, m, fn, rfl, hj, hmj, hB⟩ := hrel
    obtain ⟨A2, e2, rfl, hme⟩ := hB.f.form
    have HB := hide hB
    have k0 := hB.c0
    have k1 := hB.c1
    have q0 := hB.fz 0
    have q1 := hB.fz 1
    have hbc : W3.heap.size < wr.heap.size := by have := hB.b2; omega
    have hbn : W3.heap.size ≠ br := by have := HK3.out.size; omega
    clear hB
    by_cases hjn : j < n
    · have hjI : (j : Int) < n := by omega
      go_wp2_with fail
      refine (pick_any w0 br (N + 55 + j) 3 _ (by omega) (by omega) (by omega) HB.out.rd).mono ?_
      rintro e W5 ⟨z, zz0, zz1, rfl, hR5, hK5⟩
      have h50 := (hK5.cell (p := ⟨W3.heap.size, 0, none⟩) hbc hbn).trans k0
      have h51 := (hK5.cell (p := ⟨W3.heap.size, 1, none⟩) hbc hbn).trans k1
      have r50 := (hK5.frz (p := ⟨W3.heap.size, 0, none⟩) hbc hbn).trans q0
      have r51 := (hK5.frz (p := ⟨W3.heap.size, 1, none⟩) hbc hbn).trans q1
      have hs5 := hK5.size
      have hl5 := Nat.lt_of_lt_of_le hbc hs5
      have HC5 := hide (HB.out.keep hR5 hK5)
      clear hR5 hK5 k0 k1 q0 q1 HB
      by_cases hz : z = 0
      · subst hz
        go_wp2_with (at_builtin; go_must (refine wpList_appLN _ rfl _ _ rfl (W3.heap.size + 1) (.slice A2 m e2) m (-1) 8 (j : Int) W5.heap.size 1 rfl rfl (HC5.out.f.ext ((Ext.refl _).alloc _)) (World.cell?_alloc_at _ _ _ _ rfl) (by omega) (by omega) (by simp; omega) ?_); intro v' W6 hL6 hb6; obtain ⟨g6, cap6, hv6, -, -, -⟩ := hL6.form; subst hv6; have HL6 := hide hL6; have HB6 := hide hb6; have h61 := ((Below.keep12 hb6).cell (p := ⟨W3.heap.size, 1, none⟩) (by simp; omega) (by show W3.heap.size < W3.heap.size + 1; omega)).trans ((((Ext.refl W5).alloc (.cells #[.int .i64 (j : Int)] 3)).cells _ _ hl5).trans h51); have r61 := ((Below.keep12 hb6).frz (p := ⟨W3.heap.size, 1, none⟩) (by simp; omega) (by show W3.heap.size < W3.heap.size + 1; omega)).trans ((((Ext.refl W5).alloc (.cells #[.int .i64 (j : Int)] 3)).frz _ _ hl5).trans r51); clear hL6 hb6)
        go_roundw
        case rel => exact ⟨j + 1, m + 1, _, by go_num, by omega, by omega, (((HC5.out.grow ((Ext.refl _).alloc _)).far1 HB6.out (.inr HL6.out)).rdN (by omega))⟩
        case measure => simp [intOf]; omega
      · have hzb : (z == 0) = false := by simp [hz]
        go_wp2_with fail
        go_roundw
        case rel => exact ⟨j + 1, m, _, by go_num, by omega, by omega, HC5.out.rdN (by omega)⟩
        case measure => simp [intOf]; omega
    · obtain rfl : n = j := by omega
      have hjI : ¬ ((n : Int) < n) := by omega
      go_wp2_with fail
      refine (pick_any w0 br (N + 55 + n) 3 _ (by omega) (by omega) (by omega) HB.out.rd).mono ?_
      rintro e W5 ⟨z, zz0, zz1, rfl, hR5, hK5⟩
      have h50 := (hK5.cell (p := ⟨W3.heap.size, 0, none⟩) hbc hbn).trans k0
      have h51 := (hK5.cell (p := ⟨W3.heap.size, 1, none⟩) hbc hbn).trans k1
      have hs5 := hK5.size
      have hl5 := Nat.lt_of_lt_of_le hbc hs5
      have hC5 := HB.out.keep hR5 hK5
      obtain ⟨hrl5, ⟨u0, u1, hu0, hu1, hy0, hy1⟩⟩ := hC5.r.two
      have HC5 := hide (hC5.rdN (M := N + 60) (by omega))
      clear hR5 hK5 k0 k1 q0 q1 HB hC5
      by_cases hz : z = 0
      · subst hz
        go_wp2_with fail
        clear hu0 hu1 hy0 hy1 h50 h51 hs5 hrl5 hl5
        go_loopw [5] (fun i wr => ∃ s : Nat, i = .int .i64 s ∧ s ≤ n ∧ AB w0 br W.heap.size W3.heap.size (W3.heap.size + 1) (N + 60) n m (fun l => l = 6) (-1) 5 Wb wr (.slice An n cn) (.slice A2 m e2)) (fun i _ => n - (intOf i).toNat)
        case atStart => exact ⟨0, rfl, Nat.zero_le _, HC5.out⟩
        case round =>
          obtain ⟨s, rfl, hs, hB⟩ := hrel
          have k0 := hB.c0
          have k1 := hB.c1
          have hbc : W3.heap.size < wr.heap.size := by have := hB.b2; omega
          obtain ⟨hrl5, ⟨u0, u1, hu0, hu1, hy0, hy1⟩⟩ := hB.r.two
          have HB := hide hB
          clear hB HC5
          by_cases hsn : s < n
          · have hsI : (s : Int) < n := by omega
            go_wp2_with fail
            clear k0 k1 hbc hrl5 hu0 hu1 hy0 hy1
            go_loopw [6] (fun i wr => ∃ t : Nat, i = .int .i64 t ∧ 2 ≤ t ∧ t ≤ 6 ∧ AB w0 br W.heap.size W3.heap.size (W3.heap.size + 1) (N + 60) n m (fun l => l = 6) (-1) 5 Wb wr (.slice An n cn) (.slice A2 m e2)) (fun i _ => 6 - (intOf i).toNat)
            case atStart => exact ⟨2, rfl, Nat.le_refl _, by omega, HB.out⟩
            case round =>
              obtain ⟨t, rfl, ht2, ht6, hB⟩ := hrel
              have k0 := hB.c0
              have hbc : W3.heap.size < wr.heap.size := by have := hB.b2; omega
              obtain ⟨g, cap, b, l, cp, m', f, hv, hnc, hSg, hgl, hgb, hgc, hgz, rfl, hlc, hlm, hSb, hbl, hrow, hf⟩ := hB.t.row hsn
              injection hv with hv1 hv2 hv3
              subst hv1 hv3
              have HB := hide hB
              clear hB hv2
              by_cases ht : t < 6
              · obtain ⟨x, hx0, hx1, hx2⟩ := hf (t % 2) (by omega)
                have hc : wr.cell? ⟨b, t % 2, none⟩ = some (.int .i64 x) := (hrow.cell (i := t % 2) (by omega)).trans (congrArg some hx0)
                have HRW := hide hrow
                clear hrow hf hx0
                obtain rfl | rfl | rfl | rfl : t = 2 ∨ t = 3 ∨ t = 4 ∨ t = 5 := by omega
                all_goals
                  go_wp2_with fail
                  refine wp_region_ext_tail 16 (by kernel_rfl) (by kernel_rfl) ?_
                  simp only [List.take_succ_cons, List.take_zero, List.drop_succ_cons, List.drop_zero]
                  iterate 16 (apply quiet_val; (focus rfl); (focus (intro w' hw'; have hk' := hw'.cells; go_simp; all_goals exact rfl)); simp only [Act.put, List.setIfInBounds_toArray, List.set_cons_succ, List.set_cons_zero])
                  refine wpQuiet_nil ?_
                  intro w6 hx6
                  have hr6 := hx6.row HRW.out
                  have z62 := hr6.frozen 2
                  have z63 := hr6.frozen 3
                  have z64 := hr6.frozen 4
                  have z65 := hr6.frozen 5
                  have u62 := hr6.cell (i := 2) (by omega)
                  have u63 := hr6.cell (i := 3) (by omega)
                  have u64 := hr6.cell (i := 4) (by omega)
                  have u65 := hr6.cell (i := 5) (by omega)
                  have HR6 := hide hr6
                  clear hr6
                  go_wp2_with fail
                  go_roundw
                  case rel =>
                    have hh := (HB.out.grow hx6).setn HR6.out hSb
                    first
                      | exact ⟨3, by go_num, by omega, by omega, hh 2 ⟨hx1, hx2⟩⟩
                      | exact ⟨4, by go_num, by omega, by omega, hh 3 ⟨hx1, hx2⟩⟩
                      | exact ⟨5, by go_num, by omega, by omega, hh 4 ⟨hx1, hx2⟩⟩
                      | exact ⟨6, by go_num, by omega, by omega, hh 5 ⟨hx1, hx2⟩⟩
                  case measure => simp [intOf]
              · obtain rfl : t = 6 := by omega
                clear hrow hf
                go_wp2_with fail
                go_roundw
                case rel => exact ⟨s + 1, by go_num, by omega, HB.out⟩
                case measure => simp [intOf]; omega
          · obtain rfl : n = s := by omega
            have hsI : ¬ ((n : Int) < n) := by omega
            go_wp2_with fail
            refine bodyPost_ret (v := .agg #[.slice An n cn, .slice A2 m e2]) (by simp only [results, Try.results62]; go_simp) rfl ?_
            exact HB.out.done HXB.out HSB.out (by (repeat refine Keep.set ?_ (fun _ hh => hh rfl) _); exact Keep.refl _ _) (by omega) (by omega) hn1 hn4 (by omega)
      · have hzb : (z == 0) = false := by simp [hz]
        go_wp2_with fail
        refine bodyPost_ret (v := .agg #[.slice An n cn, .slice A2 m e2]) (by simp only [results, Try.results62]; go_simp) rfl ?_
        exact HC5.out.done HXB.out HSB.out (by (repeat refine Keep.set ?_ (fun _ hh => hh rfl) _); exact Keep.refl _ _) (by omega) (by omega) hn1 hn4 (by omega)
end Go.Proofs.Ytdiedghaoleblaa
/- Draws of automata: an automaton that may be invalid. -/
namespace Go.Proofs.Ytdiedghaoleblaa
open Go.RowKit
attribute [local go_sem] evalOf

theorem LN.lt9 {base : Nat} {w : World} {v : Value} {n : Nat} {lo hi : Int} (h : LN base w v n lo hi) : ∀ g, v.ownBlock = some g → g < w.heap.size := by
  obtain ⟨xs, h1, -⟩ := h.owns
  exact fun g hg => (World.ownsRow.lt h1 g hg).2
/-- An automaton stands in block mb. -/
structure AJ (w0 : World) (br rb mb B N n m : Nat) (W wr : World) (nx fn : Value) : Prop where
  c0 : wr.cell? ⟨mb, 0, none⟩ = some nx
  c1 : wr.cell? ⟨mb, 1, none⟩ = some fn
  fz : ∀ i, wr.frozen? ⟨mb, i, none⟩ = false
  t : LTab (fun k => W.heap.size ≤ k ∧ k < B) (fun l => l = 6) wr nx n (-1) 5
  f : LN B wr fn m (-1) 8
  fb : ∀ g, fn.ownBlock = some g → g < mb
  b0 : B ≤ mb
  bB : W.heap.size ≤ B
  b1 : mb < wr.heap.size
  r : RB rb 2 wr
  r1 : rb ≠ br
  r2 : rb < W.heap.size
  rd : RdSt w0 br N wr
  kp : Keep (fun k => k ≠ br) W wr
  br0 : br < W.heap.size
  w00 : w0.heap.size ≤ W.heap.size
theorem AJ.start {w0 : World} {br rb B N n m : Nat} {W wr : World} {nx fn : Value} (ty : TypeId) (ht : LTab (fun k => W.heap.size ≤ k ∧ k < B) (fun l => l = 6) wr nx n (-1) 5) (hf : LN B wr fn m (-1) 8) (hB : W.heap.size ≤ B) (hB2 : B ≤ wr.heap.size) (hr : RB rb 2 W) (hrb : rb ≠ br) (hr2 : rb < W.heap.size) (hR : RdSt w0 br N wr) (hK : Keep (fun k => k ≠ br) W wr) (hbr : br < W.heap.size) (hw0 : w0.heap.size ≤ W.heap.size) :
    AJ w0 br rb wr.heap.size B N n m W (wr.alloc (.cells #[nx, fn] ty)) nx fn := by
  have hx : Ext wr (wr.alloc (.cells #[nx, fn] ty)) := (Ext.refl wr).alloc _
  exact ⟨World.cell?_alloc_at _ _ _ _ rfl, World.cell?_alloc_at _ _ _ _ rfl, fun i => World.frozen?_alloc_new _ _ _ _, ht.ext hx, hf.ext hx, hf.lt9, hB2, hB, by simp, (hr.keep hK hrb).keep (hx.keep (fun _ => True)) trivial, hrb, hr2, hR.grow hx, hK.trans (hx.keep _), hbr, hw0⟩
theorem AJ.keep {w0 : World} {br rb mb B N M n m : Nat} {W wr w2 : World} {nx fn : Value} (h : AJ w0 br rb mb B N n m W wr nx fn) (hR : RdSt w0 br M w2) (hK : Keep (fun k => k ≠ br) wr w2) : AJ w0 br rb mb B M n m W w2 nx fn := by
  have h1 := h.br0
  have h2 := h.b0
  have h3 := h.bB
  have hb : mb ≠ br := by omega
  exact ⟨(hK.cell (p := ⟨mb, 0, none⟩) h.b1 hb).trans h.c0, (hK.cell (p := ⟨mb, 1, none⟩) h.b1 hb).trans h.c1, fun i => (hK.frz (p := ⟨mb, i, none⟩) h.b1 hb).trans (h.fz i),
    h.t.keep hK (fun k hk => by omega), h.f.keep hK (fun k hk => by omega), h.fb, h.b0, h.bB, Nat.lt_of_lt_of_le h.b1 hK.size, h.r.keep hK h.r1, h.r1, h.r2, hR, h.kp.trans hK, h.br0, h.w00⟩
theorem AJ.mono {w0 : World} {br rb mb B N M n m : Nat} {W wr : World} {nx fn : Value} (h : AJ w0 br rb mb B N n m W wr nx fn) (hM : N ≤ M) : AJ w0 br rb mb B M n m W wr nx fn := h.keep (h.rd.mono hM) (Keep.refl _ _)
/-- An automaton came that may be invalid. -/
def XAGot (w0 : World) (br N : Nat) (W : World) (e : Ending) (W' : World) : Prop :=
  ∃ nx fn n m, e = .returned (.agg #[nx, fn]) ∧ 1 ≤ n ∧ n ≤ 16 ∧ m ≤ 5 ∧ LTab (fun k => W.heap.size ≤ k) (fun l => l ≤ 6) W' nx n (-2) 5 ∧ LN W.heap.size W' fn m (-1) 8 ∧ RdSt w0 br N W' ∧ Keep (fun k => k ≠ br) W W'
theorem LN.base9 {A B : Nat} {w : World} {v : Value} {n : Nat} {lo hi : Int} (h : LN A w v n lo hi) (hB : B ≤ A) : LN B w v n lo hi := h.imp id (fun h => h.mono hB (Int.le_refl _) (Int.le_refl _))
theorem XAGot.done {w0 : World} {br N n m : Nat} {W Wb wr w' : World} {nx fn : Value} (ht : LTab (fun k => Wb.heap.size ≤ k) (fun l => l ≤ 6) wr nx n (-2) 5) (hf : LN Wb.heap.size wr fn m (-1) 8) (hR : RdSt w0 br N wr) (hKb : Keep (fun k => k ≠ br) Wb wr) (hx : Ext W Wb) (hs : Wb.heap.size = W.heap.size + 1) (hk : Keep (fun k => k ≠ W.heap.size) wr w') (hbr : br < W.heap.size) (hw : w0.heap.size ≤ W.heap.size) (h1 : 1 ≤ n) (h2 : n ≤ 16) (h3 : m ≤ 5) :
    XAGot w0 br N W (.returned (.agg #[nx, fn])) w' :=
  ⟨nx, fn, n, m, rfl, h1, h2, h3, (ht.keep hk (fun k hk => by omega)).mono (fun k hk => by omega) (fun _ h => h) (Int.le_refl _) (Int.le_refl _), (hf.keep hk (fun k hk => by omega)).base9 (by omega), hR.keep hk (by omega) (fun k hk => by omega), ((hx.keep _).trans hKb).trans9 hk (fun k hk _ => by omega)⟩
/-- A fresh list of numbers of a range. -/
def NumsAt (br n : Nat) (lo hi : Int) (v : Value) (w : World) : Prop :=
  ∃ b, v = .slice (some ⟨b, 0, none⟩) n n ∧ b < w.heap.size ∧ b ≠ br ∧ ∀ i, i < n → ∃ x : Int, w.cell? ⟨b, i, none⟩ = some (vI x) ∧ lo ≤ x ∧ x ≤ hi
theorem NumsAt.keep {br n : Nat} {lo hi : Int} {v : Value} {w w' : World} (h : NumsAt br n lo hi v w) (hk : Keep (fun k => k ≠ br) w w') : NumsAt br n lo hi v w' := by
  obtain ⟨b, h1, h2, h3, h4⟩ := h
  exact ⟨b, h1, Nat.lt_of_lt_of_le h2 hk.size, h3, fun i hi => by obtain ⟨x, q1, q2⟩ := h4 i hi; exact ⟨x, (hk.cell (p := ⟨b, i, none⟩) h2 h3).trans q1, q2⟩⟩
theorem NumsAt.new {br : Nat} {lo hi : Int} (w : World) (t : TypeId) (xs : List Int) (h : ∀ x ∈ xs, lo ≤ x ∧ x ≤ hi) (hb : br < w.heap.size) : NumsAt br xs.length lo hi (.slice (some ⟨w.heap.size, 0, none⟩) xs.length xs.length) (w.alloc (.cells (xs.map vI).toArray t)) :=
  ⟨_, rfl, by simp, by omega, newL12 w t xs h⟩
/-- The header of row 0 is written: its block, a length that P tells. -/
theorem LTab.setr {S P : Nat → Prop} {w : World} {v : Value} {n i g cap : Nat} {lo hi : Int} (h : LTab S P w v n lo hi) (hi' : i < n) (hv : v = .slice (some ⟨g, 0, none⟩) n cap) {u : Value} (hu : LRow S P w u lo hi) : LTab S P (w.setCell ⟨g, i, none⟩ u) v n lo hi := by
  obtain ⟨cells, h1, h2, h3⟩ := h
  have hcl : cells.length = n := by simpa using h1.1
  rcases h1.2 with ⟨-, e2⟩ | ⟨g', cap', cur, e1, hb, hh, hnc, hm, hcs, htk⟩
  · omega
  · rw [hv] at e1
    injection e1 with e1 _ e3
    injection e1 with e1
    injection e1 with e1
    subst e1 e3
    have hrow : ∀ {cv : Value}, LRow S P w cv lo hi → LRow S P (w.setCell ⟨g, i, none⟩ u) cv lo hi := by
      rintro cv ⟨b, l, cp, m, f, q0, q1, q2, q3, q4, q5, q6⟩
      refine ⟨b, l, cp, m, f, q0, q1, q2, q3, q4, q5.setOther ?_ _, q6⟩
      rintro rfl
      obtain ⟨cur', k2, -⟩ := q5
      rw [hh] at k2
      injection k2 with k2
      injection k2 with _ k3
      cases k3
    refine ⟨cells.set i u, ⟨by simp; omega, .inr ⟨g, cap, cur.setIfInBounds i u, hv, hb, ?_, hnc, hm, by simpa using hcs, ?_⟩⟩, h2, fun j hj => ?_⟩
    · simp [World.setCell, Array.getElem?_modify, hh]
    · rw [← htk, Array.toList_setIfInBounds, List.take_set]
    · by_cases e : i = j
      · subst e
        exact ⟨u, List.getElem?_set_self (by omega), hrow hu⟩
      · obtain ⟨cv, q1, q2⟩ := h3 j hj
        exact ⟨cv, by rw [List.getElem?_set_ne e]; exact q1, hrow q2⟩
theorem LN.keepO {base : Nat} {w w' : World} {v : Value} {n : Nat} {lo hi : Int} {S : Nat → Prop} (h : LN base w v n lo hi) (hk : Keep S w w') (hS : ∀ g, v.ownBlock = some g → S g) : LN base w' v n lo hi := h.imp id (fun h => h.keepb hk hS)
theorem grown_keep9 {w w' : World} {row : Option Nat} {S : Nat → Prop} (h : w.grownBy w' row) (hS : ∀ k, S k → row ≠ some k) : Keep S w w' :=
  ⟨h.os, h.tape, h.output, h.size, fun k hk hs => h.block k hk (fun e => hS k hs e.symm)⟩
/-- What a change that spares the automaton's struct leaves. -/
theorem AJ.under {w0 : World} {br rb mb B N n m : Nat} {W wr w6 : World} {nx fn : Value} {S : Nat → Prop} (h : AJ w0 br rb mb B N n m W wr nx fn) (hk : Keep S wr w6) (hm : S mb) (hS : ∀ k, k < W.heap.size → S k) :
    w6.cell? ⟨mb, 0, none⟩ = some nx ∧ w6.cell? ⟨mb, 1, none⟩ = some fn ∧ (∀ i, w6.frozen? ⟨mb, i, none⟩ = false) ∧ mb < w6.heap.size ∧ RB rb 2 w6 ∧ RdSt w0 br N w6 ∧ Keep (fun k => k ≠ br) W w6 := by
  have h1 := h.br0
  have h2 := h.w00
  have h3 := h.r2
  exact ⟨(hk.cell (p := ⟨mb, 0, none⟩) h.b1 hm).trans h.c0, (hk.cell (p := ⟨mb, 1, none⟩) h.b1 hm).trans h.c1, fun i => (hk.frz (p := ⟨mb, i, none⟩) h.b1 hm).trans (h.fz i), Nat.lt_of_lt_of_le h.b1 hk.size, h.r.keep hk (hS _ h3), h.rd.keep hk (hS _ h1) (fun k hk => hS k (by omega)), h.kp.trans9 hk (fun k hk _ => hS k hk)⟩
/-- append of one number: which block is written. -/
theorem wpList_appLNG (w : World) {ops : Array Oper} {rest : List Oper} {o : Oper} {a : Act} {Q : Exit → Act → World → Prop} (hgd : o.guard = none) (s x : Operand)
    (ho : o.op = .call { callee := .builtin .append, args := #[s, x], argTypes := #[24, 24] })
    (base : Nat) (v : Value) (n : Nat) (lo hi y : Int) (b c : Nat) (hs : a.eval s = v) (hx : a.eval x = .slice (some ⟨b, 0, none⟩) 1 c)
    (hown : LN base w v n lo hi) (hc : w.cell? ⟨b, 0, none⟩ = some (.int .i64 y)) (hy : lo ≤ y ∧ y ≤ hi) (hl : n + 1 ≤ 1000000) (hbase : base ≤ w.heap.size)
    (h : ∀ v' w', LR base 3 1 w' v' (n + 1) lo hi → w.grownBy w' v.ownBlock → (∀ g, v'.ownBlock = some g → v.ownBlock = some g ∨ w.heap.size ≤ g) → wpList Try.prog ops Q rest (a.put o.dst v') w') : wpList Try.prog ops Q (o :: rest) a w := by
  obtain ⟨i, hi', hz, hsz, hby⟩ := Try.infoIp
  obtain ⟨xs, h1, h2⟩ := hown.owns
  obtain ⟨v', w', hrun, e2, e3, e4⟩ := run_append_kind (P := Try.prog) w base 24 o.type 3 i _ 8 Try.underlying24 hi' hz hsz hby rfl v n xs h1 b c _ hc rfl (by unfold maxLen; omega) (by omega) hbase
  refine wpList_plain hgd fun K hK => ?_
  unfold Oper.wp
  simp [execOp, ho, resolve, invoke, builtin, hs, hx, hrun, Result.andThen]
  refine hK _ _ (h v' w' (LR.of_owns e2 (by omega) (fun u hu => ?_)) e3 e4)
  rcases List.mem_append.1 hu with hu | hu
  · exact h2 u hu
  · simp at hu; subst hu; exact ⟨y, rfl, hy.1, hy.2⟩
/-- append of table to table, in a drawn region. -/
theorem step_appLT (w : World) {ops : Array Oper} {o : Oper} {a : Act} {K : Act → World → Prop} {Q : Exit → Act → World → Prop} {E : Prop} (hgd : o.guard = none) (s x : Operand)
    (ho : o.op = .call { callee := .builtin .append, args := #[s, x], argTypes := #[23, 23] })
    (S P : Nat → Prop) (v v2 : Value) (n m : Nat) (lo hi : Int) (hs : a.eval s = v) (hx : a.eval x = v2) (h1 : LTab S P w v n lo hi) (h2 : LTab S P w v2 m lo hi) (hm : 0 < m) (hl : n + m ≤ 1000) (hS : ∀ k, w.heap.size ≤ k → S k)
    (h : ∀ v' w', LTab S P w' v' (n + m) lo hi → w.grownBy w' v.ownBlock → K (a.put o.dst v') w') : if Region.wanted o (yielded ops a.tmps) = true then Oper.wp Try.prog o a w K Q else E := by
  have hw : Region.wanted o (yielded ops a.tmps) = true := by simp [Region.wanted, hgd]
  rw [if_pos hw]
  obtain ⟨v', w', hrun, e1, e2⟩ := run_appLTab S P w o.type v v2 n m lo hi h1 h2 hm hl hS
  unfold Oper.wp
  simp [execOp, ho, resolve, invoke, builtin, hs, hx, hrun, Result.andThen]
  exact h v' w' e1 e2
set_option maxRecDepth 100000 in
set_option maxHeartbeats 8000000 in
theorem anyAutomaton_any (w0 : World) (br N : Nat) (W : World) (hN : N ≤ 60000) (hR : RdSt w0 br N W) :
    Calls Try.prog 35 #[.pointer (some ⟨br, 0, none⟩)] W (XAGot w0 br (N + 80) W) := by
  have HR := hide hR
  have hbr := hR.lt
  have hw0 := hR.ext.size
  clear hR
  go_enter Try.func35, Try.ntmps35
  go_wp2_with fail
  refine (automaton_any w0 br N _ (by omega) (HR.out.grow ((Ext.refl W).alloc _))).mono ?_
  rintro e W1 ⟨nx, fn, n, m, B, rfl, hn1, hn4, hm4, hB1, hB2, hT, hF, hR1, hK1⟩
  obtain ⟨An, cn, hv, hcn⟩ := hT.form
  obtain ⟨Af, cf, hv2, hcf⟩ := hF.form
  subst hv hv2
  obtain ⟨Wb, hWb⟩ : ∃ Wb, Wb = W.alloc (.cells #[.slice none 0 0, .slice none 0 0] 26) := ⟨_, rfl⟩
  rw [← hWb] at hB1 hT hK1
  obtain ⟨hxb, hsb, hbb⟩ : Ext W Wb ∧ Wb.heap.size = W.heap.size + 1 ∧ RB W.heap.size 2 Wb := by
    subst hWb
    refine ⟨(Ext.refl W).alloc _, by simp, ⟨by simp, fun i => World.frozen?_alloc_new _ _ _ _, fun i hi => ?_⟩⟩
    obtain rfl | rfl : i = 0 ∨ i = 1 := by omega
    all_goals exact ⟨_, World.cell?_alloc_at _ _ _ _ rfl⟩
  clear hWb
  have HJ := hide (AJ.start 26 hT hF hB1 hB2 hbb (by omega) (by omega) hR1 hK1 (by omega) (by omega))
  have HXB := hide hxb
  have HSB := hide hsb
  have hz1 := hK1.size
  clear hT hF hR1 hK1 hbb hxb
  go_wp2_with fail
  refine (pick_any w0 br (N + 60) 20 _ (by omega) (by omega) (by omega) HJ.out.rd).mono ?_
  rintro e W2 ⟨z, z0, z1, rfl, hR2, hK2⟩
  have hJ2 := HJ.out.keep hR2 hK2
  have m0 := hJ2.c0
  have m1 := hJ2.c1
  have y0 := hJ2.fz 0
  have y1 := hJ2.fz 1
  have hml := hJ2.b1
  have hmbr : W1.heap.size ≠ br := by omega
  have hBw := hJ2.bB
  have hBm := hJ2.b0
  obtain ⟨g, cap, b, l, cp, m', f, hv, hnc, hSg, hgl, hgb, hgc, hgz, rfl, hlc, hlm, hSb, hbl, hrow, hf⟩ := hJ2.t.row (i := 0) (by omega)
  injection hv with hv1 hv2 hv3
  subst hv1 hv3
  have hgbr : g ≠ br := by omega
  have hn0 : ¬ n = 0 := by omega
  have hbbr : b ≠ br := by omega
  have hbm : W1.heap.size ≠ b := by omega
  have hgm : W1.heap.size ≠ g := by omega
  have HRW := hide hrow
  have HFW := hide hf
  have HJ2 := hide hJ2
  have HR2 := hide hR2
  clear hJ2 hR2 hK2 HJ hv2 hrow hf
  by_cases h0 : z = 0
  · subst h0
    go_upto_region 4 with fail
    refine wp_region_relKT (Rl := Keep (fun k => k ≠ br)) (n := 13) (ts := [13]) (sp := [RK.q [] (fun _ => .pointer (some ⟨W1.heap.size, 0, none⟩)), RK.q [0] (fun _ => .slice (some ⟨g, 0, none⟩) n cn), RK.q [1] (fun _ => .pointer (some ⟨g, 0, none⟩)), RK.q [2] (fun _ => .slice (some ⟨b, 0, none⟩) 6 cp), RK.q [] (fun _ => .pointer (some ⟨br, 0, none⟩)), RK.p [4] (fun _ v => ∃ z : Int, 0 ≤ z ∧ z ≤ 5 ∧ v = .int .i64 z), RK.q [] (fun _ => .pointer (some ⟨br, 0, none⟩)), RK.q [] (fun _ => .pointer (some ⟨W1.heap.size, 0, none⟩)), RK.q [7] (fun _ => .slice (some ⟨g, 0, none⟩) n cn), RK.q [8] (fun _ => .int .i64 n), ⟨[9], fun _ v w => NumsAt br 2 (-2) 5 v w, fun _ _ _ _ h hk => h.keep hk⟩, RK.p [6, 10] (fun _ v => ∃ z : Int, -2 ≤ z ∧ z ≤ 5 ∧ v = .int .i64 z), RK.p [3, 5] (fun _ v => ∃ k : Nat, k < 6 ∧ v = .pointer (some ⟨b, k, none⟩))])
      (RdCn w0 br (N + 61) 13 W2) (by kernel_rfl) (relOKK (D := [[], [0], [1], [2], [], [4], [], [], [7], [8], [9], [6, 10], [3, 5]]) rfl (by kernel_rfl) rfl) (by kernel_rfl) (fun m w h => by exact h.le) (fun w => by exact Keep.refl _ _) (RdCn.start 13 HR2.out) ?steps ?ends
    case steps =>
      refine ⟨?_, ?_, ?_, ?_, ?_, ?_, ?_, ?_, ?_, ?_, ?_, ?_, ?_, trivial⟩
      · intro m V τ W hC hf ht h0
        have s3 : τ 3 = .pointer (some ⟨W1.heap.size, 0, none⟩) := h0 3 (by kernel_rfl)
        refine Does.val (w' := W) (v := .pointer (some ⟨W1.heap.size, 0, none⟩)) ?_ ⟨(by exact Keep.refl _ _), (by exact hC.le), rfl⟩
        clear h0 ht hf
        go_simp
      · intro m V τ W hC hf ht h0
        have f0 : V 0 = .pointer (some ⟨W1.heap.size, 0, none⟩) := hf 0 (show 0 ∈ [0] by decide)
        have s10 := (ht 0 (show 0 ∈ [0] by decide) 10 rfl).trans f0
        have c1 := (hC.kp.cell (p := ⟨W1.heap.size, 0, none⟩) hml hmbr).trans m0
        refine Does.val (w' := W) (v := .slice (some ⟨g, 0, none⟩) n cn) ?_ ⟨(by exact Keep.refl _ _), (by exact hC.le), rfl⟩
        clear h0 ht hf
        go_simp
      · intro m V τ W hC hf ht h0
        have f1 : V 1 = .slice (some ⟨g, 0, none⟩) n cn := hf 1 (show 1 ∈ [1] by decide)
        have s11 := (ht 1 (show 1 ∈ [1] by decide) 11 rfl).trans f1
        refine Does.val (w' := W) (v := .pointer (some ⟨g, 0, none⟩)) ?_ ⟨(by exact Keep.refl _ _), (by exact hC.le), rfl⟩
        clear h0 ht hf
        go_simp
      · intro m V τ W hC hf ht h0
        have f2 : V 2 = .pointer (some ⟨g, 0, none⟩) := hf 2 (show 2 ∈ [2] by decide)
        have s12 := (ht 2 (show 2 ∈ [2] by decide) 12 rfl).trans f2
        have c3 := (hC.kp.cell (p := ⟨g, 0, none⟩) hgl hgbr).trans hgc
        refine Does.val (w' := W) (v := .slice (some ⟨b, 0, none⟩) 6 cp) ?_ ⟨(by exact Keep.refl _ _), (by exact hC.le), rfl⟩
        clear h0 ht hf
        go_simp
      · intro m V τ W hC hf ht h0
        have s0 : τ 0 = .pointer (some ⟨br, 0, none⟩) := h0 0 (by kernel_rfl)
        refine Does.val (w' := W) (v := .pointer (some ⟨br, 0, none⟩)) ?_ ⟨(by exact Keep.refl _ _), (by exact hC.le), rfl⟩
        clear h0 ht hf
        go_simp
      · intro m V τ W hC hf ht h0
        have f4 : V 4 = .pointer (some ⟨br, 0, none⟩) := hf 4 (show 4 ∈ [4] by decide)
        have s14 := (ht 4 (show 4 ∈ [4] by decide) 14 rfl).trans f4
        obtain ⟨M, hR, hM, hnext⟩ := hC.step (by omega)
        refine Does.call (w' := W) (f := 63) (args := #[.pointer (some ⟨br, 0, none⟩), .int .i64 6]) (by go_simp; all_goals (first | exact rfl | (apply And.intro <;> exact rfl))) ?_
        refine (pick_any w0 br M 6 W (by omega) (by omega) hM hR).mono ?_
        rintro e wa ⟨z, z0, z1, rfl, hR1, hK1⟩
        exact ⟨_, rfl, hK1, hnext _ hR1 hK1, z, by omega, by omega, rfl⟩
      · intro m V τ W hC hf ht h0
        have s0 : τ 0 = .pointer (some ⟨br, 0, none⟩) := h0 0 (by kernel_rfl)
        refine Does.val (w' := W) (v := .pointer (some ⟨br, 0, none⟩)) ?_ ⟨(by exact Keep.refl _ _), (by exact hC.le), rfl⟩
        clear h0 ht hf
        go_simp
      · intro m V τ W hC hf ht h0
        have s3 : τ 3 = .pointer (some ⟨W1.heap.size, 0, none⟩) := h0 3 (by kernel_rfl)
        refine Does.val (w' := W) (v := .pointer (some ⟨W1.heap.size, 0, none⟩)) ?_ ⟨(by exact Keep.refl _ _), (by exact hC.le), rfl⟩
        clear h0 ht hf
        go_simp
      · intro m V τ W hC hf ht h0
        have f7 : V 7 = .pointer (some ⟨W1.heap.size, 0, none⟩) := hf 7 (show 7 ∈ [7] by decide)
        have s17 := (ht 7 (show 7 ∈ [7] by decide) 17 rfl).trans f7
        have c1 := (hC.kp.cell (p := ⟨W1.heap.size, 0, none⟩) hml hmbr).trans m0
        refine Does.val (w' := W) (v := .slice (some ⟨g, 0, none⟩) n cn) ?_ ⟨(by exact Keep.refl _ _), (by exact hC.le), rfl⟩
        clear h0 ht hf
        go_simp
      · intro m V τ W hC hf ht h0
        have f8 : V 8 = .slice (some ⟨g, 0, none⟩) n cn := hf 8 (show 8 ∈ [8] by decide)
        have s18 := (ht 8 (show 8 ∈ [8] by decide) 18 rfl).trans f8
        refine Does.val (w' := W) (v := .int .i64 n) ?_ ⟨(by exact Keep.refl _ _), (by exact hC.le), rfl⟩
        clear h0 ht hf
        go_simp
      · intro m V τ W hC hf ht h0
        have f9 : V 9 = .int .i64 n := hf 9 (show 9 ∈ [9] by decide)
        have s19 := (ht 9 (show 9 ∈ [9] by decide) 19 rfl).trans f9
        have hsz := hC.size
        refine Does.val (w' := W.alloc (.cells #[.int .i64 (-2), .int .i64 n] 3)) (v := .slice (some ⟨W.heap.size, 0, none⟩) 2 2) ?_ ⟨((Ext.refl W).alloc _).keep _, hC.ext ((Ext.refl W).alloc _), (by exact NumsAt.new W _ [-2, n] (by intro x hx; simp at hx; omega) (by omega))⟩
        clear h0 ht hf
        go_simp
      · intro m V τ W hC hf ht h0
        have f6 : V 6 = .pointer (some ⟨br, 0, none⟩) := hf 6 (show 6 ∈ [6, 10] by decide)
        have s16 := (ht 6 (show 6 ∈ [6, 10] by decide) 16 rfl).trans f6
        have f10 := hf 10 (show 10 ∈ [6, 10] by decide)
        have s20 : τ 20 = V 10 := ht 10 (show 10 ∈ [6, 10] by decide) 20 rfl
        obtain ⟨bl, hbl, hb1, hb2, hb3⟩ := f10
        rw [hbl] at s20
        obtain ⟨M, hM, hR, hKk⟩ := hC
        refine Does.call (w' := W) (f := 64) (args := #[.pointer (some ⟨br, 0, none⟩), .slice (some ⟨bl, 0, none⟩) 2 2]) (by go_simp; all_goals (first | exact rfl | (apply And.intro <;> exact rfl))) ?_
        refine (one_any w0 br M (-2) 5 bl 2 2 W (by omega) (by omega) (by omega) hR hb1 hb2 hb3 (Nat.le_refl _)).mono ?_
        rintro e wa ⟨z, z0, z1, rfl, hR1, hK1⟩
        exact ⟨_, rfl, hK1, ⟨M + 1, by omega, hR1, hKk.trans hK1⟩, z, by omega, by omega, rfl⟩
      · intro m V τ W hC hf ht h0
        have f3 : V 3 = .slice (some ⟨b, 0, none⟩) 6 cp := hf 3 (show 3 ∈ [3, 5] by decide)
        have s13 := (ht 3 (show 3 ∈ [3, 5] by decide) 13 rfl).trans f3
        have f5 : ∃ z : Int, 0 ≤ z ∧ z ≤ 5 ∧ V 5 = .int .i64 z := hf 5 (show 5 ∈ [3, 5] by decide)
        have s15 : τ 15 = V 5 := ht 5 (show 5 ∈ [3, 5] by decide) 15 rfl
        obtain ⟨z, z0, z1, hz⟩ := f5
        rw [hz] at s15
        obtain ⟨k, rfl⟩ : ∃ k : Nat, z = k := ⟨z.toNat, by omega⟩
        have hk6 : (k : Int) < 6 := by omega
        have hk7 : k < 6 := by omega
        refine Does.val (w' := W) (v := .pointer (some ⟨b, k, none⟩)) ?_ ⟨Keep.refl _ _, hC.le, k, by omega, rfl⟩
        clear h0 ht hf
        go_simp
    case ends =>
      intro V W hC hf
      have e0 : V 0 = .pointer (some ⟨W1.heap.size, 0, none⟩) := hf 0 (by omega)
      have e1 : V 1 = .slice (some ⟨g, 0, none⟩) n cn := hf 1 (by omega)
      have e2 : V 2 = .pointer (some ⟨g, 0, none⟩) := hf 2 (by omega)
      have e3 : V 3 = .slice (some ⟨b, 0, none⟩) 6 cp := hf 3 (by omega)
      have e4 : V 4 = .pointer (some ⟨br, 0, none⟩) := hf 4 (by omega)
      have e5 : ∃ z : Int, 0 ≤ z ∧ z ≤ 5 ∧ V 5 = .int .i64 z := hf 5 (by omega)
      have e6 : V 6 = .pointer (some ⟨br, 0, none⟩) := hf 6 (by omega)
      have e7 : V 7 = .pointer (some ⟨W1.heap.size, 0, none⟩) := hf 7 (by omega)
      have e8 : V 8 = .slice (some ⟨g, 0, none⟩) n cn := hf 8 (by omega)
      have e9 : V 9 = .int .i64 n := hf 9 (by omega)
      have e10 := hf 10 (by omega)
      have e11 : ∃ z : Int, -2 ≤ z ∧ z ≤ 5 ∧ V 11 = .int .i64 z := hf 11 (by omega)
      have e12 : ∃ k : Nat, k < 6 ∧ V 12 = .pointer (some ⟨b, k, none⟩) := hf 12 (by omega)
      clear hf
      obtain ⟨hRf, hKf⟩ := hC.fin
      obtain ⟨z5, -, -, e5⟩ := e5
      obtain ⟨bl, e10, -, -, -⟩ := e10
      obtain ⟨z, zz0, zz1, e11⟩ := e11
      obtain ⟨k, k6, e12⟩ := e12
      simp only [List.take_succ_cons, List.take_zero, putAll, Act.put, List.setIfInBounds_toArray, List.set_cons_succ, List.set_cons_zero, Nat.reduceAdd, e0, e1, e2, e3, e4, e5, e6, e7, e8, e9, e10, e11, e12]
      try simp only [nths, nth1]
      clear e0 e1 e2 e3 e4 e5 e6 e7 e8 e9 e10 e11 e12
      have hrw := hKf.row hbbr HRW.out
      have hkc := hrw.cell (i := k) (by omega)
      have hkz := hrw.frozen k
      have HJ8 := hide (HJ2.out.keep hRf hKf)
      obtain ⟨w9, hw9⟩ : ∃ w9, w9 = W.setCell ⟨b, k, none⟩ (.int .i64 z) := ⟨_, rfl⟩
      have hk9 : Keep (fun k => k ≠ b) W w9 := by rw [hw9]; exact (Keep.refl _ _).set (p := ⟨b, k, none⟩) (fun _ hh => hh rfl) _
      have m0 := (hk9.cell (p := ⟨W1.heap.size, 0, none⟩) HJ8.out.b1 hbm).trans HJ8.out.c0
      have m1 := (hk9.cell (p := ⟨W1.heap.size, 1, none⟩) HJ8.out.b1 hbm).trans HJ8.out.c1
      have hml9 := Nat.lt_of_lt_of_le HJ8.out.b1 hk9.size
      obtain ⟨hrl, u0, u1, r0, r1, z0', z1'⟩ := (HJ8.out.r.keep hk9 (by omega)).two
      have hT9 : LTab (fun k => Wb.heap.size ≤ k) (fun l => l ≤ 6) w9 (.slice (some ⟨g, 0, none⟩) n cn) n (-2) 5 := by rw [hw9]; exact (HJ8.out.t.mono (fun k hk => hk.1) (fun l hl => by omega) (by omega) (Int.le_refl _)).setn hrw k ⟨zz0, zz1⟩
      have hF9 := HJ8.out.f.keep hk9 (fun k hk => by omega)
      have hR9 := (HJ8.out.rd.keep hk9 (by omega) (fun k hk => by omega)).mono (M := N + 80) (by omega)
      have hK9 := HJ8.out.kp.trans9 hk9 (fun k hk _ => by omega)
      have HT9 := hide hT9
      have HF9 := hide (hF9.base9 (B := Wb.heap.size) (by omega))
      have HR9 := hide hR9
      have HK9 := hide hK9
      clear hrw hRf hKf hT9 hF9 hR9 hK9 hk9 hC
      go_upto_region 11 with fail
      rw [← hw9]
      clear hw9
      go_wp2_with fail
      refine bodyPost_ret (v := .agg #[.slice (some ⟨g, 0, none⟩) n cn, .slice Af m cf]) (by simp only [results, Try.results35]; go_simp) rfl ?_
      exact XAGot.done (n := n) (m := m) (HT9.out) (HF9.out) (HR9.out) (HK9.out) HXB.out HSB.out (by (repeat refine Keep.set ?_ (fun _ hh => hh rfl) _); exact Keep.refl _ _) (by omega) (by omega) (by omega) (by omega) (by omega)
  · have h0b : (z == 0) = false := by simp [h0]
    by_cases h1 : z = 1
    · subst h1
      go_upto_region 6 with fail
      refine wp_region_any (by kernel_rfl) ?_
      change wpAny _ _ _ _ _ _ _ (World.drew _)
      refine wpAny_take (i := 0) (v := ?_) rfl (by kernel_rfl) (by kernel_rfl) (by kernel_rfl) (by first | exact fun _ _ _ h => h | (rintro _ _ _ ⟨h, _⟩; cases h)) (Or.inl ⟨by rfl, ?hy0⟩) ?_
      case hy0 => intro w; go_simp; with_reducible rfl
      simp only [Act.put, List.getElem_toArray, List.getElem_cons_zero, List.setIfInBounds_toArray, List.set_cons_succ, List.set_cons_zero]
      refine wpAny_take (i := 2) (v := ?_) rfl (by kernel_rfl) (by kernel_rfl) (by kernel_rfl) (by first | exact fun _ _ _ h => h | (rintro _ _ _ ⟨h, _⟩; cases h)) (Or.inl ⟨by rfl, ?hy2⟩) ?_
      case hy2 => intro w; go_simp; with_reducible rfl
      simp only [Act.put, List.getElem_toArray, List.getElem_cons_zero, List.getElem_cons_succ, List.setIfInBounds_toArray, List.set_cons_succ, List.set_cons_zero]
      refine wpAny_flt 1 6 [3, 4, 5] [7, 8] (.slice Af m cf) (fun w => w.cell? ⟨W1.heap.size, 1, none⟩ = some (.slice Af m cf)) rfl (by kernel_rfl) rfl (fun _ _ _ h => h) m1 (And.intro (by rfl) ?hys) ?_
      case hys => intro w' hw'; have hk' : w'.cell? ⟨W1.heap.size, 1, none⟩ = some (.slice Af m cf) := hw'; go_simp; all_goals exact rfl
      simp only [nths, nth1, Act.put, List.setIfInBounds_toArray, List.set_cons_succ, List.set_cons_zero]
      refine wpSeqC_cons fun K hK => ?_
      go_simp
      refine hK _ _ ?_ ?_
      · show World.cell? (World.alloc _ _) _ = _
        exact (((Ext.refl W2).drew.alloc _).cells _ _ hml).trans m1
      clear hK K
      refine wpSeqC_cons fun K hK => ?_
      go_simp
      refine (one_any w0 br (N + 61) (-1) 8 W2.heap.size 3 3 _ (by omega) (by omega) (by omega) (HR2.out.grow (((Ext.refl W2).alloc _).drew)) (by simp [World.drew]) (by omega) (newL12 W2 3 [-1, 0, 8] (by intro x hx; simp at hx; omega)) (Nat.le_refl _)).mono ?_
      rintro e W5 ⟨z, zz0, zz1, rfl, hR5, hK5⟩
      have hK5 : Keep (fun k => k ≠ br) W2 W5 := ((((Ext.refl W2).alloc _).drew).keep _).trans hK5
      have h5 : W5.cell? ⟨W1.heap.size, 1, none⟩ = some (.slice Af m cf) := (hK5.cell (p := ⟨W1.heap.size, 1, none⟩) hml hmbr).trans m1
      have HJ5 := hide (HJ2.out.keep hR5 hK5)
      have hml5 := HJ5.out.b1
      refine hK _ _ h5 ?_
      clear hK K hR5 hK5
      refine wpSeqC_cons fun K hK => ?_
      go_simp
      refine hK _ _ ?_ ?_
      · show World.cell? (World.alloc _ _) _ = _
        exact (((Ext.refl W5).alloc _).cells _ _ hml5).trans h5
      clear hK K
      refine wpSeqC_nil ?_
      refine wpList_appLNG _ rfl _ _ rfl B (.slice Af m cf) m (-1) 8 z W5.heap.size 1 rfl rfl (HJ5.out.f.ext ((Ext.refl _).alloc _)) (World.cell?_alloc_at _ _ _ _ rfl) (by omega) (by omega) (by simp; omega) ?_
      intro v' W6 hL6 hg6 hn6
      obtain ⟨g6, cap6, rfl, -, -, -⟩ := hL6.form
      have hfb := HJ5.out.fb
      have hfB : ∀ g', (Value.slice Af m cf).ownBlock = some g' → B ≤ g' := by obtain ⟨xs, q1, -⟩ := HJ5.out.f.owns; exact fun g' hg' => (World.ownsRow.lt q1 g' hg').1
      have hk6 : Keep (fun k => k = W1.heap.size ∨ k < B) W5 W6 := (((Ext.refl W5).alloc _).keep _).trans (grown_keep9 hg6 (fun k hk e => by have := hfb k e; have := hfB k e; omega))
      obtain ⟨m0', m1', mz', hml6, hrb6, hR6, hK6⟩ := HJ5.out.under hk6 (.inl rfl) (fun k hk => .inr (by omega))
      have y1' := mz' 1
      obtain ⟨w9, hw9⟩ : ∃ w9, w9 = W6.setCell ⟨W1.heap.size, 1, none⟩ (.slice (some ⟨g6, 0, none⟩) (m + 1) cap6) := ⟨_, rfl⟩
      have hk9 : Keep (fun k => k ≠ W1.heap.size) W6 w9 := by rw [hw9]; exact (Keep.refl _ _).set (p := ⟨W1.heap.size, 1, none⟩) (fun _ hh => hh rfl) _
      have n0 : w9.cell? ⟨W1.heap.size, 0, none⟩ = some (.slice (some ⟨g, 0, none⟩) n cn) := by rw [hw9]; exact (World.cell?_setCell_other _ _ _ _ (by simp)).trans m0'
      have n1 : w9.cell? ⟨W1.heap.size, 1, none⟩ = some (.slice (some ⟨g6, 0, none⟩) (m + 1) cap6) := by rw [hw9]; exact World.cell?_setCell_same' _ _ _ (by rw [m1']; rfl)
      have hml9 := Nat.lt_of_lt_of_le hml6 hk9.size
      have hrb9 := hrb6.keep hk9 (by omega)
      have hT9 := ((HJ5.out.t.keep hk6 (fun k hk => .inr hk.2)).keep hk9 (fun k hk => by omega)).mono (T := fun k => Wb.heap.size ≤ k) (Q := fun l => l ≤ 6) (lo' := -2) (hi' := 5) (fun k hk => hk.1) (fun l hl => by omega) (by omega) (Int.le_refl _)
      have hF9 : LN B w9 (.slice (some ⟨g6, 0, none⟩) (m + 1) cap6) (m + 1) (-1) 8 := LN.keepO (.inr hL6) hk9 (fun g' hg' => by have hg' : some g6 = some g' := hg'; injection hg' with hg'; rcases hn6 g6 rfl with h | h; (have := hfb g6 h; omega); (simp at h; omega))
      have hR9 := hR6.keep hk9 (by omega) (fun k hk => by omega)
      have hK9 := hK6.trans9 hk9 (fun k hk _ => by omega)
      obtain ⟨hrl, u0, u1, r0, r1, z0', z1'⟩ := hrb9.two
      have HT9 := hide hT9
      have HF9 := hide (hF9.base9 (B := Wb.heap.size) (by omega))
      have HR9 := hide (hR9.mono (M := N + 80) (by omega))
      have HK9 := hide hK9
      clear hT9 hF9 hR9 hK9 hk9 hrb9 hL6 hg6 hn6 hfb hfB hk6 hrb6 hR6 hK6 mz'
      go_upto_region 11 with fail
      rw [← hw9]
      clear hw9
      go_wp2_with fail
      refine bodyPost_ret (v := .agg #[.slice (some ⟨g, 0, none⟩) n cn, .slice (some ⟨g6, 0, none⟩) (m + 1) cap6]) (by simp only [results, Try.results35]; go_simp) rfl ?_
      exact XAGot.done (n := n) (m := (m + 1)) (HT9.out) (HF9.out) (HR9.out) (HK9.out) HXB.out HSB.out (by (repeat refine Keep.set ?_ (fun _ hh => hh rfl) _); exact Keep.refl _ _) (by omega) (by omega) (by omega) (by omega) (by omega)
    · have h1b : (z == 1) = false := by simp [h1]
      by_cases h2 : z = 2
      · subst h2
        go_upto_region 8 with fail
        refine wp_region_relKT (Rl := Keep (fun k => k ≠ br)) (n := 10) (ts := [10]) (sp := [RK.q [] (fun _ => .pointer (some ⟨W1.heap.size, 0, none⟩)), RK.q [0] (fun _ => .slice (some ⟨g, 0, none⟩) n cn), RK.q [] (fun _ => .pointer (some ⟨W1.heap.size, 0, none⟩)), RK.q [2] (fun _ => .slice (some ⟨g, 0, none⟩) n cn), RK.q [3] (fun _ => .pointer (some ⟨g, 0, none⟩)), RK.q [4] (fun _ => .slice (some ⟨b, 0, none⟩) 6 cp), RK.q [] (fun _ => .pointer (some ⟨br, 0, none⟩)), RK.p [6] (fun _ v => ∃ z : Int, 0 ≤ z ∧ z ≤ 5 ∧ v = .int .i64 z), RK.p [5, 7] (fun _ v => ∃ k : Nat, k < 6 ∧ v = .slice (some ⟨b, 0, none⟩) k cp), RK.q [1] (fun _ => .pointer (some ⟨g, 0, none⟩))])
          (RdCn w0 br (N + 61) 10 W2) (by kernel_rfl) (relOKK (D := [[], [0], [], [2], [3], [4], [], [6], [5, 7], [1]]) rfl (by kernel_rfl) rfl) (by kernel_rfl) (fun m w h => by exact h.le) (fun w => by exact Keep.refl _ _) (RdCn.start 10 HR2.out) ?steps ?ends
        case steps =>
          refine ⟨?_, ?_, ?_, ?_, ?_, ?_, ?_, ?_, ?_, ?_, trivial⟩
          · intro m V τ W hC hf ht h0
            have s3 : τ 3 = .pointer (some ⟨W1.heap.size, 0, none⟩) := h0 3 (by kernel_rfl)
            refine Does.val (w' := W) (v := .pointer (some ⟨W1.heap.size, 0, none⟩)) ?_ ⟨(by exact Keep.refl _ _), (by exact hC.le), rfl⟩
            clear h0 ht hf
            go_simp
          · intro m V τ W hC hf ht h0
            have f0 : V 0 = .pointer (some ⟨W1.heap.size, 0, none⟩) := hf 0 (show 0 ∈ [0] by decide)
            have s35 := (ht 0 (show 0 ∈ [0] by decide) 35 rfl).trans f0
            have c1 := (hC.kp.cell (p := ⟨W1.heap.size, 0, none⟩) hml hmbr).trans m0
            refine Does.val (w' := W) (v := .slice (some ⟨g, 0, none⟩) n cn) ?_ ⟨(by exact Keep.refl _ _), (by exact hC.le), rfl⟩
            clear h0 ht hf
            go_simp
          · intro m V τ W hC hf ht h0
            have s3 : τ 3 = .pointer (some ⟨W1.heap.size, 0, none⟩) := h0 3 (by kernel_rfl)
            refine Does.val (w' := W) (v := .pointer (some ⟨W1.heap.size, 0, none⟩)) ?_ ⟨(by exact Keep.refl _ _), (by exact hC.le), rfl⟩
            clear h0 ht hf
            go_simp
          · intro m V τ W hC hf ht h0
            have f2 : V 2 = .pointer (some ⟨W1.heap.size, 0, none⟩) := hf 2 (show 2 ∈ [2] by decide)
            have s37 := (ht 2 (show 2 ∈ [2] by decide) 37 rfl).trans f2
            have c1 := (hC.kp.cell (p := ⟨W1.heap.size, 0, none⟩) hml hmbr).trans m0
            refine Does.val (w' := W) (v := .slice (some ⟨g, 0, none⟩) n cn) ?_ ⟨(by exact Keep.refl _ _), (by exact hC.le), rfl⟩
            clear h0 ht hf
            go_simp
          · intro m V τ W hC hf ht h0
            have f3 : V 3 = .slice (some ⟨g, 0, none⟩) n cn := hf 3 (show 3 ∈ [3] by decide)
            have s38 := (ht 3 (show 3 ∈ [3] by decide) 38 rfl).trans f3
            refine Does.val (w' := W) (v := .pointer (some ⟨g, 0, none⟩)) ?_ ⟨(by exact Keep.refl _ _), (by exact hC.le), rfl⟩
            clear h0 ht hf
            go_simp
          · intro m V τ W hC hf ht h0
            have f4 : V 4 = .pointer (some ⟨g, 0, none⟩) := hf 4 (show 4 ∈ [4] by decide)
            have s39 := (ht 4 (show 4 ∈ [4] by decide) 39 rfl).trans f4
            have c3 := (hC.kp.cell (p := ⟨g, 0, none⟩) hgl hgbr).trans hgc
            refine Does.val (w' := W) (v := .slice (some ⟨b, 0, none⟩) 6 cp) ?_ ⟨(by exact Keep.refl _ _), (by exact hC.le), rfl⟩
            clear h0 ht hf
            go_simp
          · intro m V τ W hC hf ht h0
            have s0 : τ 0 = .pointer (some ⟨br, 0, none⟩) := h0 0 (by kernel_rfl)
            refine Does.val (w' := W) (v := .pointer (some ⟨br, 0, none⟩)) ?_ ⟨(by exact Keep.refl _ _), (by exact hC.le), rfl⟩
            clear h0 ht hf
            go_simp
          · intro m V τ W hC hf ht h0
            have f6 : V 6 = .pointer (some ⟨br, 0, none⟩) := hf 6 (show 6 ∈ [6] by decide)
            have s41 := (ht 6 (show 6 ∈ [6] by decide) 41 rfl).trans f6
            obtain ⟨M, hR, hM, hnext⟩ := hC.step (by omega)
            refine Does.call (w' := W) (f := 63) (args := #[.pointer (some ⟨br, 0, none⟩), .int .i64 6]) (by go_simp; all_goals (first | exact rfl | (apply And.intro <;> exact rfl))) ?_
            refine (pick_any w0 br M 6 W (by omega) (by omega) hM hR).mono ?_
            rintro e wa ⟨z, z0, z1, rfl, hR1, hK1⟩
            exact ⟨_, rfl, hK1, hnext _ hR1 hK1, z, by omega, by omega, rfl⟩
          · intro m V τ W hC hf ht h0
            have f5 : V 5 = .slice (some ⟨b, 0, none⟩) 6 cp := hf 5 (show 5 ∈ [5, 7] by decide)
            have s40 := (ht 5 (show 5 ∈ [5, 7] by decide) 40 rfl).trans f5
            have f7 : ∃ z : Int, 0 ≤ z ∧ z ≤ 5 ∧ V 7 = .int .i64 z := hf 7 (show 7 ∈ [5, 7] by decide)
            have s42 : τ 42 = V 7 := ht 7 (show 7 ∈ [5, 7] by decide) 42 rfl
            obtain ⟨z, z0, z1, hz⟩ := f7
            rw [hz] at s42
            obtain ⟨k, rfl⟩ : ∃ k : Nat, z = k := ⟨z.toNat, by omega⟩
            have hk6 : (k : Int) ≤ cp := by omega
            have hk7 : k ≤ cp := by omega
            have hk8 : k ≤ 6 := by omega
            refine Does.val (w' := W) (v := .slice (some ⟨b, 0, none⟩) k cp) ?_ ⟨Keep.refl _ _, hC.le, k, by omega, rfl⟩
            clear h0 ht hf
            go_simp
          · intro m V τ W hC hf ht h0
            have f1 : V 1 = .slice (some ⟨g, 0, none⟩) n cn := hf 1 (show 1 ∈ [1] by decide)
            have s36 := (ht 1 (show 1 ∈ [1] by decide) 36 rfl).trans f1
            refine Does.val (w' := W) (v := .pointer (some ⟨g, 0, none⟩)) ?_ ⟨(by exact Keep.refl _ _), (by exact hC.le), rfl⟩
            clear h0 ht hf
            go_simp
        case ends =>
          intro V W hC hf
          have e0 : V 0 = .pointer (some ⟨W1.heap.size, 0, none⟩) := hf 0 (by omega)
          have e1 : V 1 = .slice (some ⟨g, 0, none⟩) n cn := hf 1 (by omega)
          have e2 : V 2 = .pointer (some ⟨W1.heap.size, 0, none⟩) := hf 2 (by omega)
          have e3 : V 3 = .slice (some ⟨g, 0, none⟩) n cn := hf 3 (by omega)
          have e4 : V 4 = .pointer (some ⟨g, 0, none⟩) := hf 4 (by omega)
          have e5 : V 5 = .slice (some ⟨b, 0, none⟩) 6 cp := hf 5 (by omega)
          have e6 : V 6 = .pointer (some ⟨br, 0, none⟩) := hf 6 (by omega)
          have e7 : ∃ z : Int, 0 ≤ z ∧ z ≤ 5 ∧ V 7 = .int .i64 z := hf 7 (by omega)
          have e8 : ∃ k : Nat, k < 6 ∧ V 8 = .slice (some ⟨b, 0, none⟩) k cp := hf 8 (by omega)
          have e9 : V 9 = .pointer (some ⟨g, 0, none⟩) := hf 9 (by omega)
          clear hf
          obtain ⟨hRf, hKf⟩ := hC.fin
          obtain ⟨z7, -, -, e7⟩ := e7
          obtain ⟨k, k6, e8⟩ := e8
          simp only [List.take_succ_cons, List.take_zero, putAll, Act.put, List.setIfInBounds_toArray, List.set_cons_succ, List.set_cons_zero, Nat.reduceAdd, e0, e1, e2, e3, e4, e5, e6, e7, e8, e9]
          try simp only [nths, nth1]
          clear e0 e1 e2 e3 e4 e5 e6 e7 e8 e9
          have hrw := hKf.row hbbr HRW.out
          have hgc8 := (hKf.cell (p := ⟨g, 0, none⟩) hgl hgbr).trans hgc
          have hgz8 := (hKf.frz (p := ⟨g, 0, none⟩) hgl hgbr).trans hgz
          have HJ8 := hide (HJ2.out.keep hRf hKf)
          obtain ⟨w9, hw9⟩ : ∃ w9, w9 = W.setCell ⟨g, 0, none⟩ (.slice (some ⟨b, 0, none⟩) k cp) := ⟨_, rfl⟩
          have hk9 : Keep (fun k => k ≠ g) W w9 := by rw [hw9]; exact (Keep.refl _ _).set (p := ⟨g, 0, none⟩) (fun _ hh => hh rfl) _
          obtain ⟨m0, m1, -, hml9, hrb9, hR9, hK9⟩ := HJ8.out.under hk9 hgm (fun k hk => by omega)
          have hT9 : LTab (fun k => Wb.heap.size ≤ k) (fun l => l ≤ 6) w9 (.slice (some ⟨g, 0, none⟩) n cn) n (-2) 5 := by rw [hw9]; exact (HJ8.out.t.mono (fun k hk => hk.1) (fun l hl => by omega) (by omega) (Int.le_refl _)).setr (by omega) rfl ⟨b, k, cp, m', f, rfl, by omega, by omega, by omega, by omega, hrw, fun t ht => by obtain ⟨x, q1, q2, q3⟩ := HFW.out t (by omega); exact ⟨x, q1, by omega, q3⟩⟩
          have hF9 := HJ8.out.f.keep hk9 (fun k hk => by omega)
          obtain ⟨hrl, u0, u1, r0, r1, z0', z1'⟩ := hrb9.two
          have HT9 := hide hT9
          have HF9 := hide (hF9.base9 (B := Wb.heap.size) (by omega))
          have HR9 := hide (hR9.mono (M := N + 80) (by omega))
          have HK9 := hide hK9
          clear hrw hRf hKf hT9 hF9 hR9 hK9 hk9 hC hrb9
          go_upto_region 11 with fail
          rw [← hw9]
          clear hw9
          go_wp2_with fail
          refine bodyPost_ret (v := .agg #[.slice (some ⟨g, 0, none⟩) n cn, .slice Af m cf]) (by simp only [results, Try.results35]; go_simp) rfl ?_
          exact XAGot.done (n := n) (m := m) (HT9.out) (HF9.out) (HR9.out) (HK9.out) HXB.out HSB.out (by (repeat refine Keep.set ?_ (fun _ hh => hh rfl) _); exact Keep.refl _ _) (by omega) (by omega) (by omega) (by omega) (by omega)
      · have h2b : (z == 2) = false := by simp [h2]
        by_cases h3 : z = 3
        · subst h3
          obtain ⟨rs, hrl, hSr, hrb⟩ := HJ2.out.t.rows (fun l hl => by omega) (by omega) (by omega) (by omega)
          have hrp : ∀ i, i < rs.length → 0 < (rw0 rs i).length := fun i hi => by have := (hrb i (by omega)).1; omega
          have HSR := hide hSr
          have HXD := hide ((Ext.refl W2).drew)
          clear hSr
          go_upto_region 10 with fail
          refine wp_region_any (by kernel_rfl) ?_
          change wpAny _ _ _ _ _ _ _ (World.drew _)
          refine wpAny_take (i := 0) (v := ?_) rfl (by kernel_rfl) (by kernel_rfl) (by kernel_rfl) (by first | exact fun _ _ _ h => h | (rintro _ _ _ ⟨h, _⟩; cases h)) (Or.inl ⟨by rfl, ?hy0⟩) ?_
          case hy0 => intro w; go_simp; with_reducible rfl
          simp only [Act.put, List.getElem_toArray, List.getElem_cons_zero, List.setIfInBounds_toArray, List.set_cons_succ, List.set_cons_zero]
          refine wpAny_take (i := 2) (v := ?_) rfl (by kernel_rfl) (by kernel_rfl) (by kernel_rfl) (by first | exact fun _ _ _ h => h | (rintro _ _ _ ⟨h, _⟩; cases h)) (Or.inl ⟨by rfl, ?hy2⟩) ?_
          case hy2 => intro w; go_simp; with_reducible rfl
          simp only [Act.put, List.getElem_toArray, List.getElem_cons_zero, List.getElem_cons_succ, List.setIfInBounds_toArray, List.set_cons_succ, List.set_cons_zero]
          refine wpAny_take (i := 5) (v := ?_) rfl (by kernel_rfl) (by kernel_rfl) (by kernel_rfl) (by first | exact fun _ _ _ h => h | (rintro _ _ _ ⟨h, _⟩; cases h)) (Or.inl ⟨by rfl, ?hy5⟩) ?_
          case hy5 => intro w; go_simp; with_reducible rfl
          simp only [Act.put, List.getElem_toArray, List.getElem_cons_zero, List.getElem_cons_succ, List.setIfInBounds_toArray, List.set_cons_succ, List.set_cons_zero]
          refine wpAny_take (i := 8) (v := ?_) rfl (by kernel_rfl) (by kernel_rfl) (by kernel_rfl) (by first | exact fun _ _ _ h => h | (rintro _ _ _ ⟨h, _⟩; cases h)) (Or.inl ⟨by rfl, ?hy8⟩) ?_
          case hy8 => intro w; go_simp; with_reducible rfl
          simp only [Act.put, List.getElem_toArray, List.getElem_cons_zero, List.getElem_cons_succ, List.setIfInBounds_toArray, List.set_cons_succ, List.set_cons_zero]
          refine wpAny_ofK (C := fun w => w.cell? ⟨W1.heap.size, 0, none⟩ = some (.slice (some ⟨g, 0, none⟩) n cn)) (n := 14) _ _ _ _ ?_
          refine wpAnyK_take 1 (.slice (some ⟨g, 0, none⟩) n cn) rfl (by kernel_rfl) (fun _ _ _ h => h) m0 (And.intro (by rfl) ?hy1) ?_
          case hy1 => intro w' hw'; have hk1 : w'.cell? ⟨W1.heap.size, 0, none⟩ = some (.slice (some ⟨g, 0, none⟩) n cn) := hw'; go_simp; all_goals exact rfl
          simp only [Act.put, List.setIfInBounds_toArray, List.set_cons_succ, List.set_cons_zero]
          refine wpAnyK_take 3 (.slice (some ⟨g, 0, none⟩) n cn) rfl (by kernel_rfl) (fun _ _ _ h => h) m0 (And.intro (by rfl) ?hy3) ?_
          case hy3 => intro w' hw'; have hk1 : w'.cell? ⟨W1.heap.size, 0, none⟩ = some (.slice (some ⟨g, 0, none⟩) n cn) := hw'; go_simp; all_goals exact rfl
          simp only [Act.put, List.setIfInBounds_toArray, List.set_cons_succ, List.set_cons_zero]
          refine wpAnyK_take 6 (.slice (some ⟨g, 0, none⟩) n cn) rfl (by kernel_rfl) (fun _ _ _ h => h) m0 (And.intro (by rfl) ?hy6) ?_
          case hy6 => intro w' hw'; have hk1 : w'.cell? ⟨W1.heap.size, 0, none⟩ = some (.slice (some ⟨g, 0, none⟩) n cn) := hw'; go_simp; all_goals exact rfl
          simp only [Act.put, List.setIfInBounds_toArray, List.set_cons_succ, List.set_cons_zero]
          refine wpAnyK_take 9 (.slice (some ⟨g, 0, none⟩) n cn) rfl (by kernel_rfl) (fun _ _ _ h => h) m0 (And.intro (by rfl) ?hy9) ?_
          case hy9 => intro w' hw'; have hk1 : w'.cell? ⟨W1.heap.size, 0, none⟩ = some (.slice (some ⟨g, 0, none⟩) n cn) := hw'; go_simp; all_goals exact rfl
          simp only [Act.put, List.setIfInBounds_toArray, List.set_cons_succ, List.set_cons_zero]
          refine wpAnyK_one (i := 4) (by kernel_rfl) rfl (by omega) (fun K hK => ?_)
          go_simp
          refine (copyRows_any _ rs _ (HSR.out.ext HXD.out) (by omega) hrp).mono ?_
          rintro e W4 ⟨v4, rfl, hA, hx⟩
          have hA := hA.ltabP (P := fun l => l = 6) (lo := -1) (hi := 5) (fun i hi => hrb i (by omega))
          rw [hrl] at hA
          obtain ⟨A4, c4, hv4, -⟩ := hA.form
          subst hv4
          have HX4 := hide (HXD.out.trans hx)
          have HL4 := hide hA
          have hx4 := hx
          have hs4 := hx.size
          refine hK _ _ ((HX4.out.cells _ _ hml).trans m0) ?_
          clear hK K hA hx
          refine wpAnyK_one (i := 7) (by kernel_rfl) rfl (by omega) (fun K hK => ?_)
          go_simp
          refine (copyRows_any _ rs _ (HSR.out.ext HX4.out) (by omega) hrp).mono ?_
          rintro e W7 ⟨v7, rfl, hA, hx⟩
          have hA := hA.ltabP (P := fun l => l = 6) (lo := -1) (hi := 5) (fun i hi => hrb i (by omega))
          rw [hrl] at hA
          obtain ⟨A7, c7, hv7, -⟩ := hA.form
          subst hv7
          have HX7 := hide (HX4.out.trans hx)
          have HL7 := hide hA
          have hx7 := hx
          have hs7 := hx.size
          refine hK _ _ ((HX7.out.cells _ _ hml).trans m0) ?_
          clear hK K hA hx
          refine wpAnyK_one (i := 10) (by kernel_rfl) rfl (by omega) (fun K hK => ?_)
          go_simp
          refine (copyRows_any _ rs _ (HSR.out.ext HX7.out) (by omega) hrp).mono ?_
          rintro e W10 ⟨v10, rfl, hA, hx⟩
          have hA := hA.ltabP (P := fun l => l = 6) (lo := -1) (hi := 5) (fun i hi => hrb i (by omega))
          rw [hrl] at hA
          obtain ⟨A10, c10, hv10, -⟩ := hA.form
          subst hv10
          have HX10 := hide (HX7.out.trans hx)
          have HL10 := hide hA
          have hx10 := hx
          have hs10 := hx.size
          refine hK _ _ ((HX10.out.cells _ _ hml).trans m0) ?_
          clear hK K hA hx
          have hs24 : W2.heap.size ≤ W4.heap.size := HX4.out.size
          refine wpAnyK_one (i := 11) (by kernel_rfl) rfl (by omega) (fun K hK => ?_)
          refine step_appLT _ rfl _ _ rfl (fun k => W4.heap.size ≤ k) (fun l => l = 6) (.slice A7 n c7) (.slice A10 n c10) n n (-1) 5 rfl rfl (HL7.out.ext hx10) (HL10.out.mono (fun k hk => by omega) (fun _ h => h) (Int.le_refl _) (Int.le_refl _)) (by omega) (by omega) (fun k hk => by omega) ?_
          intro v11 W11 hL11 hg11
          obtain ⟨A11, c11, hv11, -⟩ := hL11.form
          subst hv11
          have hk11 : Keep (fun k => k < W4.heap.size) W10 W11 := grown_keep9 hg11 (fun k hk e => by obtain ⟨cells, -, q2, -⟩ := HL7.out; have := q2 k e; omega)
          have hk4 : Keep (fun k => k < W4.heap.size) W4 W11 := ((hx7.trans hx10).keep _).trans hk11
          have hk2 : Keep (fun k => k < W2.heap.size) W2 W11 := (HX4.out.keep _).trans9 hk4 (fun k hk _ => by omega)
          have HL4' := hide (HL4.out.lt.keep hk4 (fun k hk => hk.2))
          have hs11 := hk4.size
          have hk2s := hk2.size
          refine hK _ _ ((hk2.cell (p := ⟨W1.heap.size, 0, none⟩) hml hml).trans m0) ?_
          clear hK K hg11 hk11 hk4
          simp only [Act.put, List.setIfInBounds_toArray]
          refine wpAnyK_one (i := 12) (by kernel_rfl) rfl (by omega) (fun K hK => ?_)
          refine step_appLT _ rfl _ _ rfl (fun k => W2.heap.size ≤ k) (fun l => l = 6) (.slice A4 n c4) (.slice A11 (n + n) c11) n (n + n) (-1) 5 rfl rfl (HL4'.out.mono (fun k hk => hk.1) (fun _ h => h) (Int.le_refl _) (Int.le_refl _)) (hL11.mono (fun k hk => by omega) (fun _ h => h) (Int.le_refl _) (Int.le_refl _)) (by omega) (by omega) (fun k hk => by omega) ?_
          intro v12 W12 hL12 hg12
          obtain ⟨A12, c12, hv12, -⟩ := hL12.form
          subst hv12
          have hk12 : Keep (fun k => k < W2.heap.size) W11 W12 := grown_keep9 hg12 (fun k hk e => by obtain ⟨cells, -, q2, -⟩ := HL4.out; have hq : W2.heap.size ≤ k := q2 k e; omega)
          have hk2 := hk2.trans hk12
          have hs12 := hk2.size
          refine hK _ _ ((hk2.cell (p := ⟨W1.heap.size, 0, none⟩) hml hml).trans m0) ?_
          clear hK K hg12 hk12 hL11
          simp only [Act.put]
          refine wpAnyK_one (i := 13) (by kernel_rfl) rfl (by omega) (fun K hK => ?_)
          refine step_appLT _ rfl _ _ rfl (fun k => Wb.heap.size ≤ k ∧ k ≠ W1.heap.size) (fun l => l = 6) (.slice (some ⟨g, 0, none⟩) n cn) (.slice A12 (n + (n + n)) c12) n (n + (n + n)) (-1) 5 rfl rfl ((HJ2.out.t.keep hk2 (fun k hk => by omega)).mono (fun k hk => ⟨hk.1, by omega⟩) (fun _ h => h) (Int.le_refl _) (Int.le_refl _)) (hL12.mono (fun k hk => ⟨by omega, by omega⟩) (fun _ h => h) (Int.le_refl _) (Int.le_refl _)) (by omega) (by omega) (fun k hk => ⟨by omega, by omega⟩) ?_
          intro v13 W13 hL13 hg13
          obtain ⟨A13, c13, hv13, -⟩ := hL13.form
          subst hv13
          have hk13 : Keep (fun k => k < W2.heap.size ∧ k ≠ g) W2 W13 := (hk2.mono (fun k _ hk => hk.1)).trans (grown_keep9 hg13 (fun k hk e => by have e : some g = some k := e; injection e with e; exact hk.2 e.symm))
          obtain ⟨m0', m1', mz', hml6, hrb6, hR6, hK6⟩ := HJ2.out.under hk13 ⟨hml, hgm⟩ (fun k hk => ⟨by omega, by omega⟩)
          refine hK _ _ m0' ?_
          clear hK K hg13 hL12
          simp only [Act.put]
          refine wpAnyK_fin 14 [15] (by omega) (by kernel_rfl) ?_
          simp only [nths, nth1]
          have y0' := mz' 0
          obtain ⟨w9, hw9⟩ : ∃ w9, w9 = W13.setCell ⟨W1.heap.size, 0, none⟩ (.slice A13 (n + (n + (n + n))) c13) := ⟨_, rfl⟩
          have hk9 : Keep (fun k => k ≠ W1.heap.size) W13 w9 := by rw [hw9]; exact (Keep.refl _ _).set (p := ⟨W1.heap.size, 0, none⟩) (fun _ hh => hh rfl) _
          have n1 : w9.cell? ⟨W1.heap.size, 1, none⟩ = some (.slice Af m cf) := by rw [hw9]; exact (World.cell?_setCell_other _ _ _ _ (by simp)).trans m1'
          have n0 : w9.cell? ⟨W1.heap.size, 0, none⟩ = some (.slice A13 (n + (n + (n + n))) c13) := by rw [hw9]; exact World.cell?_setCell_same' _ _ _ (by rw [m0']; rfl)
          have hml9 := Nat.lt_of_lt_of_le hml6 hk9.size
          have hrb9 := hrb6.keep hk9 (by omega)
          have hT9 : LTab (fun k => Wb.heap.size ≤ k) (fun l => l ≤ 6) w9 (.slice A13 (n + (n + (n + n))) c13) (n + (n + (n + n))) (-2) 5 := (hL13.keep hk9 (fun k hk => hk.2)).mono (fun k hk => hk.1) (fun l hl => by omega) (by omega) (Int.le_refl _)
          have hF9 := (HJ2.out.f.keepO hk13 (fun g' hg' => ⟨by have := HJ2.out.fb g' hg'; omega, by obtain ⟨xs, q1, -⟩ := HJ2.out.f.owns; have := (World.ownsRow.lt q1 g' hg').1; omega⟩)).keepO hk9 (fun g' hg' => by have := HJ2.out.fb g' hg'; omega)
          have hR9 := hR6.keep hk9 (by omega) (fun k hk => by omega)
          have hK9 := hK6.trans9 hk9 (fun k hk _ => by omega)
          obtain ⟨hrl, u0, u1, r0, r1, z0', z1'⟩ := hrb9.two
          have HT9 := hide hT9
          have HF9 := hide (hF9.base9 (B := Wb.heap.size) (by omega))
          have HR9 := hide (hR9.mono (M := N + 80) (by omega))
          have HK9 := hide hK9
          clear hT9 hF9 hR9 hK9 hk9 hrb9 hk13 hk2 hrb6 hR6 hK6 mz' hL13
          go_upto_region 11 with fail
          rw [← hw9]
          clear hw9
          go_wp2_with fail
          refine bodyPost_ret (v := .agg #[.slice A13 (n + (n + (n + n))) c13, .slice Af m cf]) (by simp only [results, Try.results35]; go_simp) rfl ?_
          exact XAGot.done (n := (n + (n + (n + n)))) (m := m) (HT9.out) (HF9.out) (HR9.out) (HK9.out) HXB.out HSB.out (by (repeat refine Keep.set ?_ (fun _ hh => hh rfl) _); exact Keep.refl _ _) (by omega) (by omega) (by omega) (by omega) (by omega)
        · have h3b : (z == 3) = false := by simp [h3]
          obtain ⟨hrl, u0, u1, r0, r1, z0', z1'⟩ := HJ2.out.r.two
          go_wp2_with fail
          refine bodyPost_ret (v := .agg #[.slice (some ⟨g, 0, none⟩) n cn, .slice Af m cf]) (by simp only [results, Try.results35]; go_simp) rfl ?_
          exact XAGot.done (n := n) (m := m) (HJ2.out.t.mono (fun k hk => hk.1) (fun l hl => by omega) (by omega) (Int.le_refl _)) (HJ2.out.f.base9 (by omega)) (HJ2.out.rd.mono (by omega)) (HJ2.out.kp) HXB.out HSB.out (by (repeat refine Keep.set ?_ (fun _ hh => hh rfl) _); exact Keep.refl _ _) (by omega) (by omega) (by omega) (by omega) (by omega)
end Go.Proofs.Ytdiedghaoleblaa
/- Draws of automata: words, the arguments of CountWords and AutomatonAccepts. -/
namespace Go.Proofs.Ytdiedghaoleblaa
open Go.RowKit

/-- A word came: numbers of -1 to 6. -/
def WGot (w0 : World) (br N : Nat) (W : World) (e : Ending) (W' : World) : Prop :=
  ∃ v xs, e = .returned v ∧ xs.length ≤ 11 ∧ IV (fun k => W.heap.size ≤ k) W' v xs ∧ RdSt w0 br N W' ∧ Keep (fun k => k ≠ br) W W'
/-- append of numbers to numbers. -/
theorem run_appLN (w : World) (ty : TypeId) (base : Nat) (v v2 : Value) (n m : Nat) (lo hi : Int) (h : LN base w v n lo hi) (h2 : LR base 3 1 w v2 m lo hi) (hm : 0 < m) (hl : n + m ≤ 1000) (hb : base ≤ w.heap.size) :
    ∃ v' w', (Builtin.append_ #[24, 24] ty #[v, v2]).run Try.prog w = .ok v' w' ∧ LR base 3 1 w' v' (n + m) lo hi ∧ w.grownBy w' v.ownBlock ∧ (∀ g, v'.ownBlock = some g → v.ownBlock = some g ∨ w.heap.size ≤ g) := by
  obtain ⟨i, hi', hz, hsz, hby⟩ := Try.infoIp
  obtain ⟨xs, h1, hx⟩ := h.owns
  obtain ⟨us, k1, kx⟩ := h2.owns
  have hul : us.length = m := by simpa using k1.1
  rcases k1.2 with ⟨-, rfl⟩ | ⟨b, c, cur, rfl, -, hh, hnc, hcm, hcs, htk⟩
  · omega
  · have hcell : ∀ (j : Nat) (u' : Value), us[j]? = some u' → w.cell? ⟨b, j, none⟩ = some u' := by
      intro j u' hj
      have hjl : j < m * 1 := by have := (List.getElem?_eq_some_iff.1 hj).1; omega
      have e1 : (cur.toList.take (m * 1))[j]? = us[j]? := by rw [htk]
      rw [List.getElem?_take, if_pos hjl, hj, Array.getElem?_toList] at e1
      simp [World.cell?, hh, e1]
    obtain ⟨v', w', e1, e2, e3, e4⟩ := run_append_kindN (P := Try.prog) w base 24 ty 3 i _ 8 Try.underlying24 hi' hz hsz hby rfl v n xs h1 b c us hcell (fun u hu => by
      obtain ⟨x, rfl, -⟩ := kx u hu
      rfl) (by unfold maxLen; omega) (by omega) hb
    rw [hul] at e1 e2
    refine ⟨v', w', e1, LR.of_owns e2 (by omega) (fun u hu => ?_), e3, e4⟩
    rcases List.mem_append.1 hu with hu | hu
    · exact hx u hu
    · exact kx u hu
theorem wpList_appLN2 (w : World) {ops : Array Oper} {rest : List Oper} {o : Oper} {a : Act} {Q : Exit → Act → World → Prop} (hgd : o.guard = none) (s x : Operand)
    (ho : o.op = .call { callee := .builtin .append, args := #[s, x], argTypes := #[24, 24] })
    (base : Nat) (v v2 : Value) (n m : Nat) (lo hi : Int) (hs : a.eval s = v) (hx : a.eval x = v2) (h1 : LN base w v n lo hi) (h2 : LR base 3 1 w v2 m lo hi) (hm : 0 < m) (hl : n + m ≤ 1000) (hb : base ≤ w.heap.size)
    (h : ∀ v' w', LR base 3 1 w' v' (n + m) lo hi → w.grownBy w' v.ownBlock → wpList Try.prog ops Q rest (a.put o.dst v') w') : wpList Try.prog ops Q (o :: rest) a w := by
  obtain ⟨v', w', hrun, e1, e2, -⟩ := run_appLN w o.type base v v2 n m lo hi h1 h2 hm hl hb
  refine wpList_plain hgd fun K hK => ?_
  unfold Oper.wp
  simp [execOp, ho, resolve, invoke, builtin, hs, hx, hrun, Result.andThen]
  exact hK _ _ (h v' w' e1 e2)
theorem LR.wgot {w0 : World} {br N n : Nat} {W W' : World} {v : Value} {lo hi : Int} {B : Nat} (h : LR B 3 1 W' v n lo hi) (hB : W.heap.size ≤ B) (hn : n ≤ 11) (h1 : -100 ≤ lo) (h2 : hi ≤ 100) (hR : RdSt w0 br N W') (hK : Keep (fun k => k ≠ br) W W') : WGot w0 br N W (.returned v) W' := by
  obtain ⟨xs, q1, q2, -⟩ := LN.iv (.inr h) (by omega) (by omega) (by omega)
  exact ⟨v, xs, rfl, by omega, q2.mono (fun k hk => by omega), hR, hK⟩
/-- An automaton stands in block mb (drawn; it may be invalid). -/
structure XJ (w0 : World) (br N mb n m : Nat) (W1 W : World) (nx fn : Value) : Prop where
  m0 : W.cell? ⟨mb, 0, none⟩ = some nx
  m1 : W.cell? ⟨mb, 1, none⟩ = some fn
  sz : mb < W.heap.size
  ge : W1.heap.size ≤ mb
  b0 : br < W1.heap.size
  t : LTab (fun k => W1.heap.size ≤ k) (fun l => l ≤ 6) W nx n (-2) 5
  f : LN W1.heap.size W fn m (-1) 8
  n1 : n ≤ 16
  m5 : m ≤ 5
  kp : Keep (fun k => k ≠ br) W1 W
  rd : RdSt w0 br N W
theorem XJ.keep {w0 : World} {br N M mb n m : Nat} {W1 W W' : World} {nx fn : Value} (h : XJ w0 br N mb n m W1 W nx fn) (hR : RdSt w0 br M W') (hK : Keep (fun k => k ≠ br) W W') : XJ w0 br M mb n m W1 W' nx fn := by
  have h1 := h.ge
  have h2 := h.b0
  have hb : mb ≠ br := by omega
  exact ⟨(hK.cell (p := ⟨mb, 0, none⟩) h.sz hb).trans h.m0, (hK.cell (p := ⟨mb, 1, none⟩) h.sz hb).trans h.m1, Nat.lt_of_lt_of_le h.sz hK.size, h1, h2, h.t.keep hK (fun k hk => by omega), h.f.keep hK (fun k hk => by omega), h.n1, h.m5, h.kp.trans hK, hR⟩
theorem XJ.start {w0 : World} {br N n m : Nat} {W1 W : World} {nx fn : Value} (ty : TypeId) (ht : LTab (fun k => W1.heap.size ≤ k) (fun l => l ≤ 6) W nx n (-2) 5) (hf : LN W1.heap.size W fn m (-1) 8) (hn : n ≤ 16) (hm : m ≤ 5) (hR : RdSt w0 br N W) (hK : Keep (fun k => k ≠ br) W1 W) (hb : br < W1.heap.size) :
    XJ w0 br N W.heap.size n m W1 (W.alloc (.cells #[nx, fn] ty)) nx fn := by
  have hx : Ext W (W.alloc (.cells #[nx, fn] ty)) := (Ext.refl W).alloc _
  exact ⟨World.cell?_alloc_at _ _ _ _ rfl, World.cell?_alloc_at _ _ _ _ rfl, by simp, hK.size, hb, ht.ext hx, hf.ext hx, hn, hm, hK.trans (hx.keep _), hR.grow hx⟩
theorem XJ.auto {w0 : World} {br N mb n m : Nat} {W1 W W' : World} {nx fn : Value} {S : Nat → Prop} (h : XJ w0 br N mb n m W1 W nx fn) (hK : Keep S W W') (hS : ∀ k, W1.heap.size ≤ k → S k) : ∃ a : Au, a.next.length = n ∧ a.final.length = m ∧ SRows W' nx a.next ∧ SInts W' fn a.final := by
  obtain ⟨rs, q1, q2, -⟩ := (h.t.keep hK hS).rows (fun l hl => by omega) (by have := h.n1; omega) (by omega) (by omega)
  obtain ⟨xs, p1, p2, -⟩ := (h.f.keep hK hS).iv (by have := h.m5; omega) (by omega) (by omega)
  exact ⟨⟨rs, xs⟩, q1, p1, q2, p2.ints⟩
theorem ext_of_keep9 {w W2 W3 : World} {S : Nat → Prop} (h : Keep (fun k => k < w.heap.size) w W2) (hk : Keep S W2 W3) (hS : ∀ k, k < w.heap.size → S k) : Ext w W3 := by
  have ht2 := h.then hk (fun k hk _ => hS k hk)
  exact ⟨ht2.os, ht2.tape, ht2.output, ht2.size, fun k hk => ht2.block k hk hk⟩
/-- An automaton and a number came. -/
def DcwGot (w : World) (e : Ending) (W' : World) : Prop :=
  ∃ vn vf a z, e = .returned (.tuple #[.agg #[vn, vf], .int .i64 z]) ∧ SRows W' vn (Au.next a) ∧ SInts W' vf a.final ∧ -10 ≤ z ∧ z ≤ 10 ∧ Ext w W'
end Go.Proofs.Ytdiedghaoleblaa
