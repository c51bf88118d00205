/- Draws of automata: appends of rows to loose tables, copies of rows. -/
import Derived.Test.YtachgijdopfghaaAuD
namespace Go.Proofs.Ytachgijdopfghaa
open Go.RowKit

theorem Addr.add0 (b j : Nat) : (⟨b, 0, none⟩ : Addr).add j = ⟨b, j, none⟩ := by unfold Addr.add; split <;> simp_all
/-- append of n cells to a slice of the call's own: which block is written, where the result lies. -/
theorem run_append_kindN {P : Program} (w : World) (base : Nat) (t ty e : TypeId) (i : TypeInfo) (z : Value) (bytes : Nat) (ht : P.underlying t = some (.slice e)) (hi : P.info? e = some i) (hz : i.zero = some z)
    (hsz : i.size = 1) (hby : i.bytes = bytes) (hzs : z.cells.size = 1) (v : Value) (k : Nat) (xs : List Value) (hown : w.ownsRow base e 1 v k xs) (b c : Nat) (us : List Value) (hu : ∀ j u, us[j]? = some u → w.cell? ⟨b, j, none⟩ = some u) (hu1 : ∀ u, u ∈ us → u.oneCell' = true)
    (h1 : k + us.length ≤ maxLen) (h2 : (k + us.length) * bytes ≤ 140737488355328) (hb : base ≤ w.heap.size) :
    ∃ v' w', (Builtin.append_ #[t, t] ty #[v, .slice (some ⟨b, 0, none⟩) us.length c]).run P w = .ok v' w' ∧ w'.ownsRow base e 1 v' (k + us.length) (xs ++ us) ∧ w.grownBy w' v.ownBlock ∧ (∀ g, v'.ownBlock = some g → v.ownBlock = some g ∨ w.heap.size ≤ g) := by
  have hn : ∀ (j : Nat) (u' : Value), us[j]? = some u' → w.cell? ((⟨b, 0, none⟩ : Addr).add j) = some u' := by
    intro j u' hj
    rw [Addr.add0]; exact hu j u' hj
  rcases hown.2 with ⟨rfl, rfl⟩ | ⟨g, cap, cur, rfl, hg, hh, hnc, hcm, hcs, htk⟩
  · obtain rfl : xs = [] := List.length_eq_zero_iff.1 (by simpa using hown.1)
    obtain ⟨v', w', e1, e2, e3, -⟩ := run_append_own (P := P) w w.heap.size t ty e i z 1 bytes ht hi hz hsz hby hzs (by omega) (.slice none 0 0) 0 [] (World.ownsRow_nil w _ _ _) ⟨b, 0, none⟩ us.length c us (by simp) hn hu1 h1 h2 (Nat.le_refl _)
    exact ⟨v', w', e1, ownsRow_base e2 hb, e3, fun g hg => .inr (World.ownsRow.lt e2 g hg).1⟩
  · by_cases hlt : k + us.length ≤ cap
    · obtain ⟨w', e1, e2, e3⟩ := run_append_fits (P := P) w base t ty e i 1 ht hi hsz g k cap xs hown ⟨b, 0, none⟩ us.length c us (by simp) hn hu1 hlt
      exact ⟨_, w', e1, e2, e3, fun g' hg' => .inl hg'⟩
    · have hcell : ∀ (j : Nat) (u' : Value), xs[j]? = some u' → w.cell? ((⟨g, 0, none⟩ : Addr).add j) = some u' := by
        intro j u' hj
        have hjl : j < k * 1 := by rw [← hown.1]; exact (List.getElem?_eq_some_iff.1 hj).1
        have e1 : (cur.toList.take (k * 1))[j]? = xs[j]? := by rw [htk]
        rw [List.getElem?_take, if_pos hjl, hj, Array.getElem?_toList] at e1
        rw [Addr.add0]
        simp [World.cell?, hh, e1]
      obtain ⟨v', w', e1, e2, e3⟩ := run_append_arg_grows (P := P) w t ty e i z 1 bytes ht hi hz hsz hby hzs (by omega) ⟨g, 0, none⟩ k cap xs hown.1 hcell ⟨b, 0, none⟩ us.length c us (by simp) hn (by omega) h1 h2
      exact ⟨v', w', e1, ownsRow_base e2 hb, ⟨e3.os, e3.tape, e3.output, e3.size, fun k hk _ => e3.block k hk (by simp)⟩, fun g' hg' => .inr (World.ownsRow.lt e2 g' hg').1⟩
/-- append of a table to a table. -/
theorem run_appLTab (S P : Nat → Prop) (w : World) (ty : TypeId) (v v2 : Value) (n m : Nat) (lo hi : Int) (h : LTab S P w v n lo hi) (h2 : LTab S P w v2 m lo hi) (hm : 0 < m) (hl : n + m ≤ 1000) (hS : ∀ k, w.heap.size ≤ k → S k) :
    ∃ v' w', (Builtin.append_ #[23, 23] ty #[v, v2]).run Try.prog w = .ok v' w' ∧ LTab S P w' v' (n + m) lo hi ∧ w.grownBy w' v.ownBlock := by
  obtain ⟨i, hi', hz, hsz, hby⟩ := Try.infoSp
  obtain ⟨cells, h1, hv, hr⟩ := h
  obtain ⟨us, k1, kv, kr⟩ := h2
  have hul : us.length = m := by simpa using k1.1
  have hcl : cells.length = n := by simpa using h1.1
  rcases k1.2 with ⟨-, rfl⟩ | ⟨b, c, cur, rfl, -, hh, hnc, hcm, hcs, htk⟩
  · omega
  · have hcell : ∀ (j : Nat) (u' : Value), us[j]? = some u' → w.cell? ⟨b, j, none⟩ = some u' := by
      intro j u' hj
      have hjl : j < m * 1 := by have := (List.getElem?_eq_some_iff.1 hj).1; omega
      have e1 : (cur.toList.take (m * 1))[j]? = us[j]? := by rw [htk]
      rw [List.getElem?_take, if_pos hjl, hj, Array.getElem?_toList] at e1
      simp [World.cell?, hh, e1]
    obtain ⟨v', w', e1, e2, e3, e4⟩ := run_append_kindN (P := Try.prog) w 0 23 ty 24 i (.slice none 0 0) 24 Try.underlying23 hi' hz hsz hby rfl v n cells h1 b c us hcell (fun u hu => by
      obtain ⟨j, hj, rfl⟩ := List.getElem_of_mem hu
      obtain ⟨cv, q1, q2⟩ := kr j (by omega)
      rw [List.getElem?_eq_getElem hj] at q1
      injection q1 with q1
      obtain ⟨_, _, _, _, _, q3, -⟩ := q2
      rw [q1, q3]; rfl) (by unfold maxLen; omega) (by omega) (Nat.zero_le _)
    have hkeep : ∀ {cv : Value}, LRow S P w cv lo hi → LRow S P w' cv lo hi := by
      intro cv hcv
      obtain ⟨g, l, cp, m', f, q1, q2, q3, q4, q5, q6, q7⟩ := hcv
      refine ⟨g, l, cp, m', f, q1, q2, q3, q4, q5, q6.of_block (e3.block g q6.lt ?_), q7⟩
      intro hne
      rcases h1.2 with ⟨p1, -⟩ | ⟨g', cap', cur', p1, -, p2, -⟩
      · rw [p1] at hne; cases hne
      · rw [p1] at hne
        injection hne with hne
        simp at hne
        subst hne
        obtain ⟨cc, r1, -⟩ := q6
        rw [r1] at p2
        injection p2 with p2
        injection p2 with _ p3
        cases p3
    rw [hul] at e1 e2
    refine ⟨v', w', e1, ⟨cells ++ us, e2, fun g hg => (e4 g hg).elim (hv g) (hS g), fun t ht => ?_⟩, e3⟩
    by_cases hlt : t < n
    · obtain ⟨cv, q1, q2⟩ := hr t hlt
      exact ⟨cv, by rw [List.getElem?_append_left (by omega)]; exact q1, hkeep q2⟩
    · obtain ⟨cv, q1, q2⟩ := kr (t - n) (by omega)
      exact ⟨cv, by rw [List.getElem?_append_right (by omega), hcl]; exact q1, hkeep q2⟩
/-- Rows whose bounds are known are a loose table. -/
theorem AppRS.ltabP {S : Nat → Prop} {w : World} {v : Value} {rs : List (List Int)} {P : Nat → Prop} {lo hi : Int} (h : AppRS S w v rs) (h6 : ∀ i, i < rs.length → P (rw0 rs i).length ∧ ∀ t, t < (rw0 rs i).length → lo ≤ at0 (rw0 rs i) t ∧ at0 (rw0 rs i) t ≤ hi) : LTab S P w v rs.length lo hi := by
  obtain ⟨cells, h1, h2, h3⟩ := h
  refine ⟨cells, h1, h2, fun i hi' => ?_⟩
  obtain ⟨cv, a, ⟨g, cap, m, f, rfl, q1, q2, q3, q4⟩, q5⟩ := h3 i hi'
  obtain ⟨l6, hb⟩ := h6 i hi'
  exact ⟨_, a, g, _, cap, m, f, rfl, l6, q1, q2, q5 g rfl, q3, fun t ht => ⟨_, q4 t ht, hb t ht⟩⟩
theorem Ext.grown {w w1 w2 : World} {r : Option Nat} (h : Ext w w1) (hg : w1.grownBy w2 r) (hr : ∀ g, r = some g → w.heap.size ≤ g) : Ext w w2 :=
  h.below ⟨hg.os, hg.tape, hg.output, hg.size, fun k hk => hg.block k (Nat.lt_of_lt_of_le hk h.size) (fun e => by have := hr k e.symm; omega)⟩
theorem rows_takeS {rs : List (List Int)} {j : Nat} (hj : j < rs.length) : rs.take (j + 1) = rs.take j ++ [rw0 rs j] := by
  rw [List.take_add_one, List.getElem?_eq_getElem hj, rw0, getD_lt _ _ hj]; rfl
/-- Copied rows. -/
def RowsGot (rs : List (List Int)) (w : World) (e : Ending) (w' : World) : Prop := ∃ v', e = .returned v' ∧ AppRS (fun k => w.heap.size ≤ k) w' v' rs ∧ Ext w w'
set_option maxRecDepth 100000 in
set_option maxHeartbeats 4000000 in
theorem copyRows_any (v : Value) (rs : List (List Int)) (w : World) (hS : SRows w v rs) (hn : rs.length ≤ 1000) (hp : ∀ i, i < rs.length → 0 < (rw0 rs i).length) :
    Calls Try.prog 38 #[v] w (RowsGot rs w) := by
  have HS := hide hS
  have HP := hide hp
  obtain ⟨A, cp, rfl, hl, hlen⟩ := hS.form
  clear hS hp
  go_enter Try.func38, Try.ntmps38
  go_wp2_with fail
  go_loopw [3, 4] (fun o i wr => ∃ j : Nat, i = .int .i64 j ∧ j ≤ rs.length ∧ AppRS (fun k => w.heap.size ≤ k) wr o (rs.take j) ∧ Ext w wr) (fun _ i _ => rs.length - (intOf i).toNat)
  case atStart => exact ⟨0, rfl, Nat.zero_le _, AppRS.empty _ w rfl (Nat.le_refl _), (Ext.refl w).alloc _⟩
  case round =>
    obtain ⟨j, rfl, hj, hA, hX⟩ := hrel
    have HA := hide hA
    have HX := hide hX
    have htl : (rs.take j).length = j := by simp; omega
    obtain ⟨Ao, co, hv, -⟩ := hA.form
    rw [htl] at hv
    subst hv
    have hsz := hX.size
    clear hA hX
    by_cases hjn : j < rs.length
    · have hjI : (j : Int) < (rs.length : Int) := by omega
      obtain ⟨b, off, A', c', rfl, hbl, hcc, hrow⟩ := (HS.out.ext HX.out).at_ hjn
      have HR := hide hrow
      clear hrow
      go_wp2_with fail
      refine (copyInts_any _ _ _ HR.out (HP.out j hjn)).mono ?_
      rintro e W2 ⟨A2, c2, b2, m2, f2, rfl, q1, q2, q3, q4, q5⟩
      obtain ⟨rfl, q6⟩ := RowW.own q1 q4 (HP.out j hjn)
      have HQ := hide q6
      have HX2 := hide (HX.out.trans q5)
      have HA2 := hide (HA.out.ext q5)
      have HAF := hide (HA2.out.blk9)
      clear q6 q5 q4
      go_wp2_with (at_builtin; go_must (refine wpList_appRS _ rfl _ _ rfl (fun k => w.heap.size ≤ k) (.slice Ao j co) (rs.take j) (rw0 rs j) (.slice (some ⟨b2, 0, none⟩) (rw0 rs j).length c2) _ 1 rfl rfl (HA2.out.ext ((Ext.refl _).alloc _)) (by go_simp) (HQ.out.keep9 (((Ext.refl _).alloc _).keep (fun _ => True)) (fun _ _ => trivial)) (fun g' hg' => by cases hg'; exact Nat.le_trans hsz q3) (by rw [htl]; omega) (fun k hk => by simp at hk; have := HX2.out.size; omega) ?_); intro v' W5 hA5 hg5 hb5; obtain ⟨A5, c5, hv5, -⟩ := hA5.form; rw [show (rs.take j ++ [rw0 rs j]).length = j + 1 by simp; omega] at hv5; subst hv5; have HA5 := hide hA5; have HG5 := hide hg5; clear hA5 hg5 hb5)
      go_roundw
      case rel => exact ⟨j + 1, by go_num, by omega, by rw [rows_takeS hjn]; exact HA5.out, (HX2.out.alloc _).grown HG5.out (fun g hg => (HAF.out g hg).1)⟩
      case measure => simp [intOf]; omega
    · obtain rfl : j = rs.length := by omega
      have hjI : ¬ ((rs.length : Int) < (rs.length : Int)) := by omega
      go_wp2_with fail
      go_ret
      have hfin := HA.out
      rw [List.take_length] at hfin
      exact ⟨_, rfl, hfin, HX.out⟩
end Go.Proofs.Ytachgijdopfghaa
