/- append of one row of ints to a slice of rows that the call itself has made. -/
import Derived.Test.YtjpdebgejlfeaaaDoorCpA
import Derived.Test.YtjpdebgejlfeaaaDoorAutZ
import Derived.Deep.RegionLaw
import Derived.Test.YtjpdebgejlfeaaaDoorRF
import Derived.Laws.OwnMore
import Derived.ArgAppend
namespace Go.Proofs.YtjpdebgejlfeaaaDoor
open Go.RowKit

/-- v is a slice at the head of a block of ints of its own; its first cells read as xs. -/
def RowV (B0 : Nat) (w : World) (v : Value) (xs : List Int) : Prop :=
  ∃ g cap f, v = .slice (some ⟨g, 0, none⟩) xs.length cap ∧ B0 ≤ g ∧ xs.length ≤ cap ∧ w.rowIs g 3 cap f ∧ ∀ i, i < xs.length → f i = vI (at0 xs i)
theorem RowV.ext {B0 : Nat} {w w' : World} {v : Value} {xs : List Int} (h : RowV B0 w v xs) (hx : Ext w w') : RowV B0 w' v xs := by
  obtain ⟨g, cap, f, h1, h2, h3, h4, h5⟩ := h
  exact ⟨g, cap, f, h1, h2, h3, hx.row h4, h5⟩
theorem RowV.mono {B0 B1 : Nat} {w : World} {v : Value} {xs : List Int} (h : RowV B0 w v xs) (hB : B1 ≤ B0) : RowV B1 w v xs := by
  obtain ⟨g, cap, f, h1, h2, h3, h4, h5⟩ := h
  exact ⟨g, cap, f, h1, by omega, h3, h4, h5⟩
theorem RowV.setOther {B0 : Nat} {w : World} {v : Value} {xs : List Int} (h : RowV B0 w v xs) {p : Addr} (hp : p.block < B0) (u : Value) : RowV B0 (w.setCell p u) v xs := by
  obtain ⟨g, cap, f, h1, h2, h3, h4, h5⟩ := h
  exact ⟨g, cap, f, h1, h2, h3, h4.setOther (by omega) u, h5⟩
theorem RowV.one {B0 : Nat} {w : World} {v : Value} {xs : List Int} (h : RowV B0 w v xs) : v.oneCell' = true := by
  obtain ⟨g, cap, f, rfl, -⟩ := h
  rfl
theorem RowV.ints {B0 : Nat} {w : World} {v : Value} {xs : List Int} (h : RowV B0 w v xs) (hc : xs.length * 8 ≤ 140737488355328) (hb : ∀ i, i < xs.length → I64 (at0 xs i)) : SInts w v xs := by
  obtain ⟨g, cap, f, rfl, -, h3, h4, h5⟩ := h
  refine ⟨_, _, rfl, h3, hc, hb, fun _ => ⟨g, 0, rfl, h4.lt, fun i hi => ?_⟩⟩
  rw [Nat.zero_add, h4.cell (by omega), h5 i hi]
  rfl
theorem RowV.of_new {xs : List Int} {w : World} {e : Ending} {w' : World} (h : NewInts xs w e w') : ∃ v, e = .returned v ∧ RowV w.heap.size w' v xs ∧ Ext w w' := by
  obtain ⟨b, hb, he, hr, hx⟩ := h
  exact ⟨_, he, ⟨b, _, _, rfl, hb, Nat.le_refl _, hr, fun i hi => by rw [icell, if_pos hi]; rfl⟩, hx⟩
theorem RowV.of_app {base : Nat} {w : World} {v : Value} {xs : List Int} (h : AppI base w v xs) (hp : 0 < xs.length) : RowV base w v xs := by
  rcases h.2 with ⟨h1, h2⟩ | ⟨g, cap, cur, h1, hg, hh, hnc, hm, hcs, htk⟩
  · omega
  · refine ⟨g, cap, fun j => cur.getD j (.int .i64 0), h1, hg, hnc, ⟨cur, hh, by omega, fun i hi => ?_⟩, fun i hi => ?_⟩
    · show _ = some (cur.getD i _)
      rw [Array.getD_eq_getD_getElem?, Array.getElem?_eq_getElem (by omega)]; rfl
    · have e1 : (cur.toList.take (xs.length * 1))[i]? = (xs.map vI)[i]? := by rw [htk]
      rw [List.getElem?_take, if_pos (by omega)] at e1
      have e2 : cur[i]? = some (vI (at0 xs i)) := by
        rw [← Array.getElem?_toList, e1, List.getElem?_map, List.getElem?_eq_getElem hi]
        unfold at0
        rw [getD_lt _ _ hi]; rfl
      show cur.getD i _ = _
      rw [Array.getD_eq_getD_getElem?, e2]; rfl

/-- v is nil, or a slice of the call's own from block base on; its cells are slices that read as the rows rs. -/
def AppR (base : Nat) (w : World) (v : Value) (rs : List (List Int)) : Prop :=
  ∃ cells, w.ownsRow base 24 1 v rs.length cells ∧ ∀ i, i < rs.length → ∃ cv, cells[i]? = some cv ∧ RowV base w cv (rw0 rs i)
theorem AppR.nil_ (base : Nat) (w : World) : AppR base w (.slice none 0 0) [] := ⟨[], World.ownsRow_nil w base _ _, fun i hi => absurd hi (by simp)⟩
theorem AppR.form {base : Nat} {w : World} {v : Value} {rs : List (List Int)} (h : AppR base w v rs) : ∃ A c, v = .slice A rs.length c ∧ rs.length ≤ c := by
  obtain ⟨cells, h, -⟩ := h
  rcases h.2 with ⟨h1, h2⟩ | ⟨g, cap, cur, h1, -, -, h2, -⟩
  · exact ⟨none, 0, by rw [h1, h2], by omega⟩
  · exact ⟨_, _, h1, h2⟩
theorem AppR.one {base : Nat} {w : World} {v : Value} {rs : List (List Int)} (h : AppR base w v rs) : v.oneCell' = true := by
  obtain ⟨A, c, rfl, -⟩ := h.form
  rfl
theorem AppR.ext {base : Nat} {w w' : World} {v : Value} {rs : List (List Int)} (h : AppR base w v rs) (hx : Ext w w') : AppR base w' v rs := by
  obtain ⟨cells, h1, h2⟩ := h
  refine ⟨cells, World.ownsRow.kept (row := none) h1 ⟨hx.os, hx.tape, hx.output, hx.size, fun k hk _ => hx.block k hk⟩ (by
    cases hv : v.ownBlock with
    | none => exact .inl rfl
    | some k => exact .inr (by simp)), fun i hi => ?_⟩
  obtain ⟨cv, h3, h4⟩ := h2 i hi
  exact ⟨cv, h3, h4.ext hx⟩
theorem AppR.mono {b1 b2 : Nat} {w : World} {v : Value} {rs : List (List Int)} (h : AppR b2 w v rs) (hb : b1 ≤ b2) : AppR b1 w v rs := by
  obtain ⟨cells, h1, h2⟩ := h
  refine ⟨cells, ⟨h1.1, ?_⟩, fun i hi => ?_⟩
  · rcases h1.2 with hn | ⟨g, cap, cur, e, hg, rest⟩
    · exact .inl hn
    · exact .inr ⟨g, cap, cur, e, by omega, rest⟩
  · obtain ⟨cv, h3, h4⟩ := h2 i hi
    exact ⟨cv, h3, h4.mono hb⟩
/-- A store into an elder block. -/
theorem AppR.setFar {base : Nat} {w : World} {v : Value} {rs : List (List Int)} (h : AppR base w v rs) {p : Addr} (hp : p.block < base) (u : Value) : AppR base (w.setCell p u) v rs := by
  obtain ⟨cells, h1, h2⟩ := h
  refine ⟨cells, ⟨h1.1, ?_⟩, fun i hi => ?_⟩
  · rcases h1.2 with hn | ⟨g, cap, cur, e, hb, hgg, rest⟩
    · exact .inl hn
    · exact .inr ⟨g, cap, cur, e, hb, (Deep.blk_setCell_other w p u g (by omega)).trans hgg, rest⟩
  · obtain ⟨cv, h3, h4⟩ := h2 i hi
    exact ⟨cv, h3, h4.setOther hp u⟩
theorem AppR.rows {base : Nat} {w : World} {v : Value} {rs : List (List Int)} (h : AppR base w v rs) (hc : rs.length * 24 ≤ 140737488355328)
    (hl : ∀ i, i < rs.length → (rw0 rs i).length * 8 ≤ 140737488355328) (hi : ∀ i, i < rs.length → ∀ j, j < (rw0 rs i).length → I64 (at0 (rw0 rs i) j)) : SRows w v rs := by
  obtain ⟨cells, h1, h2⟩ := h
  rcases h1.2 with ⟨e1, e2⟩ | ⟨g, cap, cur, e1, hg, hh, hnc, hm, hcs, htk⟩
  · exact ⟨none, 0, by rw [e1, e2], by omega, hc, fun hp => absurd hp (by omega)⟩
  · refine ⟨_, _, e1, hnc, hc, fun _ => ⟨g, 0, rfl, (Array.getElem?_eq_some_iff.1 hh).1, fun i hi' => ?_⟩⟩
    obtain ⟨cv, h3, h4⟩ := h2 i hi'
    refine ⟨cv, ?_, h4.ints (hl i hi') (hi i hi')⟩
    have e3 : (cur.toList.take (rs.length * 1))[i]? = cells[i]? := by rw [htk]
    rw [List.getElem?_take, if_pos (by omega), h3, Array.getElem?_toList] at e3
    simp [World.cell?, hh, e3]
theorem Tryd.infoSp : ∃ i, Tryd.prog.info? 24 = some i ∧ i.zero = some (.slice none 0 0) ∧ i.size = 1 ∧ i.bytes = 24 := by
  obtain ⟨i, h1, h2⟩ := Option.map_eq_some_iff.1 Tryd.infoS
  simp only [Prod.mk.injEq] at h2
  exact ⟨i, h1, h2.1, h2.2.1, h2.2.2⟩
theorem run_appR (w : World) (ty : TypeId) (base : Nat) (v : Value) (rs : List (List Int)) (xs : List Int) (rv : Value) (b c : Nat)
    (hown : AppR base w v rs) (hc : w.cell? ⟨b, 0, none⟩ = some rv) (hr : RowV base w rv xs) (hl : rs.length ≤ 1000000000000) (hbase : base ≤ w.heap.size) :
    ∃ v' w', (Builtin.append_ #[58, 58] ty #[v, .slice (some ⟨b, 0, none⟩) 1 c]).run Tryd.prog w = .ok v' w' ∧ AppR base w' v' (rs ++ [xs]) ∧ Below base w w' := by
  obtain ⟨i, hi, hz, hsz, hby⟩ := Tryd.infoSp
  obtain ⟨cells, h1, h2⟩ := hown
  obtain ⟨v', w', e1, e2, e3, -⟩ := run_append_own (P := Tryd.prog) w base 58 ty 24 i (.slice none 0 0) 1 24 Tryd.underlying58 hi hz hsz hby rfl (by omega) v rs.length cells h1 ⟨b, 0, none⟩ 1 c [rv] rfl (by
    intro j u hj
    match j with
    | 0 =>
      simp at hj
      subst hj
      simpa [Addr.add] using hc
    | j + 1 => simp at hj) (by
    intro u hu
    simp at hu
    subst hu
    exact hr.one) (by unfold maxLen; omega) (by omega) hbase
  have hkeep : ∀ {cv : Value} {ys : List Int}, RowV base w cv ys → RowV base w' cv ys := by
    intro cv ys hcv
    obtain ⟨g, cap, f, k1, k2, k3, k4, k5⟩ := hcv
    refine ⟨g, cap, f, k1, k2, k3, k4.of_block (e3.block g k4.lt ?_), k5⟩
    intro hne
    rcases h1.2 with ⟨q1, -⟩ | ⟨g', cap', cur', q1, -, q2, -⟩
    · rw [q1] at hne; cases hne
    · rw [q1] at hne
      injection hne with hne
      simp at hne
      subst hne
      obtain ⟨cc, p1, -⟩ := k4
      rw [p1] at q2
      injection q2 with q2
      injection q2 with _ q3
      cases q3
  have hcl : cells.length = rs.length := by simpa using h1.1
  refine ⟨v', w', e1, ⟨cells ++ [rv], by simpa using e2, fun i hi => ?_⟩, ⟨e3.os, e3.tape, e3.output, e3.size, fun k hk => e3.block k (by omega) ?_⟩⟩
  · simp at hi
    by_cases hlt : i < rs.length
    · obtain ⟨cv, h3, h4⟩ := h2 i hlt
      refine ⟨cv, by rw [List.getElem?_append_left (by omega)]; exact h3, ?_⟩
      rw [show rw0 (rs ++ [xs]) i = rw0 rs i by simp [rw0, List.getElem?_append_left hlt]]
      exact hkeep h4
    · obtain rfl : i = rs.length := by omega
      refine ⟨rv, by rw [← hcl]; simp, ?_⟩
      rw [show rw0 (rs ++ [xs]) rs.length = xs by simp [rw0]]
      exact hkeep hr
  · intro e
    have := (World.ownsRow.lt h1 k e.symm).1
    omega
/-- append of the one row that lies at the head of block b. -/
theorem wpList_appR (w : World) {ops : Array Oper} {rest : List Oper} {o : Oper} {a : Act} {Q : Exit → Act → World → Prop} (hgd : o.guard = none) (s x : Operand)
    (ho : o.op = .call { callee := .builtin .append, args := #[s, x], argTypes := #[58, 58] })
    (base : Nat) (v : Value) (rs : List (List Int)) (xs : List Int) (rv : Value) (b c : Nat) (hs : a.eval s = v) (hx : a.eval x = .slice (some ⟨b, 0, none⟩) 1 c)
    (hown : AppR base w v rs) (hc : w.cell? ⟨b, 0, none⟩ = some rv) (hr : RowV base w rv xs) (hl : rs.length ≤ 1000000000000) (hbase : base ≤ w.heap.size)
    (h : ∀ v' w', AppR base w' v' (rs ++ [xs]) → Below base w w' → wpList Tryd.prog ops Q rest (a.put o.dst v') w') : wpList Tryd.prog ops Q (o :: rest) a w := by
  obtain ⟨v', w', hrun, h1, h2⟩ := run_appR w o.type base v rs xs rv b c hown hc hr hl hbase
  refine wpList_plain hgd fun K hK => ?_
  unfold Oper.wp
  simp [execOp, ho, resolve, invoke, builtin, hs, hx, hrun, Result.andThen]
  exact hK _ _ (h v' w' h1 h2)
/-- The same as one step of a region that draws its order. -/
theorem step_appR (w : World) {ops : Array Oper} {o : Oper} {a : Act} {K : Act → World → Prop} {Q : Exit → Act → World → Prop} {E : Prop} (hgd : o.guard = none) (s x : Operand)
    (ho : o.op = .call { callee := .builtin .append, args := #[s, x], argTypes := #[58, 58] })
    (base : Nat) (v : Value) (rs : List (List Int)) (xs : List Int) (rv : Value) (b c : Nat) (hs : a.eval s = v) (hx : a.eval x = .slice (some ⟨b, 0, none⟩) 1 c)
    (hown : AppR base w v rs) (hc : w.cell? ⟨b, 0, none⟩ = some rv) (hr : RowV base w rv xs) (hl : rs.length ≤ 1000000000000) (hbase : base ≤ w.heap.size)
    (h : ∀ v' w', AppR base w' v' (rs ++ [xs]) → Below base w w' → K (a.put o.dst v') w') :
    if Region.wanted o (yielded ops a.tmps) = true then Oper.wp Tryd.prog o a w K Q else E := by
  have hw : Region.wanted o (yielded ops a.tmps) = true := by simp [Region.wanted, hgd]
  rw [if_pos hw]
  obtain ⟨v', w', hrun, h1, h2⟩ := run_appR w o.type base v rs xs rv b c hown hc hr hl hbase
  unfold Oper.wp
  simp [execOp, ho, resolve, invoke, builtin, hs, hx, hrun, Result.andThen]
  exact h v' w' h1 h2
end Go.Proofs.YtjpdebgejlfeaaaDoor
/- append to a slice of the call's own, told which block it writes and where the result lies. -/
namespace Go.Proofs.YtjpdebgejlfeaaaDoor
open Go.RowKit

theorem ownsRow_base {w : World} {b1 b2 size n : Nat} {e : TypeId} {v : Value} {xs : List Value} (h : w.ownsRow b2 e size v n xs) (hb : b1 ≤ b2) : w.ownsRow b1 e size v n xs := by
  refine ⟨h.1, ?_⟩
  rcases h.2 with hn | ⟨g, cap, cur, e1, hg, rest⟩
  · exact .inl hn
  · exact .inr ⟨g, cap, cur, e1, by omega, rest⟩
theorem run_append_kind {P : Program} (w : World) (base : Nat) (t ty e : TypeId) (i : TypeInfo) (z : Value) (bytes : Nat) (ht : P.underlying t = some (.slice e)) (hi : P.info? e = some i) (hz : i.zero = some z)
    (hsz : i.size = 1) (hby : i.bytes = bytes) (hzs : z.cells.size = 1) (v : Value) (k : Nat) (xs : List Value) (hown : w.ownsRow base e 1 v k xs) (b c : Nat) (u : Value) (hu : w.cell? ⟨b, 0, none⟩ = some u) (hu1 : u.oneCell' = true)
    (h1 : k + 1 ≤ maxLen) (h2 : (k + 1) * bytes ≤ 140737488355328) (hb : base ≤ w.heap.size) :
    ∃ v' w', (Builtin.append_ #[t, t] ty #[v, .slice (some ⟨b, 0, none⟩) 1 c]).run P w = .ok v' w' ∧ w'.ownsRow base e 1 v' (k + 1) (xs ++ [u]) ∧ w.grownBy w' v.ownBlock ∧ (∀ g, v'.ownBlock = some g → v.ownBlock = some g ∨ w.heap.size ≤ g) := by
  have hn : ∀ (j : Nat) (u' : Value), [u][j]? = some u' → w.cell? ((⟨b, 0, none⟩ : Addr).add j) = some u' := by
    intro j u' hj
    match j with
    | 0 => simp at hj; subst hj; simpa [Addr.add] using hu
    | j + 1 => simp at hj
  have hone : ∀ u' ∈ [u], u'.oneCell' = true := by intro u' h; simp at h; subst h; exact hu1
  rcases hown.2 with ⟨rfl, rfl⟩ | ⟨g, cap, cur, rfl, hg, hh, hnc, hcm, hcs, htk⟩
  · obtain rfl : xs = [] := List.length_eq_zero_iff.1 (by simpa using hown.1)
    obtain ⟨v', w', e1, e2, e3, -⟩ := run_append_own (P := P) w w.heap.size t ty e i z 1 bytes ht hi hz hsz hby hzs (by omega) (.slice none 0 0) 0 [] (World.ownsRow_nil w _ _ _) ⟨b, 0, none⟩ 1 c [u] rfl hn hone h1 h2 (Nat.le_refl _)
    exact ⟨v', w', e1, ownsRow_base e2 hb, e3, fun g hg => .inr (World.ownsRow.lt e2 g hg).1⟩
  · by_cases hlt : k + 1 ≤ cap
    · obtain ⟨w', e1, e2, e3⟩ := run_append_fits (P := P) w base t ty e i 1 ht hi hsz g k cap xs hown ⟨b, 0, none⟩ 1 c [u] rfl hn hone hlt
      exact ⟨_, w', e1, e2, e3, fun g' hg' => .inl hg'⟩
    · have hcell : ∀ (j : Nat) (u' : Value), xs[j]? = some u' → w.cell? ((⟨g, 0, none⟩ : Addr).add j) = some u' := by
        intro j u' hj
        have hjl : j < k * 1 := by rw [← hown.1]; exact (List.getElem?_eq_some_iff.1 hj).1
        have e1 : (cur.toList.take (k * 1))[j]? = xs[j]? := by rw [htk]
        rw [List.getElem?_take, if_pos hjl, hj, Array.getElem?_toList] at e1
        have hadd : (⟨g, 0, none⟩ : Addr).add j = ⟨g, j, none⟩ := by unfold Addr.add; split <;> simp_all
        rw [hadd]
        simp [World.cell?, hh, e1]
      obtain ⟨v', w', e1, e2, e3⟩ := run_append_arg_grows (P := P) w t ty e i z 1 bytes ht hi hz hsz hby hzs (by omega) ⟨g, 0, none⟩ k cap xs hown.1 hcell ⟨b, 0, none⟩ 1 c [u] rfl hn (by omega) h1 h2
      exact ⟨v', w', e1, ownsRow_base e2 hb, ⟨e3.os, e3.tape, e3.output, e3.size, fun k hk _ => e3.block k hk (by simp)⟩, fun g' hg' => .inr (World.ownsRow.lt e2 g' hg').1⟩
/-- v is a slice at the head of a block whose first cells read as xs. -/
def RowW (w : World) (v : Value) (xs : List Int) : Prop :=
  ∃ g cap m f, v = .slice (some ⟨g, 0, none⟩) xs.length cap ∧ xs.length ≤ cap ∧ xs.length ≤ m ∧ w.rowIs g 3 m f ∧ ∀ i, i < xs.length → f i = vI (at0 xs i)
theorem RowW.one {w : World} {v : Value} {xs : List Int} (h : RowW w v xs) : v.oneCell' = true := by
  obtain ⟨g, cap, m, f, rfl, -⟩ := h
  rfl
theorem RowW.ints {w : World} {v : Value} {xs : List Int} (h : RowW w v xs) (hc : xs.length * 8 ≤ 140737488355328) (hb : ∀ i, i < xs.length → I64 (at0 xs i)) : SInts w v xs := by
  obtain ⟨g, cap, m, f, rfl, h1, h2, h3, h4⟩ := h
  exact ⟨_, _, rfl, h1, hc, hb, fun _ => ⟨g, 0, rfl, h3.lt, fun i hi => by rw [Nat.zero_add, h3.cell (by omega), h4 i hi]; rfl⟩⟩
theorem RowW.own {w : World} {xs : List Int} {A : Option Addr} {c b m : Nat} {f : Nat → Value} (hc : xs.length ≤ c) (h : OwnC w A b m f xs) (hp : 0 < xs.length) : A = some ⟨b, 0, none⟩ ∧ RowW w (.slice A xs.length c) xs := by
  obtain ⟨rfl, h2, h3, h4⟩ := h hp
  exact ⟨rfl, b, c, m, f, rfl, hc, h3, h2, h4⟩
/-- v is nil, or a slice of the call's own whose cells are slices that read as the rows rs; all its blocks are such as S names. -/
def AppRS (S : Nat → Prop) (w : World) (v : Value) (rs : List (List Int)) : Prop :=
  ∃ cells, w.ownsRow 0 24 1 v rs.length cells ∧ (∀ g, v.ownBlock = some g → S g) ∧ ∀ i, i < rs.length → ∃ cv, cells[i]? = some cv ∧ RowW w cv (rw0 rs i) ∧ (∀ g, cv.ownBlock = some g → S g)
theorem AppRS.nil_ (S : Nat → Prop) (w : World) : AppRS S w (.slice none 0 0) [] := ⟨[], World.ownsRow_nil w 0 _ _, (fun g hg => by cases hg), fun i hi => absurd hi (by simp)⟩
theorem AppRS.empty (S : Nat → Prop) (w : World) {o : Obj} (ho : o = .cells #[] 24) (hS : S w.heap.size) : AppRS S (w.alloc o) (.slice (some ⟨w.heap.size, 0, none⟩) 0 0) [] := by
  subst ho
  exact ⟨[], World.ownsRow_lit (size := 1) (e := 24) w #[] 0 (Nat.zero_le _) (by unfold maxLen; omega) rfl, (fun g hg => by cases hg; exact hS), fun i hi => absurd hi (by simp)⟩
theorem AppRS.form {S : Nat → Prop} {w : World} {v : Value} {rs : List (List Int)} (h : AppRS S w v rs) : ∃ A c, v = .slice A rs.length c ∧ rs.length ≤ c := by
  obtain ⟨cells, h, -⟩ := h
  rcases h.2 with ⟨h1, h2⟩ | ⟨g, cap, cur, h1, -, -, h2, -⟩
  · exact ⟨none, 0, by rw [h1, h2], by omega⟩
  · exact ⟨_, _, h1, h2⟩
theorem AppRS.rows {S : Nat → Prop} {w : World} {v : Value} {rs : List (List Int)} (h : AppRS S w v rs) (hc : rs.length * 24 ≤ 140737488355328)
    (hl : ∀ i, i < rs.length → (rw0 rs i).length * 8 ≤ 140737488355328) (hi : ∀ i, i < rs.length → ∀ j, j < (rw0 rs i).length → I64 (at0 (rw0 rs i) j)) : SRows w v rs := by
  obtain ⟨cells, h1, -, h2⟩ := h
  rcases h1.2 with ⟨e1, e2⟩ | ⟨g, cap, cur, e1, hg, hh, hnc, hm, hcs, htk⟩
  · exact ⟨none, 0, by rw [e1, e2], by omega, hc, fun hp => absurd hp (by omega)⟩
  · refine ⟨_, _, e1, hnc, hc, fun _ => ⟨g, 0, rfl, (Array.getElem?_eq_some_iff.1 hh).1, fun i hi' => ?_⟩⟩
    obtain ⟨cv, h3, h4, -⟩ := h2 i hi'
    refine ⟨cv, ?_, h4.ints (hl i hi') (hi i hi')⟩
    have e3 : (cur.toList.take (rs.length * 1))[i]? = cells[i]? := by rw [htk]
    rw [List.getElem?_take, if_pos (by omega), h3, Array.getElem?_toList] at e3
    simp [World.cell?, hh, e3]
/-- It abides whatever leaves the blocks that S names. -/
theorem AppRS.keep {S T : Nat → Prop} {w w' : World} {v : Value} {rs : List (List Int)} (h : AppRS S w v rs) (hk : Keep T w w') (hST : ∀ k, S k → T k) : AppRS S w' v rs := by
  obtain ⟨cells, h1, hv, h2⟩ := h
  refine ⟨cells, ⟨h1.1, ?_⟩, hv, fun i hi => ?_⟩
  · rcases h1.2 with hn | ⟨g, cap, cur, e, hb, hgg, rest⟩
    · exact .inl hn
    · exact .inr ⟨g, cap, cur, e, hb, (hk.block g (Array.getElem?_eq_some_iff.1 hgg).1 (hST g (hv g (by rw [e]; rfl)))).trans hgg, rest⟩
  · obtain ⟨cv, h3, ⟨g, cap, m, f, k1, k2, k3, k4, k5⟩, h6⟩ := h2 i hi
    exact ⟨cv, h3, ⟨g, cap, m, f, k1, k2, k3, hk.row (hST g (h6 g (by rw [k1]; rfl))) k4, k5⟩, h6⟩
theorem AppRS.ext {S : Nat → Prop} {w w' : World} {v : Value} {rs : List (List Int)} (h : AppRS S w v rs) (hx : Ext w w') : AppRS S w' v rs := h.keep (hx.keep S) (fun _ h => h)
/-- append of one row: which block is written, where the result lies. -/
theorem run_appRS (S : Nat → Prop) (w : World) (ty : TypeId) (v : Value) (rs : List (List Int)) (xs : List Int) (rv : Value) (b c : Nat)
    (hown : AppRS S w v rs) (hc : w.cell? ⟨b, 0, none⟩ = some rv) (hr : RowW w rv xs) (hrS : ∀ g, rv.ownBlock = some g → S g) (hl : rs.length ≤ 1000000000000) (hS : ∀ k, w.heap.size ≤ k → S k) :
    ∃ v' w', (Builtin.append_ #[58, 58] ty #[v, .slice (some ⟨b, 0, none⟩) 1 c]).run Tryd.prog w = .ok v' w' ∧ AppRS S w' v' (rs ++ [xs]) ∧ w.grownBy w' v.ownBlock ∧ (∀ g, v'.ownBlock = some g → v.ownBlock = some g ∨ w.heap.size ≤ g) := by
  obtain ⟨i, hi, hz, hsz, hby⟩ := Tryd.infoSp
  obtain ⟨cells, h1, hv, h2⟩ := hown
  obtain ⟨v', w', e1, e2, e3, e4⟩ := run_append_kind (P := Tryd.prog) w 0 58 ty 24 i (.slice none 0 0) 24 Tryd.underlying58 hi hz hsz hby rfl v rs.length cells h1 b c rv hc hr.one (by unfold maxLen; omega) (by omega) (Nat.zero_le _)
  have hkeep : ∀ {cv : Value} {ys : List Int}, RowW w cv ys → RowW w' cv ys := by
    intro cv ys hcv
    obtain ⟨g, cap, m, f, k1, k2, k3, k4, k5⟩ := hcv
    refine ⟨g, cap, m, f, k1, k2, k3, k4.of_block (e3.block g k4.lt ?_), k5⟩
    intro hne
    rcases h1.2 with ⟨q1, -⟩ | ⟨g', cap', cur', q1, -, q2, -⟩
    · rw [q1] at hne; cases hne
    · rw [q1] at hne
      injection hne with hne
      simp at hne
      subst hne
      obtain ⟨cc, p1, -⟩ := k4
      rw [p1] at q2
      injection q2 with q2
      injection q2 with _ q3
      cases q3
  have hcl : cells.length = rs.length := by simpa using h1.1
  refine ⟨v', w', e1, ⟨cells ++ [rv], by simpa using e2, fun g hg => (e4 g hg).elim (hv g) (hS g), fun i hi => ?_⟩, e3, e4⟩
  simp at hi
  by_cases hlt : i < rs.length
  · obtain ⟨cv, h3, h4, h5⟩ := h2 i hlt
    refine ⟨cv, by rw [List.getElem?_append_left (by omega)]; exact h3, ?_, h5⟩
    rw [show rw0 (rs ++ [xs]) i = rw0 rs i by simp [rw0, List.getElem?_append_left hlt]]
    exact hkeep h4
  · obtain rfl : i = rs.length := by omega
    refine ⟨rv, by rw [← hcl]; simp, ?_, hrS⟩
    rw [show rw0 (rs ++ [xs]) rs.length = xs by simp [rw0]]
    exact hkeep hr
/-- The same as one step of a region that draws its order. -/
theorem step_appRS (w : World) {ops : Array Oper} {o : Oper} {a : Act} {K : Act → World → Prop} {Q : Exit → Act → World → Prop} {E : Prop} (hgd : o.guard = none) (s x : Operand)
    (ho : o.op = .call { callee := .builtin .append, args := #[s, x], argTypes := #[58, 58] })
    (S : Nat → Prop) (v : Value) (rs : List (List Int)) (xs : List Int) (rv : Value) (b c : Nat) (hs : a.eval s = v) (hx : a.eval x = .slice (some ⟨b, 0, none⟩) 1 c)
    (hown : AppRS S w v rs) (hc : w.cell? ⟨b, 0, none⟩ = some rv) (hr : RowW w rv xs) (hrS : ∀ g, rv.ownBlock = some g → S g) (hl : rs.length ≤ 1000000000000) (hS : ∀ k, w.heap.size ≤ k → S k)
    (h : ∀ v' w', AppRS S w' v' (rs ++ [xs]) → w.grownBy w' v.ownBlock → (∀ g, v'.ownBlock = some g → v.ownBlock = some g ∨ w.heap.size ≤ g) → K (a.put o.dst v') w') :
    if Region.wanted o (yielded ops a.tmps) = true then Oper.wp Tryd.prog o a w K Q else E := by
  have hw : Region.wanted o (yielded ops a.tmps) = true := by simp [Region.wanted, hgd]
  rw [if_pos hw]
  obtain ⟨v', w', hrun, h1, h2, h3⟩ := run_appRS S w o.type v rs xs rv b c hown hc hr hrS hl hS
  unfold Oper.wp
  simp [execOp, ho, resolve, invoke, builtin, hs, hx, hrun, Result.andThen]
  exact h v' w' h1 h2 h3
theorem wpList_appRS (w : World) {ops : Array Oper} {rest : List Oper} {o : Oper} {a : Act} {Q : Exit → Act → World → Prop} (hgd : o.guard = none) (s x : Operand)
    (ho : o.op = .call { callee := .builtin .append, args := #[s, x], argTypes := #[58, 58] })
    (S : Nat → Prop) (v : Value) (rs : List (List Int)) (xs : List Int) (rv : Value) (b c : Nat) (hs : a.eval s = v) (hx : a.eval x = .slice (some ⟨b, 0, none⟩) 1 c)
    (hown : AppRS S w v rs) (hc : w.cell? ⟨b, 0, none⟩ = some rv) (hr : RowW w rv xs) (hrS : ∀ g, rv.ownBlock = some g → S g) (hl : rs.length ≤ 1000000000000) (hS : ∀ k, w.heap.size ≤ k → S k)
    (h : ∀ v' w', AppRS S w' v' (rs ++ [xs]) → w.grownBy w' v.ownBlock → (∀ g, v'.ownBlock = some g → v.ownBlock = some g ∨ w.heap.size ≤ g) → wpList Tryd.prog ops Q rest (a.put o.dst v') w') : wpList Tryd.prog ops Q (o :: rest) a w := by
  obtain ⟨v', w', hrun, h1, h2, h3⟩ := run_appRS S w o.type v rs xs rv b c hown hc hr hrS hl hS
  refine wpList_plain hgd fun K hK => ?_
  unfold Oper.wp
  simp [execOp, ho, resolve, invoke, builtin, hs, hx, hrun, Result.andThen]
  exact hK _ _ (h v' w' h1 h2 h3)
theorem Keep.of_grown {w w' : World} {r : Option Nat} (h : w.grownBy w' r) : Keep (fun k => r ≠ some k) w w' := ⟨h.os, h.tape, h.output, h.size, fun k hk hs => h.block k hk (fun e => hs e.symm)⟩
end Go.Proofs.YtjpdebgejlfeaaaDoor
