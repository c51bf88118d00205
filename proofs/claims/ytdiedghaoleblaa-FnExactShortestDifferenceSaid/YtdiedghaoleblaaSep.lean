/- Things in memory that lie apart from each other: a list of them, each with the blocks that it takes. -/
import Derived.Test.YtdiedghaoleblaaCum
namespace Go.Proofs.Ytdiedghaoleblaa
open Go.RowKit

/-- A thing in memory: its blocks, and what is known of it. -/
structure Itm where
  D : Nat → Prop
  P : World → Prop
/-- What is known stands as long as the blocks are as they were. -/
def Itm.St (a : Itm) : Prop := ∀ W W', a.P W → Keep a.D W W' → a.P W'
/-- The things of the list lie in memory made since w0, apart from each other; else memory only grew. -/
structure Apt (w0 W : World) (l : List Itm) : Prop where
  p : ∀ (i : Nat) (a : Itm), l[i]? = some a → a.P W
  d : ∀ (i : Nat) (a : Itm), l[i]? = some a → ∀ k, a.D k → w0.heap.size ≤ k ∧ k < W.heap.size
  s : ∀ (i : Nat) (a : Itm), l[i]? = some a → a.St
  ap : ∀ (i j : Nat) (a b : Itm), l[i]? = some a → l[j]? = some b → i ≠ j → ∀ k, a.D k → ¬ b.D k
  ext : Ext w0 W
theorem Apt.nil_ {w0 W : World} (h : Ext w0 W) : Apt w0 W [] := ⟨fun i a h => by simp at h, fun i a h => by simp at h, fun i a h => by simp at h, fun i j a b h => by simp at h, h⟩
theorem Apt.grow {w0 W W' : World} {l : List Itm} (h : Apt w0 W l) (hx : Ext W W') : Apt w0 W' l :=
  ⟨fun i a hi => h.s i a hi W W' (h.p i a hi) (hx.keep _), fun i a hi k hk => ⟨(h.d i a hi k hk).1, Nat.lt_of_lt_of_le (h.d i a hi k hk).2 hx.size⟩, h.s, h.ap, h.ext.trans hx⟩
/-- One thing turns: its blocks alone are written, or new ones taken. -/
theorem Apt.upd {w0 W W' : World} {l : List Itm} (h : Apt w0 W l) (n : Nat) (a a' : Itm) (hn : l[n]? = some a) (hk : Keep (fun k => ¬ a.D k) W W') (hP : a'.P W')
    (hD : ∀ k, a'.D k → (a.D k ∨ W.heap.size ≤ k) ∧ k < W'.heap.size) (hs : a'.St) : Apt w0 W' (l.set n a') := by
  have hnl : n < l.length := (List.getElem?_eq_some_iff.1 hn).1
  have hget : ∀ i b, (l.set n a')[i]? = some b → (i = n ∧ b = a') ∨ (i ≠ n ∧ l[i]? = some b) := by
    intro i b hb
    rw [List.getElem?_set] at hb
    by_cases hi : n = i
    · subst hi
      rw [if_pos rfl, if_pos hnl] at hb
      injection hb with hb
      exact .inl ⟨rfl, hb.symm⟩
    · rw [if_neg hi] at hb
      exact .inr ⟨fun e => hi e.symm, hb⟩
  have hsz : w0.heap.size ≤ W.heap.size := h.ext.size
  refine ⟨fun i b hb => ?_, fun i b hb k hkb => ?_, fun i b hb => ?_, fun i j b c hb hc hij k hkb hkc => ?_, ?_⟩
  · rcases hget i b hb with ⟨rfl, rfl⟩ | ⟨hi, hb⟩
    · exact hP
    · exact h.s i b hb W W' (h.p i b hb) (hk.mono (fun k _ hkb hka => h.ap i n b a hb hn hi k hkb hka))
  · rcases hget i b hb with ⟨rfl, rfl⟩ | ⟨hi, hb⟩
    · obtain ⟨h1, h2⟩ := hD k hkb
      refine ⟨?_, h2⟩
      rcases h1 with h1 | h1
      · exact (h.d _ a hn k h1).1
      · omega
    · exact ⟨(h.d i b hb k hkb).1, Nat.lt_of_lt_of_le (h.d i b hb k hkb).2 hk.size⟩
  · rcases hget i b hb with ⟨rfl, rfl⟩ | ⟨hi, hb⟩
    · exact hs
    · exact h.s i b hb
  · rcases hget i b hb with ⟨e1, e2⟩ | ⟨hi, hb'⟩
    · rcases hget j c hc with ⟨e3, e4⟩ | ⟨hj, hc'⟩
      · omega
      · subst e2
        rcases (hD k hkb).1 with h1 | h1
        · exact h.ap _ j a c hn hc' (fun e => hj e.symm) k h1 hkc
        · have := (h.d j c hc' k hkc).2; omega
    · rcases hget j c hc with ⟨e3, e4⟩ | ⟨hj, hc'⟩
      · subst e4
        rcases (hD k hkc).1 with h1 | h1
        · exact h.ap i _ b a hb' hn hi k hkb h1
        · have := (h.d i b hb' k hkb).2; omega
      · exact h.ap i j b c hb' hc' hij k hkb hkc
  · exact Below.trans h.ext (hk.below hsz (fun k hk' hka => by have := (h.d n a hn k hka).1; omega))
/-- A new thing. -/
theorem Apt.push {w0 W W' : World} {l : List Itm} (h : Apt w0 W l) (a : Itm) (hx : Ext W W') (hP : a.P W') (hD : ∀ k, a.D k → W.heap.size ≤ k ∧ k < W'.heap.size) (hs : a.St) : Apt w0 W' (a :: l) := by
  have g := h.grow hx
  refine ⟨fun i b hb => ?_, fun i b hb k hk => ?_, fun i b hb => ?_, fun i j b c hb hc hij k hkb hkc => ?_, g.ext⟩
  · cases i with
    | zero => injection hb with hb; subst hb; exact hP
    | succ i => exact g.p i b hb
  · cases i with
    | zero =>
      injection hb with hb; subst hb
      have := hD k hk
      have := h.ext.size
      omega
    | succ i => exact g.d i b hb k hk
  · cases i with
    | zero => injection hb with hb; subst hb; exact hs
    | succ i => exact g.s i b hb
  · cases i with
    | zero =>
      injection hb with hb; subst hb
      cases j with
      | zero => exact hij rfl
      | succ j => have := (h.d j c hc k hkc).2; have := (hD k hkb).1; omega
    | succ i =>
      cases j with
      | zero => injection hc with hc; subst hc; have := (h.d i b hb k hkb).2; have := (hD k hkc).1; omega
      | succ j => exact g.ap i j b c hb hc (by omega) k hkb hkc
theorem Apt.pop {w0 W : World} {a : Itm} {l : List Itm} (h : Apt w0 W (a :: l)) : Apt w0 W l :=
  ⟨fun i b hb => h.p (i + 1) b hb, fun i b hb => h.d (i + 1) b hb, fun i b hb => h.s (i + 1) b hb, fun i j b c hb hc hij => h.ap (i + 1) (j + 1) b c hb hc (by omega), h.ext⟩
/-- Two things become one. -/
theorem Apt.mono0 {w1 w0 W : World} {l : List Itm} (h : Apt w0 W l) (hx : Ext w1 w0) : Apt w1 W l :=
  ⟨h.p, fun i a hi k hk => ⟨Nat.le_trans hx.size (h.d i a hi k hk).1, (h.d i a hi k hk).2⟩, h.s, h.ap, hx.trans h.ext⟩

/-- Cells of a block of fixed size. -/
def iC (b : Nat) (vs : List Value) : Itm := ⟨fun k => k = b, fun W => ∀ i u, vs[i]? = some u → W.cell? ⟨b, i, none⟩ = some u ∧ W.frozen? ⟨b, i, none⟩ = false ∧ b < W.heap.size⟩
theorem iC_st (b : Nat) (vs : List Value) : (iC b vs).St := by
  intro W W' h hk i u hi
  obtain ⟨h1, h2, h3⟩ := h i u hi
  exact ⟨(hk.cell (p := ⟨b, i, none⟩) h3 rfl).trans h1, (hk.frz (p := ⟨b, i, none⟩) h3 rfl).trans h2, Nat.lt_of_lt_of_le h3 hk.size⟩
theorem iC_set {b : Nat} {vs : List Value} {W : World} (h : (iC b vs).P W) (n : Nat) (u : Value) (hn : n < vs.length) : (iC b (vs.set n u)).P (W.setCell ⟨b, n, none⟩ u) := by
  intro i x hi
  rw [List.getElem?_set] at hi
  obtain ⟨y, hy⟩ : ∃ y, vs[n]? = some y := ⟨vs[n], List.getElem?_eq_getElem hn⟩
  have h0 := h n y hy
  by_cases e : n = i
  · subst e
    rw [if_pos rfl, if_pos hn] at hi
    injection hi with hi
    subst hi
    exact ⟨World.cell?_setCell_same' _ _ _ (by rw [h0.1]; rfl), (World.frozen?_setCell ..).trans h0.2.1, by simpa [World.setCell] using h0.2.2⟩
  · rw [if_neg e] at hi
    obtain ⟨h1, h2, h3⟩ := h i x hi
    exact ⟨(World.cell?_setCell_other _ _ _ _ (by intro e2; injection e2 with _ e2 _; omega)).trans h1, (World.frozen?_setCell ..).trans h2, by simpa [World.setCell] using h3⟩
theorem Apt.set {w0 W : World} {l : List Itm} (h : Apt w0 W l) (n : Nat) (b : Nat) (vs : List Value) (hn : l[n]? = some (iC b vs)) (i : Nat) (u : Value) (hi : i < vs.length) : Apt w0 (W.setCell ⟨b, i, none⟩ u) (l.set n (iC b (vs.set i u))) := by
  have hb : b < W.heap.size := (h.d n _ hn b rfl).2
  refine h.upd n _ _ hn ((Keep.refl _ W).set (fun _ hh => hh rfl) _) (iC_set (h.p n _ hn) i u hi) (fun k hk => ⟨.inl hk, ?_⟩) (iC_st _ _)
  have : k = b := hk
  subst this
  simpa [World.setCell] using hb
theorem Apt.cellC {w0 W : World} {l : List Itm} (h : Apt w0 W l) (n : Nat) {b : Nat} {vs : List Value} (hn : l[n]? = some (iC b vs)) (i : Nat) {u : Value} (hi : vs[i]? = some u) : W.cell? ⟨b, i, none⟩ = some u ∧ W.frozen? ⟨b, i, none⟩ = false := ⟨(h.p n _ hn i u hi).1, (h.p n _ hn i u hi).2.1⟩

/-- A row of ints of the call's own that grows. -/
def iI (B : Nat) (v : Value) (xs : List Int) : Itm := ⟨fun k => v.ownBlock = some k, fun W => AppI B W v xs⟩
theorem iI_st (B : Nat) (v : Value) (xs : List Int) : (iI B v xs).St := fun _ _ h hk => h.keep hk (fun _ e => e)
theorem Apt.appI {w0 W W' : World} {l : List Itm} (h : Apt w0 W l) (n : Nat) {B : Nat} {v v' : Value} {xs : List Int} {x : Int} (hn : l[n]? = some (iI B v xs)) (hA : AppI B W' v' (xs ++ [x])) (hg : W.grownBy W' v.ownBlock)
    (ho : ∀ g, v'.ownBlock = some g → v.ownBlock = some g ∨ W.heap.size ≤ g) : Apt w0 W' (l.set n (iI B v' (xs ++ [x]))) :=
  h.upd n _ _ hn (Keep.of_grown hg) hA (fun k hk => ⟨ho k hk, (World.ownsRow.lt hA k hk).2⟩) (iI_st _ _ _)
theorem Apt.mkI {w0 W W' : World} {l : List Itm} (h : Apt w0 W l) {v : Value} {xs : List Int} (hA : AppI W.heap.size W' v xs) (hx : Ext W W') : Apt w0 W' (iI W.heap.size v xs :: l) :=
  h.push _ hx hA (fun k hk => World.ownsRow.lt hA k hk) (iI_st _ _ _)

/-- A row of so many cells of the call's own. -/
def iR (b : Nat) (t : TypeId) (n : Nat) (f : Nat → Value) : Itm := ⟨fun k => k = b, fun W => W.rowIs b t n f⟩
theorem iR_st (b : Nat) (t : TypeId) (n : Nat) (f : Nat → Value) : (iR b t n f).St := fun _ _ h hk => hk.row rfl h
theorem Apt.setR {w0 W : World} {l : List Itm} (h : Apt w0 W l) (m : Nat) {b : Nat} {t : TypeId} {n : Nat} {f : Nat → Value} (hn : l[m]? = some (iR b t n f)) (i : Nat) (u : Value) : Apt w0 (W.setCell ⟨b, i, none⟩ u) (l.set m (iR b t n (fun j => if j = i then u else f j))) := by
  have hb : b < W.heap.size := (h.d m _ hn b rfl).2
  refine h.upd m _ _ hn ((Keep.refl _ W).set (fun _ hh => hh rfl) _) ((show W.rowIs b t n f from h.p m _ hn).set i u) (fun k hk => ⟨.inl hk, ?_⟩) (iR_st _ _ _ _)
  have : k = b := hk
  subst this
  simpa [World.setCell] using hb
theorem Apt.mkR {w0 W W' : World} {l : List Itm} (h : Apt w0 W l) {b : Nat} {t : TypeId} {n : Nat} {f : Nat → Value} (hr : W'.rowIs b t n f) (hb : W.heap.size ≤ b) (hx : Ext W W') : Apt w0 W' (iR b t n f :: l) :=
  h.push _ hx hr (fun k hk => by have : k = b := hk; subst this; exact ⟨hb, World.rowIs.lt hr⟩) (iR_st _ _ _ _)
theorem Apt.congrR {w0 W : World} {l : List Itm} (h : Apt w0 W l) (m : Nat) {b : Nat} {t : TypeId} {n : Nat} {f g : Nat → Value} (hn : l[m]? = some (iR b t n f)) (hfg : ∀ j, j < n → f j = g j) : Apt w0 W (l.set m (iR b t n g)) := by
  refine h.upd m _ _ hn (Keep.refl _ W) ((show W.rowIs b t n f from h.p m _ hn).congr hfg) (fun k hk => ⟨.inl hk, (h.d m _ hn k hk).2⟩) (iR_st _ _ _ _)

/-- A row of bools of the call's own that grows. -/
def vB (x : Bool) : Value := .bool x
def AppB (B : Nat) (w : World) (v : Value) (bs : List Bool) : Prop := w.ownsRow B 4 1 v bs.length (bs.map vB)
theorem ownsRow_keep {base : Nat} {S : Nat → Prop} {w w' : World} {v : Value} {e : TypeId} {sz n : Nat} {xs : List Value} (h : w.ownsRow base e sz v n xs) (hk : Keep S w w') (hS : ∀ g, v.ownBlock = some g → S g) : w'.ownsRow base e sz v n xs := by
  refine ⟨h.1, ?_⟩
  rcases h.2 with hn | ⟨g, cap, cur, e, hb, hgg, rest⟩
  · exact .inl hn
  · exact .inr ⟨g, cap, cur, e, hb, (hk.block g (Array.getElem?_eq_some_iff.1 hgg).1 (hS g (by rw [e]; rfl))).trans hgg, rest⟩
def iB (B : Nat) (v : Value) (bs : List Bool) : Itm := ⟨fun k => v.ownBlock = some k, fun W => AppB B W v bs⟩
theorem iB_st (B : Nat) (v : Value) (bs : List Bool) : (iB B v bs).St := fun _ _ h hk => ownsRow_keep h hk (fun _ e => e)
theorem Try.infoBp : ∃ i, Try.prog.info? 4 = some i ∧ i.zero = some (.bool false) ∧ i.size = 1 ∧ i.bytes = 1 := by
  obtain ⟨i, h1, h2⟩ := Option.map_eq_some_iff.1 (show (Try.prog.info? 4).map (fun i => (i.zero, i.size, i.bytes)) = some (some (.bool false), 1, 1) by kernel_rfl)
  simp only [Prod.mk.injEq] at h2
  exact ⟨i, h1, h2.1, h2.2.1, h2.2.2⟩
theorem Apt.appB {w0 W W' : World} {l : List Itm} (h : Apt w0 W l) (n : Nat) {B : Nat} {v v' : Value} {xs : List Bool} {x : Bool} (hn : l[n]? = some (iB B v xs)) (hA : AppB B W' v' (xs ++ [x])) (hg : W.grownBy W' v.ownBlock)
    (ho : ∀ g, v'.ownBlock = some g → v.ownBlock = some g ∨ W.heap.size ≤ g) : Apt w0 W' (l.set n (iB B v' (xs ++ [x]))) :=
  h.upd n _ _ hn (Keep.of_grown hg) hA (fun k hk => ⟨ho k hk, (World.ownsRow.lt hA k hk).2⟩) (iB_st _ _ _)
theorem run_appBO (w : World) (ty : TypeId) (base : Nat) (v : Value) (xs : List Bool) (x : Bool) (b c : Nat) (hown : AppB base w v xs) (hc : w.cell? ⟨b, 0, none⟩ = some (.bool x)) (hl : xs.length ≤ 1000000) (hb : base ≤ w.heap.size) :
    ∃ v' w', (Builtin.append_ #[52, 52] ty #[v, .slice (some ⟨b, 0, none⟩) 1 c]).run Try.prog w = .ok v' w' ∧ AppB base w' v' (xs ++ [x]) ∧ w.grownBy w' v.ownBlock ∧ (∀ g, v'.ownBlock = some g → v.ownBlock = some g ∨ w.heap.size ≤ g) := by
  obtain ⟨i, hi, hz, hsz, hby⟩ := Try.infoBp
  obtain ⟨v', w', e1, e2, e3, e4⟩ := run_append_kind (P := Try.prog) w base 52 ty 4 i (.bool false) 1 Try.underlying52 hi hz hsz hby rfl v xs.length (xs.map vB) hown b c (.bool x) hc rfl (by unfold maxLen; omega) (by omega) hb
  exact ⟨v', w', e1, by unfold AppB; simpa [vB] using e2, e3, e4⟩
theorem step_appBO (w : World) {ops : Array Oper} {o : Oper} {a : Act} {K : Act → World → Prop} {Q : Exit → Act → World → Prop} {E : Prop} (hgd : o.guard = none) (s y : Operand)
    (ho : o.op = .call { callee := .builtin .append, args := #[s, y], argTypes := #[52, 52] })
    (base : Nat) (v : Value) (xs : List Bool) (x : Bool) (b c : Nat) (hs : a.eval s = v) (hy : a.eval y = .slice (some ⟨b, 0, none⟩) 1 c)
    (hown : AppB base w v xs) (hc : w.cell? ⟨b, 0, none⟩ = some (.bool x)) (hl : xs.length ≤ 1000000) (hb : base ≤ w.heap.size)
    (h : ∀ v' w', AppB base w' v' (xs ++ [x]) → w.grownBy w' v.ownBlock → (∀ g, v'.ownBlock = some g → v.ownBlock = some g ∨ w.heap.size ≤ g) → K (a.put o.dst v') w') :
    if Region.wanted o (yielded ops a.tmps) = true then Oper.wp Try.prog o a w K Q else E := by
  have hw : Region.wanted o (yielded ops a.tmps) = true := by simp [Region.wanted, hgd]
  rw [if_pos hw]
  obtain ⟨v', w', hrun, h1, h2, h3⟩ := run_appBO w o.type base v xs x b c hown hc hl hb
  unfold Oper.wp
  simp [execOp, ho, resolve, invoke, builtin, hs, hy, hrun, Result.andThen]
  exact h v' w' h1 h2 h3
theorem wpList_appBO (w : World) {ops : Array Oper} {rest : List Oper} {o : Oper} {a : Act} {Q : Exit → Act → World → Prop} (hgd : o.guard = none) (s y : Operand)
    (ho : o.op = .call { callee := .builtin .append, args := #[s, y], argTypes := #[52, 52] })
    (base : Nat) (v : Value) (xs : List Bool) (x : Bool) (b c : Nat) (hs : a.eval s = v) (hy : a.eval y = .slice (some ⟨b, 0, none⟩) 1 c)
    (hown : AppB base w v xs) (hc : w.cell? ⟨b, 0, none⟩ = some (.bool x)) (hl : xs.length ≤ 1000000) (hb : base ≤ w.heap.size)
    (h : ∀ v' w', AppB base w' v' (xs ++ [x]) → w.grownBy w' v.ownBlock → (∀ g, v'.ownBlock = some g → v.ownBlock = some g ∨ w.heap.size ≤ g) → wpList Try.prog ops Q rest (a.put o.dst v') w') : wpList Try.prog ops Q (o :: rest) a w := by
  obtain ⟨v', w', hrun, h1, h2, h3⟩ := run_appBO w o.type base v xs x b c hown hc hl hb
  refine wpList_plain hgd fun K hK => ?_
  unfold Oper.wp
  simp [execOp, ho, resolve, invoke, builtin, hs, hy, hrun, Result.andThen]
  exact hK _ _ (h v' w' h1 h2 h3)
end Go.Proofs.Ytdiedghaoleblaa
