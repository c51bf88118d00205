/- What a law on automata says of the marks: things apart. -/
import Derived.Test.YtdiedghaoleblaaMcA
import Derived.Deep.RegionHeld3
namespace Go.Proofs.Ytdiedghaoleblaa
open Go.RowKit

theorem exists_fun {p : Nat → Nat → Prop} {n : Nat} (h : ∀ i, i < n → ∃ x, p i x) : ∃ f : Nat → Nat, ∀ i, i < n → p i (f i) :=
  ⟨fun i => if h' : i < n then Classical.choose (h i h') else 0, fun i hi => by show p i (if h' : i < n then Classical.choose (h i h') else 0); rw [dif_pos hi]; exact Classical.choose_spec (h i hi)⟩
/-- The sizes of an automaton: what is left, or -1. -/
def SzA2 (a : Au) (n : Int) (w : World) (e : Ending) (w' : World) : Prop :=
  ∃ r : Int, e = .returned (.int .i64 r) ∧ (r = -1 ∨ 0 ≤ r ∧ (a.next.length : Int) ≤ n ∧ (szR a.next a.next.length : Int) ≤ n ∧ (a.final.length : Int) ≤ n ∧ r ≤ n) ∧ Ext w w'
set_option maxHeartbeats 1000000 in
theorem szAutomaton2_any (vn vf : Value) (a : Au) (n : Int) (w : World) (hN : SRows w vn a.next) (hF : SInts w vf a.final) (h1 : 0 ≤ n) (h2 : n ≤ 1048576) :
    Calls Try.prog 28 #[.agg #[vn, vf], .int .i64 n] w (SzA2 a n w) := by
  obtain ⟨A, c, rfl, -, -⟩ := hN.form
  obtain ⟨A', c', rfl, -, -⟩ := hF.form
  go_enter Try.func28, Try.ntmps28
  go_wp2_with fail
  refine (szIntSS_any _ a.next n _ (hN.ext ((Ext.refl w).alloc _)) h1 h2).mono ?_
  rintro e w1 ⟨r, rfl, hr, hx1⟩
  have hx := ((Ext.refl w).alloc _).trans hx1
  rcases hr with rfl | ⟨hr0, hrn, hl, hr1, hrows⟩
  · go_wp2_with fail
    go_ret
    exact ⟨_, rfl, .inl rfl, hx⟩
  · have hszr : (szR a.next a.next.length : Int) ≤ n := by omega
    clear hrows hr1
    have f1 : w1.cell? ⟨w.heap.size, 1, none⟩ = some (.slice A' a.final.length c') := (hx1.cells _ _ (by simp)).trans (by go_simp)
    by_cases hfit : (a.final.length : Int) ≤ r
    · have e1 : left0 r a.final.length = r - a.final.length := left0_pos hfit
      have hnn : 0 ≤ left0 r a.final.length := by rw [e1]; omega
      have E1 := hide e1; clear e1
      go_wp2_with fail
      refine (szIntS_any _ a.final r _ (hF.ext hx) hr0 (by omega)).mono ?_
      rintro e w2 ⟨rfl, rfl⟩
      go_wp2_with fail
      go_ret
      exact ⟨_, rfl, .inr ⟨hnn, hl, hszr, by omega, by rw [E1.out]; omega⟩, hx⟩
    · have e1 : left0 r a.final.length = -1 := left0_neg (by omega)
      have hnn : left0 r a.final.length < 0 := by rw [e1]; decide
      clear e1
      go_wp2_with fail
      refine (szIntS_any _ a.final r _ (hF.ext hx) hr0 (by omega)).mono ?_
      rintro e w2 ⟨rfl, rfl⟩
      go_wp2_with fail
      go_ret
      exact ⟨_, rfl, .inl rfl, hx⟩
/-- The blocks of an automaton. -/
def blkA (A : Option Addr) (n : Nat) (kb : Nat → Nat) (b' nf : Nat) (k : Nat) : Prop := (∃ i, i < n ∧ k = kb i) ∨ (0 < n ∧ ∃ g, A = some ⟨g, 0, none⟩ ∧ k = g) ∨ (0 < nf ∧ k = b')
/-- An automaton that may be marked; what it holds is not told. -/
def iX (A A' : Option Addr) (rows : List (List Int)) (kb : Nat → Nat) (b' nf : Nat) : Itm := ⟨blkA A rows.length kb b' nf, fun W => MkW W A rows kb ∧ MkF W A' b' nf⟩
theorem MkW.keep {W W' : World} {A : Option Addr} {rs : List (List Int)} {kb : Nat → Nat} {b' nf : Nat} (h : MkW W A rs kb) (hk : Keep (blkA A rs.length kb b' nf) W W') : MkW W' A rs kb :=
  ⟨fun hp => by obtain ⟨g, m, F, h1, h2, h3, h4⟩ := h.out hp; exact ⟨g, m, F, h1, hk.row (.inr (.inl ⟨hp, g, h1, rfl⟩)) h2, h3, h4⟩, fun i hi => by obtain ⟨c, f, q1, q2⟩ := h.rows i hi; exact ⟨c, f, q1, hk.row (.inl ⟨i, hi, rfl⟩) q2⟩⟩
theorem iX_st (A A' : Option Addr) (rows : List (List Int)) (kb : Nat → Nat) (b' nf : Nat) : (iX A A' rows kb b' nf).St := fun W W' h hk =>
  ⟨h.1.keep hk, fun hp => by obtain ⟨e, m, f, q1, q2⟩ := h.2 hp; exact ⟨e, m, f, q1, hk.row (.inr (.inr ⟨hp, rfl⟩)) q2⟩⟩
/-- An automaton with what it holds. -/
def iG (B : Nat) (A A' : Option Addr) (rows : List (List Int)) (fins : List Int) (kb : Nat → Nat) (b' m' : Nat) (f' : Nat → Value) : Itm :=
  ⟨blkA A rows.length kb b' fins.length, fun W => OutW B W A rows kb ∧ OwnC W A' b' m' f' fins ∧ (0 < fins.length → ∀ i, i < rows.length → b' ≠ kb i)⟩
theorem iG_st (B : Nat) (A A' : Option Addr) (rows : List (List Int)) (fins : List Int) (kb : Nat → Nat) (b' m' : Nat) (f' : Nat → Value) : (iG B A A' rows fins kb b' m' f').St := fun W W' h hk =>
  ⟨⟨fun hp => by obtain ⟨g, m, F, h1, h2, h3, h4, h5⟩ := h.1.out hp; exact ⟨g, m, F, h1, h2, hk.row (.inr (.inl ⟨hp, g, h1, rfl⟩)) h3, h4, h5⟩, h.1.inj, fun i hi => by obtain ⟨h1, c, f, h2, h3, h4⟩ := h.1.rows i hi; exact ⟨h1, c, f, h2, hk.row (.inl ⟨i, hi, rfl⟩) h3, h4⟩⟩,
   fun hp => by obtain ⟨q1, q2, q3, q4⟩ := h.2.1 hp; exact ⟨q1, hk.row (.inr (.inr ⟨hp, rfl⟩)) q2, q3, q4⟩, h.2.2⟩
/-- A marked automaton. -/
def iH (A A' : Option Addr) (rows : List (List Int)) (nf : Nat) (kb : Nat → Nat) (b' : Nat) : Itm :=
  ⟨blkA A rows.length kb b' nf, fun W => MkW W A rows kb ∧ (0 < nf → A' = some ⟨b', 0, none⟩) ∧ HeldW W rows kb 1 rows.length ∧ HeldF W b' nf (1 + szR rows rows.length)⟩
theorem iH_st (A A' : Option Addr) (rows : List (List Int)) (nf : Nat) (kb : Nat → Nat) (b' : Nat) : (iH A A' rows nf kb b').St := fun W W' h hk =>
  ⟨h.1.keep hk, h.2.1, fun i hi => by obtain ⟨c, f, q1, q2, q3⟩ := h.2.2.1 i hi; exact ⟨c, f, q1, hk.row (.inl ⟨i, hi, rfl⟩) q2, q3⟩, fun hp => by obtain ⟨m, f, q1, q2⟩ := h.2.2.2 hp; exact ⟨m, f, q1, hk.row (.inr (.inr ⟨hp, rfl⟩)) q2⟩⟩
/-- A copy of an automaton in new memory is a thing apart. -/
theorem Apt.newX {w0 W W' : World} {l : List Itm} {b b' : Nat} {a : Au} (h : Apt w0 W l) (hb : W.heap.size ≤ b) (hb' : W.heap.size ≤ b') (hk : OwnK W.heap.size W' b a.next a.next.length) (hr : W'.rowIs b' 3 a.final.length (icell a.final a.final.length)) (hx : Ext W W') :
    ∃ kb, Apt w0 W' (iX (some ⟨b, 0, none⟩) (some ⟨b', 0, none⟩) a.next kb b' a.final.length :: l) := by
  obtain ⟨g, h1, -, h3⟩ := hk
  obtain ⟨kb, hkb⟩ := exists_fun h3
  refine ⟨kb, h.push _ hx ⟨⟨fun hp => ⟨b, _, g, rfl, h1, Nat.le_refl _, fun i hi => ⟨_, (hkb i hi).2.2.1⟩⟩, fun i hi => ⟨_, _, Nat.le_refl _, (hkb i hi).2.2.2⟩⟩, fun hp => ⟨rfl, _, _, Nat.le_refl _, hr⟩⟩ (fun k hk => ?_) (iX_st _ _ _ _ _ _)⟩
  rcases hk with ⟨i, hi, rfl⟩ | ⟨hp, g', e, rfl⟩ | ⟨hp, rfl⟩
  · exact ⟨(hkb i hi).1, (hkb i hi).2.2.2.lt⟩
  · injection e with e; injection e with e; subst e; exact ⟨hb, h1.lt⟩
  · exact ⟨hb', hr.lt⟩
/-- What the program's function has made is a thing apart. -/
theorem Apt.newG {w0 W W' : World} {l : List Itm} {A A' : Option Addr} {c c' : Nat} {rows : List (List Int)} {fins : List Int} (h : Apt w0 W l) (hO : OutP rows fins W W' A c A' c') :
    rows.length ≤ c ∧ fins.length ≤ c' ∧ Ext W W' ∧ ∃ kb b' m' f', Apt w0 W' (iG W.heap.size A A' rows fins kb b' m' f' :: l) := by
  obtain ⟨kb, b', m', f', h1, h2, h3, h4, h5, h6⟩ := hO
  refine ⟨h1, h2, h6, kb, b', m', f', h.push _ h6 ⟨h3, h4, fun hp => (h5 hp).2⟩ (fun k hk => ?_) (iG_st _ _ _ _ _ _ _ _ _)⟩
  rcases hk with ⟨i, hi, rfl⟩ | ⟨hp, g', e, rfl⟩ | ⟨hp, rfl⟩
  · obtain ⟨q1, c, f, -, q2, -⟩ := h3.rows i hi; exact ⟨q1, q2.lt⟩
  · obtain ⟨g, m, F, q1, q2, q3, -⟩ := h3.out hp
    rw [q1] at e
    injection e with e; injection e with e
    subst e
    exact ⟨q2, q3.lt⟩
  · exact ⟨(h5 hp).1, (h4 hp).2.1.lt⟩
theorem OutW.srows {B : Nat} {W : World} {A : Option Addr} {c : Nat} {rows : List (List Int)} {fins : List Int} {kb : Nat → Nat} (hok : OkA rows fins) (h : OutW B W A rows kb) (hc : rows.length ≤ c) : SRows W (.slice A rows.length c) rows := by
  refine ⟨A, c, rfl, hc, hok.rows.1, fun hp => ?_⟩
  obtain ⟨g, m, F, rfl, -, h3, h4, h5⟩ := h.out hp
  refine ⟨g, 0, rfl, h3.lt, fun i hi => ?_⟩
  obtain ⟨ci, e, hci⟩ := h5 i hi
  obtain ⟨-, cr, f, q1, q2, q3⟩ := h.rows i hi
  refine ⟨_, by rw [Nat.zero_add, h3.cell (by omega), e], _, ci, rfl, hci, hok.rows.2.1 i hi, hok.rows.2.2 i hi, fun _ => ⟨kb i, 0, rfl, q2.lt, fun j hj => by rw [Nat.zero_add, q2.cell (by omega), q3 j hj]; rfl⟩⟩
/-- Marked: the program's own result; what else there is stays. -/
theorem Apt.markG {w0 W W' : World} {l : List Itm} {n B : Nat} {A A' : Option Addr} {rows : List (List Int)} {fins : List Int} {kb : Nat → Nat} {b' m' : Nat} {f' : Nat → Value} {e : Ending} (h : Apt w0 W l) (hn : l[n]? = some (iG B A A' rows fins kb b' m' f'))
    (hm : MarkedA rows fins.length kb b' 1 W e W') : Apt w0 W' (l.set n (iH A A' rows fins.length kb b')) := by
  obtain ⟨-, hk, hh⟩ := hm
  obtain ⟨hO, hC, hd⟩ := (show OutW B W A rows kb ∧ OwnC W A' b' m' f' fins ∧ _ from h.p n _ hn)
  obtain ⟨h1, h2⟩ := hh hO.inj hd
  have hsz := hk.size
  refine h.upd n _ _ hn (hk.mono (fun k _ hkd => ⟨fun i hi e => hkd (.inl ⟨i, hi, e⟩), fun hp e => hkd (.inr (.inr ⟨hp, e⟩))⟩)) ⟨⟨fun hp => ?_, fun i hi => ?_⟩, fun hp => (hC hp).1, h1, h2⟩ (fun k hkd => ⟨.inl hkd, Nat.lt_of_lt_of_le (h.d n _ hn k hkd).2 hsz⟩) (iH_st _ _ _ _ _ _)
  · obtain ⟨g, m, F, q1, q2, q3, q4, q5⟩ := hO.out hp
    refine ⟨g, m, F, q1, hk.row ⟨fun i hi e => ?_, fun hp' e => ?_⟩ q3, q4, fun i hi => by obtain ⟨c, k1, -⟩ := q5 i hi; exact ⟨c, k1⟩⟩
    · obtain ⟨-, c, f, -, r2, -⟩ := hO.rows i hi
      rw [← e] at r2
      have := rowIs_type q3 r2
      revert this; decide
    · have r2 := (hC hp').2.1
      rw [← e] at r2
      have := rowIs_type q3 r2
      revert this; decide
  · obtain ⟨c, f, q1, q2, -⟩ := h1 i hi
    exact ⟨c, f, q1, q2⟩
/-- Marked: the argument's copy; nothing is known of it any more. -/
def iT (D : Nat → Prop) : Itm := ⟨D, fun _ => True⟩
theorem Apt.markX {w0 W W' : World} {l : List Itm} {n : Nat} {A A' : Option Addr} {rows : List (List Int)} {nf : Nat} {kb : Nat → Nat} {b' : Nat} {k0 : Int} {e : Ending} (h : Apt w0 W l) (hn : l[n]? = some (iX A A' rows kb b' nf))
    (hm : MarkedA rows nf kb b' k0 W e W') : Apt w0 W' (l.set n (iT (blkA A rows.length kb b' nf))) := by
  obtain ⟨-, hk, -⟩ := hm
  exact h.upd n _ _ hn (hk.mono (fun k _ hkd => ⟨fun i hi e => hkd (.inl ⟨i, hi, e⟩), fun hp e => hkd (.inr (.inr ⟨hp, e⟩))⟩)) trivial (fun k hkd => ⟨.inl hkd, Nat.lt_of_lt_of_le (h.d n _ hn k hkd).2 hk.size⟩) (fun _ _ _ _ => trivial)
theorem held4 {w0 W W' : World} {a b : Nat} {u0 u1 v0 v1 : Value} (h : Ext w0 W ∧ W.cell? ⟨a, 0, none⟩ = some u0 ∧ W.cell? ⟨a, 1, none⟩ = some u1 ∧ W.cell? ⟨b, 0, none⟩ = some v0 ∧ W.cell? ⟨b, 1, none⟩ = some v1) (hx : Ext W W') (ha : a < w0.heap.size) (hb : b < w0.heap.size) :
    Ext w0 W' ∧ W'.cell? ⟨a, 0, none⟩ = some u0 ∧ W'.cell? ⟨a, 1, none⟩ = some u1 ∧ W'.cell? ⟨b, 0, none⟩ = some v0 ∧ W'.cell? ⟨b, 1, none⟩ = some v1 :=
  ⟨h.1.trans hx, (hx.cells _ _ (Nat.lt_of_lt_of_le ha h.1.size)).trans h.2.1, (hx.cells _ _ (Nat.lt_of_lt_of_le ha h.1.size)).trans h.2.2.1, (hx.cells _ _ (Nat.lt_of_lt_of_le hb h.1.size)).trans h.2.2.2.1, (hx.cells _ _ (Nat.lt_of_lt_of_le hb h.1.size)).trans h.2.2.2.2⟩
theorem wp_mergeW {P : Program} {c : Code} {Q : Exit → Act → World → Prop} {a : Act} {w : World} (Po : World → Prop) (F : Nat → Nat → Act)
    (h : c.wp P (fun e a' W' => e = .normal ∧ ∃ x y, Po W' ∧ a' = F x y) a w) (hq : ∀ x y W', Po W' → Q .normal (F x y) W') : c.wp P Q a w :=
  Code.wp_mono (fun e a' W' ⟨h1, x, y, h2, h3⟩ => by subst h1; subst h3; exact hq x y W' h2) h
/-- What a statement over two boxed automata finds in memory. -/
def HeldE (w0 : World) (a : Nat) (u0 u1 v0 v1 : Value) (W : World) : Prop :=
  (Ext w0 W ∧ a + 1 + 1 ≤ W.heap.size) ∧ W.cell? ⟨a, 0, none⟩ = some u0 ∧ W.cell? ⟨a, 1, none⟩ = some u1 ∧ W.cell? ⟨a + 1, 0, none⟩ = some v0 ∧ W.cell? ⟨a + 1, 1, none⟩ = some v1
theorem HeldE.grow {w0 W W' : World} {a : Nat} {u0 u1 v0 v1 : Value} (h : HeldE w0 a u0 u1 v0 v1 W) (hx : Ext W W') : HeldE w0 a u0 u1 v0 v1 W' := by
  have h2 := h.1.2
  exact ⟨⟨h.1.1.trans hx, Nat.le_trans h.1.2 hx.size⟩, (hx.cells _ _ (by omega)).trans h.2.1, (hx.cells _ _ (by omega)).trans h.2.2.1, (hx.cells _ _ (by omega)).trans h.2.2.2.1, (hx.cells _ _ (by omega)).trans h.2.2.2.2⟩
theorem HeldE.set {w0 W : World} {a g : Nat} {u0 u1 v0 v1 : Value} (h : HeldE w0 a u0 u1 v0 v1 W) (ha : w0.heap.size ≤ g) (hg : a + 1 + 1 ≤ g) (o : Nat) (u : Value) : HeldE w0 a u0 u1 v0 v1 (W.setCell ⟨g, o, none⟩ u) := by
  refine ⟨⟨h.1.1.set ha _, by simpa [World.setCell] using h.1.2⟩, ?_, ?_, ?_, ?_⟩
  · exact (World.cell?_setCell_other _ _ _ _ (by intro e; injection e with e1 e2; omega)).trans h.2.1
  · exact (World.cell?_setCell_other _ _ _ _ (by intro e; injection e with e1 e2; omega)).trans h.2.2.1
  · exact (World.cell?_setCell_other _ _ _ _ (by intro e; injection e with e1 e2; omega)).trans h.2.2.2.1
  · exact (World.cell?_setCell_other _ _ _ _ (by intro e; injection e with e1 e2; omega)).trans h.2.2.2.2
/-- What came of the two automata: two copies, and the reference's answer in a cell. -/
structure SpecR where
  ba : Nat
  ba' : Nat
  bb : Nat
  bb' : Nat
  ok : Bool
  rows : List (List Int)
  fins : List Int
  A : Option Addr
  c : Nat
  A' : Option Addr
  c' : Nat
  g : Nat
theorem wp_mergeX {ι : Type} {P : Program} {c : Code} {Q : Exit → Act → World → Prop} {a : Act} {w : World} (Po : ι → World → Prop) (F : ι → Act)
    (h : c.wp P (fun e a' W' => e = .normal ∧ ∃ x, Po x W' ∧ a' = F x) a w) (hq : ∀ x W', Po x W' → Q .normal (F x) W') : c.wp P Q a w :=
  Code.wp_mono (fun e a' W' ⟨h1, x, h2, h3⟩ => by subst h1; subst h3; exact hq x W' h2) h
end Go.Proofs.Ytdiedghaoleblaa
