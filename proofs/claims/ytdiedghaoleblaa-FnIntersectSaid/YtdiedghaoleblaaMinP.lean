/- Machines, in plain Lean: classes of equivalent states, live states, the minimal form. -/
import Derived.Test.YtdiedghaoleblaaAutB
namespace Go.Proofs.Ytdiedghaoleblaa
open Go.RowKit

/-- A machine: every state has six successors. -/
structure Mc where
  nx : List (List Int)
  fin : List Bool
def mT (m : Mc) (s v : Nat) : Nat := (at0 (rw0 m.nx s) v).toNat
def mF (m : Mc) (s : Nat) : Bool := m.fin.getD s false
structure MOk (m : Mc) : Prop where
  pos : 1 ≤ m.nx.length
  le : m.nx.length ≤ 100
  fl : m.fin.length = m.nx.length
  six : ∀ i, i < m.nx.length → (rw0 m.nx i).length = 6
  rng : ∀ i, i < m.nx.length → ∀ j, j < 6 → 0 ≤ at0 (rw0 m.nx i) j ∧ at0 (rw0 m.nx i) j < m.nx.length
theorem MOk.lt {m : Mc} (h : MOk m) {s v : Nat} (hs : s < m.nx.length) (hv : v < 6) : mT m s v < m.nx.length := by
  have := h.rng s hs v hv
  unfold mT
  omega
theorem MOk.to {m : Mc} (h : MOk m) {s v : Nat} (hs : s < m.nx.length) (hv : v < 6) : at0 (rw0 m.nx s) v = mT m s v := by
  have := h.rng s hs v hv
  unfold mT
  omega

/-- The least number up to s of which p holds; s if there is none. -/
def lst (p : Nat → Bool) : Nat → Nat
  | 0 => 0
  | s + 1 => if p (lst p s) then lst p s else s + 1
theorem lst_le (p : Nat → Bool) : ∀ s, lst p s ≤ s
  | 0 => Nat.le_refl _
  | s + 1 => by
    have := lst_le p s
    rw [lst]; split <;> omega
theorem lst_lt_true (p : Nat → Bool) : ∀ s, lst p s < s → p (lst p s) = true
  | 0, h => by omega
  | s + 1, h => by
    rw [lst] at h ⊢
    split
    · assumption
    · rename_i hn; rw [if_neg hn] at h; omega
theorem lst_low (p : Nat → Bool) : ∀ s t, t < lst p s → p t = false
  | 0, t, h => by simp [lst] at h
  | s + 1, t, h => by
    rw [lst] at h
    split at h
    · exact lst_low p s t h
    · rename_i hn
      have hle := lst_le p s
      by_cases ht : t < lst p s
      · exact lst_low p s t ht
      · by_cases he : t = lst p s
        · subst he; simpa using hn
        · -- then lst p s < t ≤ s, so p (lst p s)
          exfalso
          have : p (lst p s) = true := by
            have h3 : lst p s < s := by omega
            exact lst_lt_true p s h3
          exact hn this
theorem lst_true (p : Nat → Bool) (s : Nat) (h : p s = true) : p (lst p s) = true := by
  by_cases hlt : lst p s < s
  · exact lst_lt_true p s hlt
  · have := lst_le p s
    have e : lst p s = s := by omega
    rw [e]; exact h
theorem lst_uniq (p : Nat → Bool) (s r : Nat) (hp : p r = true) (hl : ∀ t, t < r → p t = false) (hs : p s = true) : lst p s = r := by
  have h1 := lst_true p s hs
  have h2 := lst_low p s
  rcases Nat.lt_trichotomy (lst p s) r with h | h | h
  · rw [hl _ h] at h1; cases h1
  · exact h
  · rw [h2 r h] at hp; cases hp
/-- The same from above: the least number met so far, j numbers below s. -/
def dn (p : Nat → Bool) (s : Nat) : Nat → Nat
  | 0 => s
  | j + 1 => if p (s - 1 - j) then s - 1 - j else dn p s j
theorem dn_spec (p : Nat → Bool) (s : Nat) (hs : p s = true) : ∀ j, j ≤ s → p (dn p s j) = true ∧ s - j ≤ dn p s j ∧ dn p s j ≤ s ∧ ∀ t, s - j ≤ t → t < dn p s j → p t = false
  | 0, _ => ⟨hs, by simp [dn], by simp [dn], fun t h1 h2 => by simp [dn] at h2; omega⟩
  | j + 1, hj => by
    obtain ⟨h1, h2, h3, h4⟩ := dn_spec p s hs j (by omega)
    rw [dn]
    split
    · rename_i hp
      exact ⟨hp, by omega, by omega, fun t k1 k2 => by omega⟩
    · rename_i hp
      refine ⟨h1, by omega, h3, fun t k1 k2 => ?_⟩
      by_cases he : t = s - 1 - j
      · subst he; simpa using hp
      · exact h4 t (by omega) k2
theorem dn_lst (p : Nat → Bool) (s : Nat) (hs : p s = true) : dn p s s = lst p s := by
  obtain ⟨h1, h2, h3, h4⟩ := dn_spec p s hs s (Nat.le_refl _)
  exact (lst_uniq p s _ h1 (fun t ht => h4 t (by omega) ht) hs).symm

/-- An equivalence. -/
structure Eqv (e : Nat → Nat → Bool) : Prop where
  rf : ∀ a, e a a = true
  sy : ∀ a b, e a b = true → e b a = true
  tr : ∀ a b c, e a b = true → e b c = true → e a c = true
def clS (e : Nat → Nat → Bool) (s : Nat) : Nat := lst (fun t => e t s) s
theorem clS_le (e : Nat → Nat → Bool) (s : Nat) : clS e s ≤ s := lst_le _ s
theorem clS_same {e : Nat → Nat → Bool} (h : Eqv e) (s : Nat) : e (clS e s) s = true := lst_true (fun t => e t s) s (h.rf s)
theorem clS_min {e : Nat → Nat → Bool} (_h : Eqv e) {s t : Nat} (hts : e t s = true) : clS e s ≤ t := by
  rcases Nat.lt_or_ge t (clS e s) with hlt | hge
  · have := lst_low (fun t => e t s) s t hlt
    rw [hts] at this; cases this
  · exact hge
theorem clS_eq {e : Nat → Nat → Bool} (h : Eqv e) (s t : Nat) : clS e s = clS e t ↔ e s t = true := by
  constructor
  · intro he
    have h1 := clS_same h s
    have h2 := clS_same h t
    rw [he] at h1
    exact h.tr _ _ _ (h.sy _ _ h1) h2
  · intro he
    have h1 := clS_min h (h.tr _ _ _ (clS_same h t) (h.sy _ _ he))
    have h2 := clS_min h (h.tr _ _ _ (clS_same h s) he)
    omega
theorem clS_idem {e : Nat → Nat → Bool} (h : Eqv e) (s : Nat) : clS e (clS e s) = clS e s := (clS_eq h _ _).2 (clS_same h s)
def all6 (p : Nat → Bool) : Bool := p 0 && (p 1 && (p 2 && (p 3 && (p 4 && p 5))))
theorem all6_iff {p : Nat → Bool} : all6 p = true ↔ ∀ v, v < 6 → p v = true := by
  unfold all6
  simp only [Bool.and_eq_true]
  constructor
  · rintro ⟨h0, h1, h2, h3, h4, h5⟩ v hv
    match v, hv with
    | 0, _ => exact h0
    | 1, _ => exact h1
    | 2, _ => exact h2
    | 3, _ => exact h3
    | 4, _ => exact h4
    | 5, _ => exact h5
  · intro h
    exact ⟨h 0 (by omega), h 1 (by omega), h 2 (by omega), h 3 (by omega), h 4 (by omega), h 5 (by omega)⟩
def e0 (m : Mc) (a b : Nat) : Bool := mF m a == mF m b
def eC (m : Mc) (C : Nat → Nat) (a b : Nat) : Bool := (C a == C b) && all6 (fun v => C (mT m a v) == C (mT m b v))
theorem eqv_e0 (m : Mc) : Eqv (e0 m) := ⟨fun a => by simp [e0], fun a b h => by unfold e0 at h ⊢; rw [beq_iff_eq] at h ⊢; exact h.symm, fun a b c h k => by unfold e0 at h k ⊢; rw [beq_iff_eq] at h k ⊢; exact h.trans k⟩
theorem eC_iff {m : Mc} {C : Nat → Nat} {a b : Nat} : eC m C a b = true ↔ C a = C b ∧ ∀ v, v < 6 → C (mT m a v) = C (mT m b v) := by
  unfold eC
  rw [Bool.and_eq_true, all6_iff]
  simp
theorem eqv_eC (m : Mc) (C : Nat → Nat) : Eqv (eC m C) :=
  ⟨fun a => eC_iff.2 ⟨rfl, fun _ _ => rfl⟩, fun a b h => by have := eC_iff.1 h; exact eC_iff.2 ⟨this.1.symm, fun v hv => (this.2 v hv).symm⟩,
   fun a b c h k => by have h := eC_iff.1 h; have k := eC_iff.1 k; exact eC_iff.2 ⟨h.1.trans k.1, fun v hv => (h.2 v hv).trans (k.2 v hv)⟩⟩
/-- The program's classes, round by round. -/
def CC (m : Mc) : Nat → Nat → Nat
  | 0 => fun _ => 0
  | 1 => clS (e0 m)
  | k + 2 => clS (eC m (CC m (k + 1)))
/-- The reference's. -/
def SC (m : Mc) : Nat → Nat → Nat
  | 0 => fun s => if mF m s then 1 else 0
  | k + 1 => clS (eC m (SC m k))
theorem eC_ext {m : Mc} {C D : Nat → Nat} (h : ∀ a b, C a = C b ↔ D a = D b) : eC m C = eC m D := by
  funext a b
  rw [Bool.eq_iff_iff, eC_iff, eC_iff, h]
  constructor
  · rintro ⟨h1, h2⟩; exact ⟨h1, fun v hv => (h _ _).1 (h2 v hv)⟩
  · rintro ⟨h1, h2⟩; exact ⟨h1, fun v hv => (h _ _).2 (h2 v hv)⟩
theorem SC_CC (m : Mc) : ∀ k, SC m (k + 1) = CC m (k + 2)
  | 0 => by
    show clS (eC m (SC m 0)) = clS (eC m (clS (e0 m)))
    rw [eC_ext (C := SC m 0) (D := clS (e0 m))]
    intro a b
    rw [clS_eq (eqv_e0 m)]
    simp only [SC, e0]
    cases mF m a <;> cases mF m b <;> simp
  | k + 1 => by
    show clS (eC m (SC m (k + 1))) = clS (eC m (CC m (k + 2)))
    rw [SC_CC m k]
/-- The equivalence behind round k + 1. -/
def EE (m : Mc) : Nat → Nat → Nat → Bool
  | 0 => e0 m
  | k + 1 => eC m (CC m (k + 1))
theorem CC_succ (m : Mc) (k : Nat) : CC m (k + 1) = clS (EE m k) := by cases k <;> rfl
theorem eqv_EE (m : Mc) (k : Nat) : Eqv (EE m k) := by cases k; exact eqv_e0 m; exact eqv_eC m _
theorem CC_fine (m : Mc) (k a b : Nat) (h : CC m (k + 1) a = CC m (k + 1) b) : CC m k a = CC m k b := by
  rw [CC_succ, clS_eq (eqv_EE m k)] at h
  cases k with
  | zero => rfl
  | succ k => exact (eC_iff.1 h).1
theorem CC_le (m : Mc) (k s : Nat) : CC m k s ≤ s := by
  cases k with
  | zero => exact Nat.zero_le _
  | succ k => rw [CC_succ]; exact clS_le _ _
theorem CC_idem (m : Mc) (k s : Nat) : CC m k (CC m k s) = CC m k s := by
  cases k with
  | zero => rfl
  | succ k => rw [CC_succ]; exact clS_idem (eqv_EE m k) s
theorem CC_low (m : Mc) (k s t : Nat) (h : CC m k t = CC m k s) : CC m k s ≤ t := by rw [← h]; exact CC_le m k t
/-- Two rounds agree on the states. -/
def agr (n : Nat) (C D : Nat → Nat) : Prop := ∀ s, s < n → C s = D s
theorem CC_stay {m : Mc} (hm : MOk m) {k : Nat} (h : agr m.nx.length (CC m (k + 1)) (CC m k)) : agr m.nx.length (CC m (k + 2)) (CC m (k + 1)) := by
  intro s hs
  show clS (eC m (CC m (k + 1))) s = _
  refine lst_uniq _ s _ ?_ ?_ ((eqv_eC m _).rf s)
  · refine eC_iff.2 ⟨CC_idem m _ s, fun v hv => ?_⟩
    have hr : CC m (k + 1) s < m.nx.length := Nat.lt_of_le_of_lt (CC_le m _ s) hs
    rw [h _ (hm.lt hr hv), h _ (hm.lt hs hv)]
    cases k with
    | zero => rfl
    | succ k =>
      have h1 := CC_idem m (k + 2) s
      rw [CC_succ, clS_eq (eqv_EE m _)] at h1
      exact (eC_iff.1 h1).2 v hv
  · intro t ht
    cases he : eC m (CC m (k + 1)) t s with
    | false => rfl
    | true =>
      have := CC_low m (k + 1) s t (eC_iff.1 he).1
      omega
theorem CC_stays {m : Mc} (hm : MOk m) {k : Nat} (h : agr m.nx.length (CC m (k + 1)) (CC m k)) : ∀ j, agr m.nx.length (CC m (k + j + 1)) (CC m (k + j))
  | 0 => h
  | j + 1 => CC_stay hm (CC_stays hm h j)
theorem CC_const {m : Mc} (hm : MOk m) {k : Nat} (h : agr m.nx.length (CC m (k + 1)) (CC m k)) : ∀ j, agr m.nx.length (CC m (k + j)) (CC m k)
  | 0 => fun _ _ => rfl
  | j + 1 => fun s hs => (CC_stays hm h j s hs).trans (CC_const hm h j s hs)
/-- How many classes there are. -/
def reps (n : Nat) (C : Nat → Nat) : Nat := ((List.range n).filter (fun s => C s == s)).length
theorem reps_le (n : Nat) (C : Nat → Nat) : reps n C ≤ n := by
  unfold reps
  have := List.length_filter_le (fun s => C s == s) (List.range n)
  simpa using this
theorem filter_grow {α : Type} (p q : α → Bool) : ∀ (l : List α), (∀ x ∈ l, p x = true → q x = true) → (l.filter p).length ≤ (l.filter q).length ∧ ((∃ x ∈ l, p x = false ∧ q x = true) → (l.filter p).length < (l.filter q).length)
  | [], _ => ⟨by simp, fun ⟨x, hx, _⟩ => by simp at hx⟩
  | a :: l, h => by
    obtain ⟨h1, h2⟩ := filter_grow p q l (fun x hx => h x (by simp [hx]))
    cases hp : p a with
    | true =>
      have hq := h a (by simp) hp
      simp only [List.filter_cons, hp, hq, if_true, List.length_cons]
      refine ⟨by omega, fun ⟨x, hx, e1, e2⟩ => ?_⟩
      rcases List.mem_cons.1 hx with rfl | hx
      · rw [hp] at e1; cases e1
      · have := h2 ⟨x, hx, e1, e2⟩; omega
    | false =>
      cases hq : q a with
      | true =>
        simp [hp, hq]
        omega
      | false =>
        simp only [List.filter_cons, hp, hq]
        refine ⟨by simpa using h1, fun ⟨x, hx, e1, e2⟩ => ?_⟩
        rcases List.mem_cons.1 hx with rfl | hx
        · rw [hq] at e2; cases e2
        · simpa using h2 ⟨x, hx, e1, e2⟩
theorem reps_grow {m : Mc} {k : Nat} (h : ¬ agr m.nx.length (CC m (k + 1)) (CC m k)) : reps m.nx.length (CC m k) < reps m.nx.length (CC m (k + 1)) := by
  have h' : ∃ s, s < m.nx.length ∧ CC m (k + 1) s ≠ CC m k s := by
    simpa [agr] using h
  obtain ⟨s, hs, hne⟩ := h'
  have hsub : ∀ x ∈ List.range m.nx.length, (CC m k x == x) = true → (CC m (k + 1) x == x) = true := by
    intro x _ hx
    rw [beq_iff_eq] at hx ⊢
    have h1 := CC_fine m k _ _ (CC_idem m (k + 1) x)
    have h2 := CC_low m k x _ h1
    have h3 := CC_le m (k + 1) x
    omega
  refine (filter_grow _ _ _ hsub).2 ⟨CC m (k + 1) s, ?_, ?_, ?_⟩
  · have := CC_le m (k + 1) s
    rw [List.mem_range]; omega
  · rw [beq_eq_false_iff_ne]
    intro he
    have h1 := CC_fine m k _ _ (CC_idem m (k + 1) s)
    rw [he] at h1
    exact hne h1
  · rw [beq_iff_eq]; exact CC_idem m (k + 1) s
theorem reps_pos {m : Mc} (hm : MOk m) (k : Nat) : 1 ≤ reps m.nx.length (CC m k) := by
  unfold reps
  refine List.length_pos_iff.2 ?_
  intro h0
  have : (0 : Nat) ∈ (List.range m.nx.length).filter (fun s => CC m k s == s) := by
    rw [List.mem_filter, List.mem_range]
    refine ⟨hm.pos, ?_⟩
    have := CC_le m k 0
    rw [beq_iff_eq]; omega
  rw [h0] at this
  cases this
/-- A list of numbers below n. -/
def fL (n : Nat) (C : Nat → Nat) : List Int := (List.range n).map (fun s => (C s : Int))
theorem fL_len (n : Nat) (C : Nat → Nat) : (fL n C).length = n := by simp [fL]
theorem fL_at (n : Nat) (C : Nat → Nat) {s : Nat} (hs : s < n) : at0 (fL n C) s = C s := by
  unfold at0
  rw [getD_lt _ _ (by rw [fL_len]; exact hs)]
  simp [fL]
theorem fL_ext {n : Nat} {C D : Nat → Nat} (h : agr n C D) : fL n C = fL n D := by
  unfold fL
  refine List.map_congr_left fun s hs => ?_
  rw [h s (List.mem_range.1 hs)]
theorem fL_eq {n : Nat} {C D : Nat → Nat} (h : fL n C = fL n D) : agr n C D := by
  intro s hs
  have h1 := fL_at n C hs
  rw [h, fL_at n D hs] at h1
  omega
/-- The classes. -/
def clF (m : Mc) : Nat → Nat := CC m (m.nx.length + 1)
theorem clF_spec (m : Mc) (hm : MOk m) : clF m = SC m m.nx.length := by
  obtain ⟨n, hn⟩ : ∃ n, m.nx.length = n + 1 := ⟨m.nx.length - 1, by have := hm.pos; omega⟩
  unfold clF
  rw [hn]
  exact (SC_CC m n).symm
/-- The rounds come to rest. -/
theorem CC_rest {m : Mc} (hm : MOk m) : ∃ k, k < m.nx.length ∧ agr m.nx.length (CC m (k + 1)) (CC m k) := by
  by_cases h : ∃ k, k < m.nx.length ∧ agr m.nx.length (CC m (k + 1)) (CC m k)
  · exact h
  · exfalso
    have h' : ∀ k, k < m.nx.length → ¬ agr m.nx.length (CC m (k + 1)) (CC m k) := fun k hk ha => h ⟨k, hk, ha⟩
    have : ∀ k, k ≤ m.nx.length → k + 1 ≤ reps m.nx.length (CC m k) := by
      intro k
      induction k with
      | zero => intro _; exact reps_pos hm 0
      | succ k ih =>
        intro hk
        have h1 := ih (by omega)
        have h2 := reps_grow (h' k (by omega))
        omega
    have h1 := this _ (Nat.le_refl _)
    have h2 := reps_le m.nx.length (CC m m.nx.length)
    omega
theorem clF_of {m : Mc} (hm : MOk m) {k : Nat} (h : agr m.nx.length (CC m (k + 1)) (CC m k)) (hk : k ≤ m.nx.length + 1) : agr m.nx.length (clF m) (CC m k) := by
  have := CC_const hm h (m.nx.length + 1 - k)
  rwa [show k + (m.nx.length + 1 - k) = m.nx.length + 1 by omega] at this
theorem clF_le (m : Mc) (s : Nat) : clF m s ≤ s := CC_le m _ s
theorem clF_idem (m : Mc) (s : Nat) : clF m (clF m s) = clF m s := CC_idem m _ s
/-- Equal classes: both final or neither, and so are the successors'. -/
theorem clF_same {m : Mc} (hm : MOk m) {a b : Nat} (ha : a < m.nx.length) (hb : b < m.nx.length) (h : clF m a = clF m b) : mF m a = mF m b ∧ ∀ v, v < 6 → clF m (mT m a v) = clF m (mT m b v) := by
  obtain ⟨k, hk, hag⟩ := CC_rest hm
  have hst := CC_stays hm hag (m.nx.length + 1 - k)
  rw [show k + (m.nx.length + 1 - k) = m.nx.length + 1 by omega] at hst
  have h2 : CC m (m.nx.length + 2) a = CC m (m.nx.length + 2) b := by rw [hst a ha, hst b hb]; exact h
  constructor
  · have : ∀ j, CC m (j + 1) a = CC m (j + 1) b → CC m 1 a = CC m 1 b := by
      intro j
      induction j with
      | zero => exact id
      | succ j ih => exact fun hh => ih (CC_fine m _ _ _ hh)
    have h1 := this _ h
    rw [CC_succ, clS_eq (eqv_EE m 0)] at h1
    simpa [EE, e0] using h1
  · rw [CC_succ, clS_eq (eqv_EE m _)] at h2
    exact (eC_iff.1 h2).2

/-- Where a word leads. -/
def wT (m : Mc) (s : Nat) : List Nat → Nat
  | [] => s
  | v :: vs => wT m (mT m s v) vs
/-- Some word leads from s to a final state. -/
def Live (m : Mc) (s : Nat) : Prop := ∃ w : List Nat, (∀ v ∈ w, v < 6) ∧ mF m (wT m s w) = true
theorem Live.fin {m : Mc} {s : Nat} (h : mF m s = true) : Live m s := ⟨[], by simp, h⟩
theorem Live.step {m : Mc} {s v : Nat} (hv : v < 6) (h : Live m (mT m s v)) : Live m s := by
  obtain ⟨w, h1, h2⟩ := h
  exact ⟨v :: w, fun u hu => by rcases List.mem_cons.1 hu with rfl | hu; exact hv; exact h1 u hu, h2⟩
theorem Live.class {m : Mc} (hm : MOk m) {a b : Nat} (ha : a < m.nx.length) (hb : b < m.nx.length) (h : clF m a = clF m b) (hl : Live m a) : Live m b := by
  obtain ⟨w, h1, h2⟩ := hl
  refine ⟨w, h1, ?_⟩
  induction w generalizing a b with
  | nil => show mF m b = true; rw [← (clF_same hm ha hb h).1]; exact h2
  | cons v w ih =>
    have hv := h1 v (by simp)
    exact ih (hm.lt ha hv) (hm.lt hb hv) ((clF_same hm ha hb h).2 v hv) (fun u hu => h1 u (by simp [hu])) h2
/-- A set of states that holds the final ones' absence and is closed: none of it is live. -/
theorem dead_of {m : Mc} (hm : MOk m) (D : Nat → Prop) (hf : ∀ s, s < m.nx.length → D s → mF m s = false) (hc : ∀ s, s < m.nx.length → D s → ∀ v, v < 6 → D (mT m s v)) {s : Nat} (hs : s < m.nx.length) (h : D s) : ¬ Live m s := by
  rintro ⟨w, h1, h2⟩
  induction w generalizing s with
  | nil => have := hf s hs h; rw [wT] at h2; rw [h2] at this; cases this
  | cons v w ih =>
    have hv := h1 v (by simp)
    exact ih (hm.lt hs hv) (hc s hs h v hv) (fun u hu => h1 u (by simp [hu])) h2
theorem dead_CC {m : Mc} : ∀ k a b, ¬ Live m a → ¬ Live m b → CC m k a = CC m k b
  | 0, a, b, _, _ => rfl
  | 1, a, b, ha, hb => by
    rw [CC_succ, clS_eq (eqv_EE m 0)]
    have h1 : mF m a = false := by cases h : mF m a; rfl; exact absurd (Live.fin h) ha
    have h2 : mF m b = false := by cases h : mF m b; rfl; exact absurd (Live.fin h) hb
    simp [EE, e0, h1, h2]
  | k + 2, a, b, ha, hb => by
    rw [CC_succ, clS_eq (eqv_EE m _)]
    exact eC_iff.2 ⟨dead_CC (k + 1) a b ha hb, fun v hv => dead_CC (k + 1) _ _ (fun h => ha (h.step hv)) (fun h => hb (h.step hv))⟩
/-- The answers of deadClass. -/
def DeadIs (m : Mc) (d : Int) : Prop := ∀ x, x < m.nx.length → ((clF m x : Int) ≠ d ↔ Live m x)
theorem dead_some {m : Mc} (hm : MOk m) {s : Nat} (hs : s < m.nx.length) (hc : clF m s = s) (hd : ¬ Live m s) : DeadIs m s := by
  intro x hx
  constructor
  · intro hne
    refine Classical.byContradiction fun hn => hne ?_
    have := dead_CC (m.nx.length + 1) x s hn hd
    show ((CC m (m.nx.length + 1) x : Nat) : Int) = s
    rw [this]
    exact congrArg _ hc
  · intro hl he
    have he' : clF m x = s := by exact_mod_cast he
    exact hd (hl.class hm hx hs (he'.trans hc.symm))
theorem dead_none {m : Mc} (hm : MOk m) (h : ∀ s, s < m.nx.length → clF m s = s → Live m s) : DeadIs m (-1) := by
  intro x hx
  constructor
  · intro _
    have hr : clF m x < m.nx.length := Nat.lt_of_le_of_lt (clF_le m x) hx
    exact (h _ hr (clF_idem m x)).class hm hr hx (clF_idem m x)
  · intro _; omega
end Go.Proofs.Ytdiedghaoleblaa
