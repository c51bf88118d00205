/- Machines, in plain Lean: classes of equivalent states, live states, the minimal form. -/
import Derived.Test.YtdiedghaoleblaaAutB
import Derived.Test.YtdiedghaoleblaaUtlA
namespace Go.Proofs.Ytdiedghaoleblaa
open Go.RowKit

/-- A machine: every state has six successors. -/
structure Mc where
  nx : List (List Int)
  fin : List Bool
def mT (m : Mc) (s v : Nat) : Nat := (at0 (rw0 m.nx s) v).toNat
def mF (m : Mc) (s : Nat) : Bool := m.fin.getD s false
structure MOk (m : Mc) : Prop where
  pos : 1 ≤ m.nx.length
  le : m.nx.length ≤ 100
  fl : m.fin.length = m.nx.length
  six : ∀ i, i < m.nx.length → (rw0 m.nx i).length = 6
  rng : ∀ i, i < m.nx.length → ∀ j, j < 6 → 0 ≤ at0 (rw0 m.nx i) j ∧ at0 (rw0 m.nx i) j < m.nx.length
theorem MOk.lt {m : Mc} (h : MOk m) {s v : Nat} (hs : s < m.nx.length) (hv : v < 6) : mT m s v < m.nx.length := by
  have := h.rng s hs v hv
  unfold mT
  omega
theorem MOk.to {m : Mc} (h : MOk m) {s v : Nat} (hs : s < m.nx.length) (hv : v < 6) : at0 (rw0 m.nx s) v = mT m s v := by
  have := h.rng s hs v hv
  unfold mT
  omega

/-- The least number up to s of which p holds; s if there is none. -/
def lst (p : Nat → Bool) : Nat → Nat
  | 0 => 0
  | s + 1 => if p (lst p s) then lst p s else s + 1
theorem lst_le (p : Nat → Bool) : ∀ s, lst p s ≤ s
  | 0 => Nat.le_refl _
  | s + 1 => by
    have := lst_le p s
    rw [lst]; split <;> omega
theorem lst_lt_true (p : Nat → Bool) : ∀ s, lst p s < s → p (lst p s) = true
  | 0, h => by omega
  | s + 1, h => by
    rw [lst] at h ⊢
    split
    · assumption
    · rename_i hn; rw [if_neg hn] at h; omega
theorem lst_low (p : Nat → Bool) : ∀ s t, t < lst p s → p t = false
  | 0, t, h => by simp [lst] at h
  | s + 1, t, h => by
    rw [lst] at h
    split at h
    · exact lst_low p s t h
    · rename_i hn
      have hle := lst_le p s
      by_cases ht : t < lst p s
      · exact lst_low p s t ht
      · by_cases he : t = lst p s
        · subst he; simpa using hn
        · -- then lst p s < t ≤ s, so p (lst p s)
          exfalso
          have : p (lst p s) = true := by
            have h3 : lst p s < s := by omega
            exact lst_lt_true p s h3
          exact hn this
theorem lst_true (p : Nat → Bool) (s : Nat) (h : p s = true) : p (lst p s) = true := by
  by_cases hlt : lst p s < s
  · exact lst_lt_true p s hlt
  · have := lst_le p s
    have e : lst p s = s := by omega
    rw [e]; exact h
theorem lst_uniq (p : Nat → Bool) (s r : Nat) (hp : p r = true) (hl : ∀ t, t < r → p t = false) (hs : p s = true) : lst p s = r := by
  have h1 := lst_true p s hs
  have h2 := lst_low p s
  rcases Nat.lt_trichotomy (lst p s) r with h | h | h
  · rw [hl _ h] at h1; cases h1
  · exact h
  · rw [h2 r h] at hp; cases hp
/-- The same from above: the least number met so far, j numbers below s. -/
def dn (p : Nat → Bool) (s : Nat) : Nat → Nat
  | 0 => s
  | j + 1 => if p (s - 1 - j) then s - 1 - j else dn p s j
theorem dn_spec (p : Nat → Bool) (s : Nat) (hs : p s = true) : ∀ j, j ≤ s → p (dn p s j) = true ∧ s - j ≤ dn p s j ∧ dn p s j ≤ s ∧ ∀ t, s - j ≤ t → t < dn p s j → p t = false
  | 0, _ => ⟨hs, by simp [dn], by simp [dn], fun t h1 h2 => by simp [dn] at h2; omega⟩
  | j + 1, hj => by
    obtain ⟨h1, h2, h3, h4⟩ := dn_spec p s hs j (by omega)
    rw [dn]
    split
    · rename_i hp
      exact ⟨hp, by omega, by omega, fun t k1 k2 => by omega⟩
    · rename_i hp
      refine ⟨h1, by omega, h3, fun t k1 k2 => ?_⟩
      by_cases he : t = s - 1 - j
      · subst he; simpa using hp
      · exact h4 t (by omega) k2
theorem dn_lst (p : Nat → Bool) (s : Nat) (hs : p s = true) : dn p s s = lst p s := by
  obtain ⟨h1, h2, h3, h4⟩ := dn_spec p s hs s (Nat.le_refl _)
  exact (lst_uniq p s _ h1 (fun t ht => h4 t (by omega) ht) hs).symm

/-- An equivalence. -/
structure Eqv (e : Nat → Nat → Bool) : Prop where
  rf : ∀ a, e a a = true
  sy : ∀ a b, e a b = true → e b a = true
  tr : ∀ a b c, e a b = true → e b c = true → e a c = true
def clS (e : Nat → Nat → Bool) (s : Nat) : Nat := lst (fun t => e t s) s
theorem clS_le (e : Nat → Nat → Bool) (s : Nat) : clS e s ≤ s := lst_le _ s
theorem clS_same {e : Nat → Nat → Bool} (h : Eqv e) (s : Nat) : e (clS e s) s = true := lst_true (fun t => e t s) s (h.rf s)
theorem clS_min {e : Nat → Nat → Bool} (_h : Eqv e) {s t : Nat} (hts : e t s = true) : clS e s ≤ t := by
  rcases Nat.lt_or_ge t (clS e s) with hlt | hge
  · have := lst_low (fun t => e t s) s t hlt
    rw [hts] at this; cases this
  · exact hge
theorem clS_eq {e : Nat → Nat → Bool} (h : Eqv e) (s t : Nat) : clS e s = clS e t ↔ e s t = true := by
  constructor
  · intro he
    have h1 := clS_same h s
    have h2 := clS_same h t
    rw [he] at h1
    exact h.tr _ _ _ (h.sy _ _ h1) h2
  · intro he
    have h1 := clS_min h (h.tr _ _ _ (clS_same h t) (h.sy _ _ he))
    have h2 := clS_min h (h.tr _ _ _ (clS_same h s) he)
    omega
theorem clS_idem {e : Nat → Nat → Bool} (h : Eqv e) (s : Nat) : clS e (clS e s) = clS e s := (clS_eq h _ _).2 (clS_same h s)
def all6 (p : Nat → Bool) : Bool := p 0 && (p 1 && (p 2 && (p 3 && (p 4 && p 5))))
theorem all6_iff {p : Nat → Bool} : all6 p = true ↔ ∀ v, v < 6 → p v = true := by
  unfold all6
  simp only [Bool.and_eq_true]
  constructor
  · rintro ⟨h0, h1, h2, h3, h4, h5⟩ v hv
    match v, hv with
    | 0, _ => exact h0
    | 1, _ => exact h1
    | 2, _ => exact h2
    | 3, _ => exact h3
    | 4, _ => exact h4
    | 5, _ => exact h5
  · intro h
    exact ⟨h 0 (by omega), h 1 (by omega), h 2 (by omega), h 3 (by omega), h 4 (by omega), h 5 (by omega)⟩
def e0 (m : Mc) (a b : Nat) : Bool := mF m a == mF m b
def eC (m : Mc) (C : Nat → Nat) (a b : Nat) : Bool := (C a == C b) && all6 (fun v => C (mT m a v) == C (mT m b v))
theorem eqv_e0 (m : Mc) : Eqv (e0 m) := ⟨fun a => by simp [e0], fun a b h => by unfold e0 at h ⊢; rw [beq_iff_eq] at h ⊢; exact h.symm, fun a b c h k => by unfold e0 at h k ⊢; rw [beq_iff_eq] at h k ⊢; exact h.trans k⟩
theorem eC_iff {m : Mc} {C : Nat → Nat} {a b : Nat} : eC m C a b = true ↔ C a = C b ∧ ∀ v, v < 6 → C (mT m a v) = C (mT m b v) := by
  unfold eC
  rw [Bool.and_eq_true, all6_iff]
  simp
theorem eqv_eC (m : Mc) (C : Nat → Nat) : Eqv (eC m C) :=
  ⟨fun a => eC_iff.2 ⟨rfl, fun _ _ => rfl⟩, fun a b h => by have := eC_iff.1 h; exact eC_iff.2 ⟨this.1.symm, fun v hv => (this.2 v hv).symm⟩,
   fun a b c h k => by have h := eC_iff.1 h; have k := eC_iff.1 k; exact eC_iff.2 ⟨h.1.trans k.1, fun v hv => (h.2 v hv).trans (k.2 v hv)⟩⟩
/-- The program's classes, round by round. -/
def CC (m : Mc) : Nat → Nat → Nat
  | 0 => fun _ => 0
  | 1 => clS (e0 m)
  | k + 2 => clS (eC m (CC m (k + 1)))
/-- The reference's. -/
def SC (m : Mc) : Nat → Nat → Nat
  | 0 => fun s => if mF m s then 1 else 0
  | k + 1 => clS (eC m (SC m k))
theorem eC_ext {m : Mc} {C D : Nat → Nat} (h : ∀ a b, C a = C b ↔ D a = D b) : eC m C = eC m D := by
  funext a b
  rw [Bool.eq_iff_iff, eC_iff, eC_iff, h]
  constructor
  · rintro ⟨h1, h2⟩; exact ⟨h1, fun v hv => (h _ _).1 (h2 v hv)⟩
  · rintro ⟨h1, h2⟩; exact ⟨h1, fun v hv => (h _ _).2 (h2 v hv)⟩
theorem SC_CC (m : Mc) : ∀ k, SC m (k + 1) = CC m (k + 2)
  | 0 => by
    show clS (eC m (SC m 0)) = clS (eC m (clS (e0 m)))
    rw [eC_ext (C := SC m 0) (D := clS (e0 m))]
    intro a b
    rw [clS_eq (eqv_e0 m)]
    simp only [SC, e0]
    cases mF m a <;> cases mF m b <;> simp
  | k + 1 => by
    show clS (eC m (SC m (k + 1))) = clS (eC m (CC m (k + 2)))
    rw [SC_CC m k]
/-- The equivalence behind round k + 1. -/
def EE (m : Mc) : Nat → Nat → Nat → Bool
  | 0 => e0 m
  | k + 1 => eC m (CC m (k + 1))
theorem CC_succ (m : Mc) (k : Nat) : CC m (k + 1) = clS (EE m k) := by cases k <;> rfl
theorem eqv_EE (m : Mc) (k : Nat) : Eqv (EE m k) := by cases k; exact eqv_e0 m; exact eqv_eC m _
theorem CC_fine (m : Mc) (k a b : Nat) (h : CC m (k + 1) a = CC m (k + 1) b) : CC m k a = CC m k b := by
  rw [CC_succ, clS_eq (eqv_EE m k)] at h
  cases k with
  | zero => rfl
  | succ k => exact (eC_iff.1 h).1
theorem CC_le (m : Mc) (k s : Nat) : CC m k s ≤ s := by
  cases k with
  | zero => exact Nat.zero_le _
  | succ k => rw [CC_succ]; exact clS_le _ _
theorem CC_idem (m : Mc) (k s : Nat) : CC m k (CC m k s) = CC m k s := by
  cases k with
  | zero => rfl
  | succ k => rw [CC_succ]; exact clS_idem (eqv_EE m k) s
theorem CC_low (m : Mc) (k s t : Nat) (h : CC m k t = CC m k s) : CC m k s ≤ t := by rw [← h]; exact CC_le m k t
/-- Two rounds agree on the states. -/
def agr (n : Nat) (C D : Nat → Nat) : Prop := ∀ s, s < n → C s = D s
theorem CC_stay {m : Mc} (hm : MOk m) {k : Nat} (h : agr m.nx.length (CC m (k + 1)) (CC m k)) : agr m.nx.length (CC m (k + 2)) (CC m (k + 1)) := by
  intro s hs
  show clS (eC m (CC m (k + 1))) s = _
  refine lst_uniq _ s _ ?_ ?_ ((eqv_eC m _).rf s)
  · refine eC_iff.2 ⟨CC_idem m _ s, fun v hv => ?_⟩
    have hr : CC m (k + 1) s < m.nx.length := Nat.lt_of_le_of_lt (CC_le m _ s) hs
    rw [h _ (hm.lt hr hv), h _ (hm.lt hs hv)]
    cases k with
    | zero => rfl
    | succ k =>
      have h1 := CC_idem m (k + 2) s
      rw [CC_succ, clS_eq (eqv_EE m _)] at h1
      exact (eC_iff.1 h1).2 v hv
  · intro t ht
    cases he : eC m (CC m (k + 1)) t s with
    | false => rfl
    | true =>
      have := CC_low m (k + 1) s t (eC_iff.1 he).1
      omega
theorem CC_stays {m : Mc} (hm : MOk m) {k : Nat} (h : agr m.nx.length (CC m (k + 1)) (CC m k)) : ∀ j, agr m.nx.length (CC m (k + j + 1)) (CC m (k + j))
  | 0 => h
  | j + 1 => CC_stay hm (CC_stays hm h j)
theorem CC_const {m : Mc} (hm : MOk m) {k : Nat} (h : agr m.nx.length (CC m (k + 1)) (CC m k)) : ∀ j, agr m.nx.length (CC m (k + j)) (CC m k)
  | 0 => fun _ _ => rfl
  | j + 1 => fun s hs => (CC_stays hm h j s hs).trans (CC_const hm h j s hs)
/-- How many classes there are. -/
def reps (n : Nat) (C : Nat → Nat) : Nat := ((List.range n).filter (fun s => C s == s)).length
theorem reps_le (n : Nat) (C : Nat → Nat) : reps n C ≤ n := by
  unfold reps
  have := List.length_filter_le (fun s => C s == s) (List.range n)
  simpa using this
theorem filter_grow {α : Type} (p q : α → Bool) : ∀ (l : List α), (∀ x ∈ l, p x = true → q x = true) → (l.filter p).length ≤ (l.filter q).length ∧ ((∃ x ∈ l, p x = false ∧ q x = true) → (l.filter p).length < (l.filter q).length)
  | [], _ => ⟨by simp, fun ⟨x, hx, _⟩ => by simp at hx⟩
  | a :: l, h => by
    obtain ⟨h1, h2⟩ := filter_grow p q l (fun x hx => h x (by simp [hx]))
    cases hp : p a with
    | true =>
      have hq := h a (by simp) hp
      simp only [List.filter_cons, hp, hq, if_true, List.length_cons]
      refine ⟨by omega, fun ⟨x, hx, e1, e2⟩ => ?_⟩
      rcases List.mem_cons.1 hx with rfl | hx
      · rw [hp] at e1; cases e1
      · have := h2 ⟨x, hx, e1, e2⟩; omega
    | false =>
      cases hq : q a with
      | true =>
        simp [hp, hq]
        omega
      | false =>
        simp only [List.filter_cons, hp, hq]
        refine ⟨by simpa using h1, fun ⟨x, hx, e1, e2⟩ => ?_⟩
        rcases List.mem_cons.1 hx with rfl | hx
        · rw [hq] at e2; cases e2
        · simpa using h2 ⟨x, hx, e1, e2⟩
theorem reps_grow {m : Mc} {k : Nat} (h : ¬ agr m.nx.length (CC m (k + 1)) (CC m k)) : reps m.nx.length (CC m k) < reps m.nx.length (CC m (k + 1)) := by
  have h' : ∃ s, s < m.nx.length ∧ CC m (k + 1) s ≠ CC m k s := by
    simpa [agr] using h
  obtain ⟨s, hs, hne⟩ := h'
  have hsub : ∀ x ∈ List.range m.nx.length, (CC m k x == x) = true → (CC m (k + 1) x == x) = true := by
    intro x _ hx
    rw [beq_iff_eq] at hx ⊢
    have h1 := CC_fine m k _ _ (CC_idem m (k + 1) x)
    have h2 := CC_low m k x _ h1
    have h3 := CC_le m (k + 1) x
    omega
  refine (filter_grow _ _ _ hsub).2 ⟨CC m (k + 1) s, ?_, ?_, ?_⟩
  · have := CC_le m (k + 1) s
    rw [List.mem_range]; omega
  · rw [beq_eq_false_iff_ne]
    intro he
    have h1 := CC_fine m k _ _ (CC_idem m (k + 1) s)
    rw [he] at h1
    exact hne h1
  · rw [beq_iff_eq]; exact CC_idem m (k + 1) s
theorem reps_pos {m : Mc} (hm : MOk m) (k : Nat) : 1 ≤ reps m.nx.length (CC m k) := by
  unfold reps
  refine List.length_pos_iff.2 ?_
  intro h0
  have : (0 : Nat) ∈ (List.range m.nx.length).filter (fun s => CC m k s == s) := by
    rw [List.mem_filter, List.mem_range]
    refine ⟨hm.pos, ?_⟩
    have := CC_le m k 0
    rw [beq_iff_eq]; omega
  rw [h0] at this
  cases this
/-- A list of numbers below n. -/
def fL (n : Nat) (C : Nat → Nat) : List Int := (List.range n).map (fun s => (C s : Int))
theorem fL_len (n : Nat) (C : Nat → Nat) : (fL n C).length = n := by simp [fL]
theorem fL_at (n : Nat) (C : Nat → Nat) {s : Nat} (hs : s < n) : at0 (fL n C) s = C s := by
  unfold at0
  rw [getD_lt _ _ (by rw [fL_len]; exact hs)]
  simp [fL]
theorem fL_ext {n : Nat} {C D : Nat → Nat} (h : agr n C D) : fL n C = fL n D := by
  unfold fL
  refine List.map_congr_left fun s hs => ?_
  rw [h s (List.mem_range.1 hs)]
theorem fL_eq {n : Nat} {C D : Nat → Nat} (h : fL n C = fL n D) : agr n C D := by
  intro s hs
  have h1 := fL_at n C hs
  rw [h, fL_at n D hs] at h1
  omega
/-- The classes. -/
def clF (m : Mc) : Nat → Nat := CC m (m.nx.length + 1)
theorem clF_spec (m : Mc) (hm : MOk m) : clF m = SC m m.nx.length := by
  obtain ⟨n, hn⟩ : ∃ n, m.nx.length = n + 1 := ⟨m.nx.length - 1, by have := hm.pos; omega⟩
  unfold clF
  rw [hn]
  exact (SC_CC m n).symm
/-- The rounds come to rest. -/
theorem CC_rest {m : Mc} (hm : MOk m) : ∃ k, k < m.nx.length ∧ agr m.nx.length (CC m (k + 1)) (CC m k) := by
  by_cases h : ∃ k, k < m.nx.length ∧ agr m.nx.length (CC m (k + 1)) (CC m k)
  · exact h
  · exfalso
    have h' : ∀ k, k < m.nx.length → ¬ agr m.nx.length (CC m (k + 1)) (CC m k) := fun k hk ha => h ⟨k, hk, ha⟩
    have : ∀ k, k ≤ m.nx.length → k + 1 ≤ reps m.nx.length (CC m k) := by
      intro k
      induction k with
      | zero => intro _; exact reps_pos hm 0
      | succ k ih =>
        intro hk
        have h1 := ih (by omega)
        have h2 := reps_grow (h' k (by omega))
        omega
    have h1 := this _ (Nat.le_refl _)
    have h2 := reps_le m.nx.length (CC m m.nx.length)
    omega
theorem clF_of {m : Mc} (hm : MOk m) {k : Nat} (h : agr m.nx.length (CC m (k + 1)) (CC m k)) (hk : k ≤ m.nx.length + 1) : agr m.nx.length (clF m) (CC m k) := by
  have := CC_const hm h (m.nx.length + 1 - k)
  rwa [show k + (m.nx.length + 1 - k) = m.nx.length + 1 by omega] at this
theorem clF_le (m : Mc) (s : Nat) : clF m s ≤ s := CC_le m _ s
theorem clF_idem (m : Mc) (s : Nat) : clF m (clF m s) = clF m s := CC_idem m _ s
/-- Equal classes: both final or neither, and so are the successors'. -/
theorem clF_same {m : Mc} (hm : MOk m) {a b : Nat} (ha : a < m.nx.length) (hb : b < m.nx.length) (h : clF m a = clF m b) : mF m a = mF m b ∧ ∀ v, v < 6 → clF m (mT m a v) = clF m (mT m b v) := by
  obtain ⟨k, hk, hag⟩ := CC_rest hm
  have hst := CC_stays hm hag (m.nx.length + 1 - k)
  rw [show k + (m.nx.length + 1 - k) = m.nx.length + 1 by omega] at hst
  have h2 : CC m (m.nx.length + 2) a = CC m (m.nx.length + 2) b := by rw [hst a ha, hst b hb]; exact h
  constructor
  · have : ∀ j, CC m (j + 1) a = CC m (j + 1) b → CC m 1 a = CC m 1 b := by
      intro j
      induction j with
      | zero => exact id
      | succ j ih => exact fun hh => ih (CC_fine m _ _ _ hh)
    have h1 := this _ h
    rw [CC_succ, clS_eq (eqv_EE m 0)] at h1
    simpa [EE, e0] using h1
  · rw [CC_succ, clS_eq (eqv_EE m _)] at h2
    exact (eC_iff.1 h2).2

/-- Where a word leads. -/
def wT (m : Mc) (s : Nat) : List Nat → Nat
  | [] => s
  | v :: vs => wT m (mT m s v) vs
/-- Some word leads from s to a final state. -/
def Live (m : Mc) (s : Nat) : Prop := ∃ w : List Nat, (∀ v ∈ w, v < 6) ∧ mF m (wT m s w) = true
theorem Live.fin {m : Mc} {s : Nat} (h : mF m s = true) : Live m s := ⟨[], by simp, h⟩
theorem Live.step {m : Mc} {s v : Nat} (hv : v < 6) (h : Live m (mT m s v)) : Live m s := by
  obtain ⟨w, h1, h2⟩ := h
  exact ⟨v :: w, fun u hu => by rcases List.mem_cons.1 hu with rfl | hu; exact hv; exact h1 u hu, h2⟩
theorem Live.class {m : Mc} (hm : MOk m) {a b : Nat} (ha : a < m.nx.length) (hb : b < m.nx.length) (h : clF m a = clF m b) (hl : Live m a) : Live m b := by
  obtain ⟨w, h1, h2⟩ := hl
  refine ⟨w, h1, ?_⟩
  induction w generalizing a b with
  | nil => show mF m b = true; rw [← (clF_same hm ha hb h).1]; exact h2
  | cons v w ih =>
    have hv := h1 v (by simp)
    exact ih (hm.lt ha hv) (hm.lt hb hv) ((clF_same hm ha hb h).2 v hv) (fun u hu => h1 u (by simp [hu])) h2
/-- A set of states that holds the final ones' absence and is closed: none of it is live. -/
theorem dead_of {m : Mc} (hm : MOk m) (D : Nat → Prop) (hf : ∀ s, s < m.nx.length → D s → mF m s = false) (hc : ∀ s, s < m.nx.length → D s → ∀ v, v < 6 → D (mT m s v)) {s : Nat} (hs : s < m.nx.length) (h : D s) : ¬ Live m s := by
  rintro ⟨w, h1, h2⟩
  induction w generalizing s with
  | nil => have := hf s hs h; rw [wT] at h2; rw [h2] at this; cases this
  | cons v w ih =>
    have hv := h1 v (by simp)
    exact ih (hm.lt hs hv) (hc s hs h v hv) (fun u hu => h1 u (by simp [hu])) h2
theorem dead_CC {m : Mc} : ∀ k a b, ¬ Live m a → ¬ Live m b → CC m k a = CC m k b
  | 0, a, b, _, _ => rfl
  | 1, a, b, ha, hb => by
    rw [CC_succ, clS_eq (eqv_EE m 0)]
    have h1 : mF m a = false := by cases h : mF m a; rfl; exact absurd (Live.fin h) ha
    have h2 : mF m b = false := by cases h : mF m b; rfl; exact absurd (Live.fin h) hb
    simp [EE, e0, h1, h2]
  | k + 2, a, b, ha, hb => by
    rw [CC_succ, clS_eq (eqv_EE m _)]
    exact eC_iff.2 ⟨dead_CC (k + 1) a b ha hb, fun v hv => dead_CC (k + 1) _ _ (fun h => ha (h.step hv)) (fun h => hb (h.step hv))⟩
/-- The answers of deadClass. -/
def DeadIs (m : Mc) (d : Int) : Prop := ∀ x, x < m.nx.length → ((clF m x : Int) ≠ d ↔ Live m x)
theorem dead_some {m : Mc} (hm : MOk m) {s : Nat} (hs : s < m.nx.length) (hc : clF m s = s) (hd : ¬ Live m s) : DeadIs m s := by
  intro x hx
  constructor
  · intro hne
    refine Classical.byContradiction fun hn => hne ?_
    have := dead_CC (m.nx.length + 1) x s hn hd
    show ((CC m (m.nx.length + 1) x : Nat) : Int) = s
    rw [this]
    exact congrArg _ hc
  · intro hl he
    have he' : clF m x = s := by exact_mod_cast he
    exact hd (hl.class hm hx hs (he'.trans hc.symm))
theorem dead_none {m : Mc} (hm : MOk m) (h : ∀ s, s < m.nx.length → clF m s = s → Live m s) : DeadIs m (-1) := by
  intro x hx
  constructor
  · intro _
    have hr : clF m x < m.nx.length := Nat.lt_of_le_of_lt (clF_le m x) hx
    exact (h _ hr (clF_idem m x)).class hm hr hx (clF_idem m x)
  · intro _; omega
end Go.Proofs.Ytdiedghaoleblaa
/- The minimal form of a machine, in plain Lean: a search through the live classes. -/
namespace Go.Proofs.Ytdiedghaoleblaa
open Go.RowKit

/-- Where x first stands in the list, from place i on; -1 if it does not. -/
def plc (xs : List Int) (x : Int) : Int := fidx (fun i => x == at0 xs i) xs.length
/-- The classes met when the first v successors of s have been looked at. -/
def pMet (m : Mc) (L : Nat → Bool) (C : Nat → Nat) (met : List Int) (s : Nat) : Nat → List Int
  | 0 => met
  | v + 1 =>
    let met' := pMet m L C met s v
    if L (mT m s v) && !met'.contains (C (mT m s v) : Int) then met' ++ [(C (mT m s v) : Int)] else met'
/-- The new row's v-th number. -/
def pRow (m : Mc) (L : Nat → Bool) (C : Nat → Nat) (met : List Int) (s v : Nat) : Int :=
  if L (mT m s v) then plc (pMet m L C met s (v + 1)) (C (mT m s v)) else -1
def pRowL (m : Mc) (L : Nat → Bool) (C : Nat → Nat) (met : List Int) (s : Nat) : List Int := (List.range 6).map (pRow m L C met s)
structure MSt where
  met : List Int
  rows : List (List Int)
  fins : List Int
/-- What the search knows when i classes have been looked at. -/
def mSt (m : Mc) (L : Nat → Bool) (C : Nat → Nat) : Nat → MSt
  | 0 => ⟨[(C 0 : Int)], [], []⟩
  | i + 1 =>
    let S := mSt m L C i
    if i < S.met.length then
      let s := (at0 S.met i).toNat
      ⟨pMet m L C S.met s 6, S.rows ++ [pRowL m L C S.met s], if mF m s then S.fins ++ [(i : Int)] else S.fins⟩
    else S
theorem pMet_congr {m : Mc} (hm : MOk m) {L L' : Nat → Bool} {C C' : Nat → Nat} (hL : ∀ x, x < m.nx.length → L x = L' x) (hC : agr m.nx.length C C') (met : List Int) {s : Nat} (hs : s < m.nx.length) :
    ∀ v, v ≤ 6 → pMet m L C met s v = pMet m L' C' met s v
  | 0, _ => rfl
  | v + 1, hv => by
    have hx := hm.lt hs (show v < 6 by omega)
    rw [pMet, pMet, pMet_congr hm hL hC met hs v (by omega), hL _ hx, hC _ hx]
/-- The list of classes: no class twice, each below n; the first is that of state 0. -/
structure MetOk (n : Nat) (xs : List Int) : Prop where
  nd : xs.Nodup
  rg : ∀ x ∈ xs, 0 ≤ x ∧ x < n
theorem MetOk.at_ {n : Nat} {xs : List Int} (h : MetOk n xs) {i : Nat} (hi : i < xs.length) : 0 ≤ at0 xs i ∧ at0 xs i < n := h.rg _ (at0_mem hi)
theorem MetOk.snoc {n : Nat} {xs : List Int} (h : MetOk n xs) {x : Int} (hx : 0 ≤ x ∧ x < n) (hn : xs.contains x = false) : MetOk n (xs ++ [x]) := by
  refine ⟨?_, fun y hy => ?_⟩
  · rw [List.nodup_append]
    refine ⟨h.nd, by simp, fun a ha b hb => ?_⟩
    rw [List.mem_singleton] at hb
    subst hb
    intro e; subst e
    have : xs.contains a = true := by simpa using ha
    rw [hn] at this; cases this
  · rcases List.mem_append.1 hy with hy | hy
    · exact h.rg y hy
    · rw [List.mem_singleton] at hy; subst hy; exact hx
theorem nodup_lt : ∀ (n : Nat) (l : List Int), l.Nodup → (∀ x ∈ l, 0 ≤ x ∧ x < (n : Int)) → l.length ≤ n
  | 0, l, _, h => by
    cases l with
    | nil => simp
    | cons a l => have := h a (by simp); omega
  | n + 1, l, hn, h => by
    by_cases hm : (n : Int) ∈ l
    · have h1 := nodup_lt n (l.erase n) (hn.erase _) (fun x hx => by
        have := (hn.mem_erase_iff).1 hx
        have h2 := h x this.2
        have h3 := this.1
        omega)
      rw [List.length_erase_of_mem hm] at h1
      omega
    · have := nodup_lt n l hn (fun x hx => by
        have h2 := h x hx
        have h3 : x ≠ n := fun e => hm (e ▸ hx)
        omega)
      omega
theorem MetOk.len {n : Nat} {xs : List Int} (h : MetOk n xs) : xs.length ≤ n := nodup_lt n xs h.nd h.rg
theorem pMet_ok {m : Mc} (hm : MOk m) (L : Nat → Bool) {C : Nat → Nat} (hC : ∀ x, C x ≤ x) {met : List Int} (h : MetOk m.nx.length met) {s : Nat} (hs : s < m.nx.length) :
    ∀ v, v ≤ 6 → MetOk m.nx.length (pMet m L C met s v)
  | 0, _ => h
  | v + 1, hv => by
    have ih := pMet_ok hm L hC h hs v (by omega)
    have hx := hm.lt hs (show v < 6 by omega)
    have := hC (mT m s v)
    rw [pMet]
    split
    · rename_i hc
      simp only [Bool.and_eq_true, Bool.not_eq_true'] at hc
      exact ih.snoc (by omega) hc.2
    · exact ih
theorem pMet_pre (m : Mc) (L : Nat → Bool) (C : Nat → Nat) (met : List Int) (s : Nat) : ∀ v, ∃ ys, pMet m L C met s v = met ++ ys
  | 0 => ⟨[], by simp [pMet]⟩
  | v + 1 => by
    obtain ⟨ys, e⟩ := pMet_pre m L C met s v
    rw [pMet]
    split
    · exact ⟨ys ++ [(C (mT m s v) : Int)], by rw [e, List.append_assoc]⟩
    · exact ⟨ys, e⟩
theorem mSt_ok {m : Mc} (hm : MOk m) (L : Nat → Bool) {C : Nat → Nat} (hC : ∀ x, C x ≤ x) : ∀ i, MetOk m.nx.length (mSt m L C i).met
  | 0 => ⟨by simp [mSt], fun x hx => by
      have h0 := hC 0
      have h1 := hm.pos
      simp [mSt] at hx
      subst hx; omega⟩
  | i + 1 => by
    have ih := mSt_ok hm L hC i
    rw [mSt]
    simp only
    split
    · rename_i hlt
      have := ih.at_ hlt
      exact pMet_ok hm L hC ih (by omega) 6 (by omega)
    · exact ih
theorem mSt_len {m : Mc} (hm : MOk m) (L : Nat → Bool) {C : Nat → Nat} (hC : ∀ x, C x ≤ x) (i : Nat) : (mSt m L C i).met.length ≤ m.nx.length := (mSt_ok hm L hC i).len
theorem mSt_stop {m : Mc} {L : Nat → Bool} {C : Nat → Nat} {i : Nat} (h : (mSt m L C i).met.length ≤ i) : ∀ j, mSt m L C (i + j) = mSt m L C i
  | 0 => rfl
  | j + 1 => by
    have ih := mSt_stop h j
    show mSt m L C (i + j + 1) = _
    rw [mSt]
    simp only
    rw [ih, if_neg (by omega)]
/-- The end of the search. -/
def mEnd (m : Mc) (L : Nat → Bool) (C : Nat → Nat) : MSt := mSt m L C m.nx.length
theorem mEnd_of {m : Mc} (hm : MOk m) {L : Nat → Bool} {C : Nat → Nat} (hC : ∀ x, C x ≤ x) {i : Nat} (hi : i = (mSt m L C i).met.length) : mSt m L C i = mEnd m L C := by
  have hle := mSt_len hm L hC i
  have := mSt_stop (m := m) (L := L) (C := C) (i := i) (by omega) (m.nx.length - i)
  rw [show i + (m.nx.length - i) = m.nx.length by omega] at this
  exact this.symm
theorem mSt_rows {m : Mc} (L : Nat → Bool) (C : Nat → Nat) : ∀ i, (∀ k, k < i → k < (mSt m L C k).met.length) → (mSt m L C i).rows.length = i
  | 0, _ => rfl
  | i + 1, h => by
    rw [mSt]
    simp only
    rw [if_pos (h i (by omega)), List.length_append, mSt_rows L C i (fun k hk => h k (by omega))]
    simp
theorem mSt_congr {m : Mc} (hm : MOk m) {L L' : Nat → Bool} {C C' : Nat → Nat} (hL : ∀ x, x < m.nx.length → L x = L' x) (hC : agr m.nx.length C C') (hCl : ∀ x, C x ≤ x) : ∀ i, mSt m L C i = mSt m L' C' i
  | 0 => by rw [mSt, mSt, hC 0 hm.pos]
  | i + 1 => by
    have ih := mSt_congr hm hL hC hCl i
    rw [mSt, mSt, ← ih]
    simp only
    split
    · rename_i hlt
      have h1 := (mSt_ok hm L hCl i).at_ hlt
      have hs : (at0 (mSt m L C i).met i).toNat < m.nx.length := by omega
      have hp := pMet_congr hm hL hC (mSt m L C i).met hs
      rw [hp 6 (by omega)]
      have hr : pRowL m L C (mSt m L C i).met (at0 (mSt m L C i).met i).toNat = pRowL m L' C' (mSt m L C i).met (at0 (mSt m L C i).met i).toNat := by
        unfold pRowL
        refine List.map_congr_left fun v hv => ?_
        have hv6 : v < 6 := List.mem_range.1 hv
        have hx := hm.lt hs hv6
        unfold pRow
        rw [hL _ hx, hC _ hx, hp (v + 1) (by omega)]
      rw [hr]
    · rfl
theorem mEnd_congr {m : Mc} (hm : MOk m) {L L' : Nat → Bool} {C C' : Nat → Nat} (hL : ∀ x, x < m.nx.length → L x = L' x) (hC : agr m.nx.length C C') (hCl : ∀ x, C x ≤ x) : mEnd m L C = mEnd m L' C' := mSt_congr hm hL hC hCl _
theorem contains_iff (xs : List Int) (x : Int) : xs.contains x = true ↔ x ∈ xs := by simp
theorem fidx_rg (p : Nat → Bool) (n : Nat) : -1 ≤ fidx p n ∧ fidx p n < n + 0 ∨ fidx p n = -1 := by
  unfold fidx
  cases h : (List.range n).find? p with
  | none => right; rfl
  | some i =>
    left
    have := List.mem_of_find?_eq_some h
    rw [List.mem_range] at this
    show -1 ≤ (i : Int) ∧ (i : Int) < n + 0
    omega
theorem plc_rg {xs : List Int} {x : Int} : -1 ≤ plc xs x ∧ plc xs x < xs.length ∨ plc xs x = -1 := by
  have := fidx_rg (fun i => x == at0 xs i) xs.length
  unfold plc
  omega
theorem pRowL_len (m : Mc) (L : Nat → Bool) (C : Nat → Nat) (met : List Int) (s : Nat) : (pRowL m L C met s).length = 6 := by simp [pRowL]
theorem pRowL_at (m : Mc) (L : Nat → Bool) (C : Nat → Nat) (met : List Int) (s : Nat) {v : Nat} (hv : v < 6) : at0 (pRowL m L C met s) v = pRow m L C met s v := by
  unfold at0
  rw [getD_lt _ _ (by rw [pRowL_len]; exact hv)]
  simp [pRowL]
theorem pMet_len_mono (m : Mc) (L : Nat → Bool) (C : Nat → Nat) (met : List Int) (s v : Nat) : (pMet m L C met s v).length ≤ (pMet m L C met s (v + 1)).length := by
  rw [pMet]; split <;> simp
theorem pMet_len_le (m : Mc) (L : Nat → Bool) (C : Nat → Nat) (met : List Int) (s : Nat) : ∀ j v, (pMet m L C met s v).length ≤ (pMet m L C met s (v + j)).length
  | 0, _ => Nat.le_refl _
  | j + 1, v => Nat.le_trans (pMet_len_le m L C met s j v) (pMet_len_mono m L C met s (v + j))
/-- The rows' numbers are places of classes met, or -1. -/
theorem pRow_rg (m : Mc) (L : Nat → Bool) (C : Nat → Nat) (met : List Int) (s : Nat) {v : Nat} (hv : v < 6) : -1 ≤ pRow m L C met s v ∧ pRow m L C met s v < (pMet m L C met s 6).length := by
  unfold pRow
  have h2 := pMet_len_le m L C met s (6 - (v + 1)) (v + 1)
  rw [show v + 1 + (6 - (v + 1)) = 6 by omega] at h2
  split
  · have := plc_rg (xs := pMet m L C met s (v + 1)) (x := (C (mT m s v) : Int))
    omega
  · omega
/-- The automaton that the search makes is well-formed. -/
structure MRes (m : Mc) (S : MSt) (i : Nat) : Prop where
  len : S.rows.length ≤ i
  fl : S.fins.length ≤ i
  row : ∀ k, k < S.rows.length → (rw0 S.rows k).length = 6 ∧ ∀ j, j < 6 → -1 ≤ at0 (rw0 S.rows k) j ∧ at0 (rw0 S.rows k) j < S.met.length
  fin : ∀ k, k < S.fins.length → 0 ≤ at0 S.fins k ∧ at0 S.fins k < i
theorem rw0_snoc (rs : List (List Int)) (r : List Int) : rw0 (rs ++ [r]) rs.length = r := by simp [rw0]
theorem rw0_snoc_lt (rs : List (List Int)) (r : List Int) {i : Nat} (h : i < rs.length) : rw0 (rs ++ [r]) i = rw0 rs i := by simp [rw0, List.getElem?_append_left h]
theorem at0_snoc (xs : List Int) (x : Int) : at0 (xs ++ [x]) xs.length = x := by simp [at0]
theorem at0_snoc_lt (xs : List Int) (x : Int) {i : Nat} (h : i < xs.length) : at0 (xs ++ [x]) i = at0 xs i := by simp [at0, List.getElem?_append_left h]
theorem mSt_res (m : Mc) (L : Nat → Bool) (C : Nat → Nat) : ∀ i, MRes m (mSt m L C i) i
  | 0 => ⟨by simp [mSt], by simp [mSt], fun k hk => by simp [mSt] at hk, fun k hk => by simp [mSt] at hk⟩
  | i + 1 => by
    have ih := mSt_res m L C i
    rw [mSt]
    simp only
    split
    · rename_i hlt
      obtain ⟨ys, hys⟩ := pMet_pre m L C (mSt m L C i).met (at0 (mSt m L C i).met i).toNat 6
      refine ⟨?_, ?_, fun k hk => ?_, ?_⟩
      · have := ih.len; simp; omega
      · have := ih.fl; simp only; split <;> simp <;> omega
      · simp only [List.length_append, List.length_singleton] at hk
        by_cases hkl : k < (mSt m L C i).rows.length
        · simp only
          rw [rw0_snoc_lt _ _ hkl]
          obtain ⟨h1, h2⟩ := ih.row k hkl
          refine ⟨h1, fun j hj => ?_⟩
          have := h2 j hj
          rw [hys, List.length_append]; omega
        · obtain rfl : k = (mSt m L C i).rows.length := by omega
          simp only
          rw [rw0_snoc]
          refine ⟨pRowL_len .., fun j hj => ?_⟩
          rw [pRowL_at m L C _ _ hj]
          exact pRow_rg m L C _ _ hj
      · intro k hk
        simp only at hk ⊢
        split at hk
        · rename_i hf
          rw [if_pos hf]
          simp only [List.length_append, List.length_singleton] at hk
          by_cases hkl : k < (mSt m L C i).fins.length
          · rw [at0_snoc_lt _ _ hkl]
            have := ih.fin k hkl; omega
          · obtain rfl : k = (mSt m L C i).fins.length := by omega
            rw [at0_snoc]; omega
        · rename_i hf
          rw [if_neg hf]
          have := ih.fin k hk; omega
    · exact ⟨by have := ih.len; omega, by have := ih.fl; omega, ih.row, fun k hk => by have := ih.fin k hk; omega⟩
end Go.Proofs.Ytdiedghaoleblaa
