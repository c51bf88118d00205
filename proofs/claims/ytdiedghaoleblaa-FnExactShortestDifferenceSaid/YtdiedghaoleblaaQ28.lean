/- The search for a shortest word that a machine accepts, in plain Lean. -/
import Derived.Test.YtdiedghaoleblaaQ17
namespace Go.Proofs.Ytdiedghaoleblaa
open Go.RowKit

/-- States found and words that lead to them. -/
structure Sd where
  st : List Int
  ws : List (List Int)
/-- Letter v is tried at state s, to which word w leads. -/
def sdP (m : Mc) (s : Nat) (w : List Int) (T : Sd) (v : Nat) : Sd := if (mT m s v : Int) ∈ T.st then T else ⟨T.st ++ [(mT m s v : Int)], T.ws ++ [w ++ [(v : Int)]]⟩
def sdV (m : Mc) (s : Nat) (w : List Int) (S : Sd) : Nat → Sd
  | 0 => S
  | v + 1 => sdP m s w (sdV m s w S v) v
/-- What is found when i states have been looked at. -/
def sdK (m : Mc) : Nat → Sd
  | 0 => ⟨[0], [[]]⟩
  | i + 1 => if i < (sdK m i).st.length then sdV m (at0 (sdK m i).st i).toNat (rw0 (sdK m i).ws i) (sdK m i) 6 else sdK m i
/-- State i is looked at, u of its letters have been tried. -/
structure SdI (m : Mc) (S : Sd) (i u : Nat) : Prop where
  len : S.ws.length = S.st.length
  pos : 1 ≤ S.st.length
  nd : S.st.Nodup
  rg : ∀ k, k < S.st.length → 0 ≤ at0 S.st k ∧ at0 S.st k < m.nx.length
  wd : ∀ k, k < S.st.length → allR (rw0 S.ws k) 0 5 = true
  run : ∀ k, k < S.st.length → wT m 0 ((rw0 S.ws k).map Int.toNat) = (at0 S.st k).toNat
  up : ∀ k l, k ≤ l → l < S.st.length → (rw0 S.ws k).length ≤ (rw0 S.ws l).length
  top : i < S.st.length → ∀ k, k < S.st.length → (rw0 S.ws k).length ≤ (rw0 S.ws i).length + 1
  cl : ∀ j v, (j < i ∨ (j = i ∧ v < u)) → v < 6 → j < S.st.length → ∃ k, k < S.st.length ∧ at0 S.st k = mT m (at0 S.st j).toNat v ∧ (rw0 S.ws k).length ≤ (rw0 S.ws j).length + 1
  wl : ∀ k, k < S.st.length → (rw0 S.ws k).length ≤ k
theorem SdI.start {m : Mc} (hm : MOk m) : SdI m (sdK m 0) 0 0 := by
  have h0 : ∀ k, k < (sdK m 0).st.length → k = 0 := fun k hk => by simp [sdK] at hk; omega
  refine ⟨rfl, Nat.le_refl _, by simp [sdK], fun k hk => ?_, fun k hk => ?_, fun k hk => ?_, fun k l hkl hl => ?_, fun _ k hk => ?_, fun j v hj => ?_, fun k hk => ?_⟩
  · obtain rfl := h0 k hk
    have := hm.pos
    exact ⟨Int.le_refl _, by show (0 : Int) < _; omega⟩
  · obtain rfl := h0 k hk; rfl
  · obtain rfl := h0 k hk; rfl
  · obtain rfl := h0 l hl; obtain rfl : k = 0 := by omega
    exact Nat.le_refl _
  · obtain rfl := h0 k hk; exact Nat.le_succ _
  · omega
  · obtain rfl := h0 k hk; exact Nat.le_refl _
theorem allR_snoc9 {xs : List Int} {v : Nat} (h : allR xs 0 5 = true) (hv : v < 6) : allR (xs ++ [(v : Int)]) 0 5 = true := by
  unfold allR at h ⊢
  rw [List.all_append, h]
  simp [inR]; omega
theorem SdI.step {m : Mc} (hm : MOk m) {T : Sd} {i u : Nat} (h : SdI m T i u) (hi : i < T.st.length) (hu : u < 6) {s : Nat} (hs : s = (at0 T.st i).toNat) {w : List Int} (hw : w = rw0 T.ws i) :
    SdI m (sdP m s w T u) i (u + 1) ∧ i < (sdP m s w T u).st.length ∧ at0 (sdP m s w T u).st i = at0 T.st i ∧ rw0 (sdP m s w T u).ws i = rw0 T.ws i := by
  subst hs hw
  have hri := h.rg i hi
  have hlt := hm.lt (s := (at0 T.st i).toNat) (by omega) hu
  unfold sdP
  split
  · rename_i hin
    refine ⟨⟨h.len, h.pos, h.nd, h.rg, h.wd, h.run, h.up, h.top, fun j v hj hv hjl => ?_, h.wl⟩, hi, rfl, rfl⟩
    by_cases hjv : j < i ∨ (j = i ∧ v < u)
    · exact h.cl j v hjv hv hjl
    · obtain ⟨rfl, rfl⟩ : j = i ∧ v = u := by omega
      obtain ⟨k, hk, e⟩ := List.mem_iff_getElem.1 hin
      have e2 : at0 T.st k = (mT m (at0 T.st j).toNat v : Nat) := by unfold at0; rw [getD_lt _ _ hk, e]; rfl
      exact ⟨k, hk, e2, h.top hi k hk⟩
  · rename_i hin
    have hlen := h.len
    generalize hx : mT m (at0 T.st i).toNat u = x at *
    have hwl : (T.ws ++ [rw0 T.ws i ++ [(u : Int)]]).length = (T.st ++ [(x : Int)]).length := by simp [hlen]
    have c : ∀ k, k < (T.st ++ [(x : Int)]).length → k < T.st.length ∨ k = T.st.length := fun k hk => by simp at hk; omega
    have a1 : ∀ k, k < T.st.length → at0 (T.st ++ [(x : Int)]) k = at0 T.st k := fun k hk => at0_snoc_lt _ _ hk
    have a2 : at0 (T.st ++ [(x : Int)]) T.st.length = x := at0_snoc _ _
    have b1 : ∀ k, k < T.st.length → rw0 (T.ws ++ [rw0 T.ws i ++ [(u : Int)]]) k = rw0 T.ws k := fun k hk => rw0_snoc_lt _ _ (by omega)
    have b2 : rw0 (T.ws ++ [rw0 T.ws i ++ [(u : Int)]]) T.st.length = rw0 T.ws i ++ [(u : Int)] := by rw [← hlen]; exact rw0_snoc _ _
    refine ⟨⟨hwl, by simp, ?_, fun k hk => ?_, fun k hk => ?_, fun k hk => ?_, fun k l hkl hl => ?_, fun _ k hk => ?_, fun j v hj hv hjl => ?_, fun k hk => ?_⟩, by simp; omega, a1 i hi, b1 i hi⟩
    · rw [List.nodup_append]
      refine ⟨h.nd, by simp, fun p hp q hq e => ?_⟩
      rw [List.mem_singleton] at hq
      subst hq; subst e
      exact hin hp
    · rcases c k hk with hk | rfl
      · simp only [a1 k hk]; exact h.rg k hk
      · simp only [a2]; omega
    · rcases c k hk with hk | rfl
      · simp only [b1 k hk]; exact h.wd k hk
      · simp only [b2]; exact allR_snoc9 (h.wd i hi) hu
    · rcases c k hk with hk | rfl
      · simp only [a1 k hk, b1 k hk]; exact h.run k hk
      · simp only [a2, b2, List.map_append, List.map_cons, List.map_nil, Int.toNat_natCast]
        rw [wT_snoc, h.run i hi, hx]
    · rcases c l hl with hl | rfl
      · simp only [b1 k (by omega), b1 l hl]; exact h.up k l hkl hl
      · simp only [b2, List.length_append, List.length_singleton]
        rcases Nat.lt_or_ge k T.st.length with hk | hk
        · simp only [b1 k hk]; exact h.top hi k hk
        · obtain rfl : k = T.st.length := by omega
          simp only [b2, List.length_append, List.length_singleton]; exact Nat.le_refl _
    · simp only [b1 i hi]
      rcases c k hk with hk | rfl
      · simp only [b1 k hk]; exact h.top hi k hk
      · simp only [b2, List.length_append, List.length_singleton]; exact Nat.le_refl _
    · simp only [List.length_append, List.length_singleton] at hjl ⊢
      by_cases hjv : j < i ∨ (j = i ∧ v < u)
      · have hjT : j < T.st.length := by omega
        obtain ⟨k, k1, k2, k3⟩ := h.cl j v hjv hv hjT
        exact ⟨k, by omega, by rw [a1 k k1, a1 j hjT]; exact k2, by rw [b1 k k1, b1 j hjT]; exact k3⟩
      · obtain ⟨rfl, rfl⟩ : j = i ∧ v = u := by omega
        exact ⟨T.st.length, by omega, by rw [a2, a1 j hi, hx], by rw [b2, b1 j hi, List.length_append]; exact Nat.le_refl _⟩
    · rcases c k hk with hk | rfl
      · simp only [b1 k hk]; exact h.wl k hk
      · simp only [b2, List.length_append, List.length_singleton]
        have := h.wl i hi
        omega
theorem sdV_inv {m : Mc} (hm : MOk m) {S : Sd} {i : Nat} (h : SdI m S i 0) (hi : i < S.st.length) : ∀ u, u ≤ 6 → SdI m (sdV m (at0 S.st i).toNat (rw0 S.ws i) S u) i u ∧ i < (sdV m (at0 S.st i).toNat (rw0 S.ws i) S u).st.length ∧ at0 (sdV m (at0 S.st i).toNat (rw0 S.ws i) S u).st i = at0 S.st i ∧ rw0 (sdV m (at0 S.st i).toNat (rw0 S.ws i) S u).ws i = rw0 S.ws i
  | 0, _ => ⟨h, hi, rfl, rfl⟩
  | u + 1, hu => by
    obtain ⟨h1, h2, h3, h4⟩ := sdV_inv hm h hi u (by omega)
    obtain ⟨k1, k2, k3, k4⟩ := h1.step hm h2 (by omega) (s := (at0 S.st i).toNat) (by rw [h3]) (w := rw0 S.ws i) h4.symm
    exact ⟨k1, k2, k3.trans h3, k4.trans h4⟩
theorem sdK_inv {m : Mc} (hm : MOk m) : ∀ i, SdI m (sdK m i) i 0
  | 0 => SdI.start hm
  | i + 1 => by
    have ih := sdK_inv hm i
    rw [sdK]
    split
    · rename_i hi
      obtain ⟨h1, h2, h3, h4⟩ := sdV_inv hm ih hi 6 (Nat.le_refl _)
      generalize sdV m (at0 (sdK m i).st i).toNat (rw0 (sdK m i).ws i) (sdK m i) 6 = T at *
      refine ⟨h1.len, h1.pos, h1.nd, h1.rg, h1.wd, h1.run, h1.up, fun hl k hk => ?_, fun j v hj hv hjl => h1.cl j v (by omega) hv hjl, h1.wl⟩
      have a := h1.top h2 k hk
      have b := h1.up i (i + 1) (by omega) hl
      omega
    · rename_i hi
      exact ⟨ih.len, ih.pos, ih.nd, ih.rg, ih.wd, ih.run, ih.up, fun hl => absurd hl (by omega), fun j v hj hv hjl => ih.cl j v (by omega) hv hjl, ih.wl⟩
theorem SdI.le {m : Mc} {S : Sd} {i u : Nat} (h : SdI m S i u) : S.st.length ≤ m.nx.length := nodup_lt _ _ h.nd fun x hx => by
  obtain ⟨k, hk, e⟩ := List.mem_iff_getElem.1 hx
  have := h.rg k hk
  unfold at0 at this
  rw [getD_lt _ _ hk, e] at this
  exact this
theorem sdV_pre (m : Mc) (s : Nat) (w : List Int) (S : Sd) : ∀ u, ∃ ys zs, (sdV m s w S u).st = S.st ++ ys ∧ (sdV m s w S u).ws = S.ws ++ zs
  | 0 => ⟨[], [], by simp [sdV], by simp [sdV]⟩
  | u + 1 => by
    obtain ⟨ys, zs, e1, e2⟩ := sdV_pre m s w S u
    rw [sdV, sdP]
    split
    · exact ⟨ys, zs, e1, e2⟩
    · exact ⟨_, _, by rw [e1, List.append_assoc], by rw [e2, List.append_assoc]⟩
theorem sdK_pre (m : Mc) (i : Nat) : ∀ d, ∃ ys zs, (sdK m (i + d)).st = (sdK m i).st ++ ys ∧ (sdK m (i + d)).ws = (sdK m i).ws ++ zs
  | 0 => ⟨[], [], by simp, by simp⟩
  | d + 1 => by
    obtain ⟨ys, zs, e1, e2⟩ := sdK_pre m i d
    rw [show i + (d + 1) = i + d + 1 by omega, sdK]
    split
    · obtain ⟨y2, z2, e3, e4⟩ := sdV_pre m (at0 (sdK m (i + d)).st (i + d)).toNat (rw0 (sdK m (i + d)).ws (i + d)) (sdK m (i + d)) 6
      exact ⟨_, _, by rw [e3, e1, List.append_assoc], by rw [e4, e2, List.append_assoc]⟩
    · exact ⟨ys, zs, e1, e2⟩
theorem sdK_at (m : Mc) {j i : Nat} (hji : j ≤ i) (hj : j < (sdK m j).st.length) : j < (sdK m i).st.length ∧ at0 (sdK m i).st j = at0 (sdK m j).st j := by
  obtain ⟨ys, zs, e1, -⟩ := sdK_pre m j (i - j)
  rw [show j + (i - j) = i by omega] at e1
  rw [e1, List.length_append]
  exact ⟨by omega, at0_app _ _ hj⟩
/-- The first i states are looked at, none is final. -/
def SdNo (m : Mc) (i : Nat) : Prop := ∀ j, j < i → j < (sdK m j).st.length ∧ mF m (at0 (sdK m j).st j).toNat = false
/-- What the search finds. -/
def SdV (m : Mc) (ok : Bool) (w : List Int) : Prop :=
  (ok = true ∧ ∃ i, i < (sdK m i).st.length ∧ mF m (at0 (sdK m i).st i).toNat = true ∧ w = rw0 (sdK m i).ws i ∧ SdNo m i) ∨ (ok = false ∧ w = [] ∧ ∃ i, (sdK m i).st.length ≤ i ∧ SdNo m i)
theorem SdV.uniq {m : Mc} {ok ok' : Bool} {w w' : List Int} (h : SdV m ok w) (h' : SdV m ok' w') : ok = ok' ∧ w = w' := by
  rcases h with ⟨rfl, i, h1, h2, rfl, h3⟩ | ⟨rfl, rfl, i, h1, h3⟩
  · rcases h' with ⟨rfl, j, k1, k2, rfl, k3⟩ | ⟨rfl, rfl, j, k1, k3⟩
    · rcases Nat.lt_trichotomy i j with hij | rfl | hij
      · have := (k3 i hij).2; rw [h2] at this; cases this
      · exact ⟨rfl, rfl⟩
      · have := (h3 j hij).2; rw [k2] at this; cases this
    · rcases Nat.lt_trichotomy i j with hij | rfl | hij
      · have := (k3 i hij).2; rw [h2] at this; cases this
      · omega
      · have := (h3 j hij).1; omega
  · rcases h' with ⟨rfl, j, k1, k2, rfl, k3⟩ | ⟨rfl, rfl, j, k1, k3⟩
    · rcases Nat.lt_trichotomy i j with hij | rfl | hij
      · have := (k3 i hij).1; omega
      · omega
      · have := (h3 j hij).2; rw [k2] at this; cases this
    · exact ⟨rfl, rfl⟩
/-- A word that was found is accepted. -/
theorem SdV.sound {m : Mc} (hm : MOk m) {w : List Int} (h : SdV m true w) : allR w 0 5 = true ∧ w.length ≤ m.nx.length ∧ mF m (wT m 0 (w.map Int.toNat)) = true := by
  rcases h with ⟨-, i, h1, h2, rfl, -⟩ | ⟨h, -⟩
  · have hI := sdK_inv hm i
    exact ⟨hI.wd i h1, by have := hI.wl i h1; have := hI.le; omega, by rw [hI.run i h1]; exact h2⟩
  · cases h
theorem SdNo.at_ {m : Mc} {i j : Nat} (h : SdNo m i) (hj : j < i) : j < (sdK m i).st.length ∧ mF m (at0 (sdK m i).st j).toNat = false := by
  obtain ⟨h1, h2⟩ := h j hj
  obtain ⟨h3, h4⟩ := sdK_at m (i := i) (by omega) h1
  exact ⟨h3, by rw [h4]; exact h2⟩
/-- Words that stay among states that were looked at. -/
theorem sd_reach {m : Mc} (hm : MOk m) {i L : Nat} (hL : ∀ k, k < (sdK m i).st.length → (rw0 (sdK m i).ws k).length ≤ L → k < i) : ∀ (n : Nat) (u : List Nat), u.length = n → Wd u → n ≤ L → ∃ k, k < i ∧ k < (sdK m i).st.length ∧ (at0 (sdK m i).st k).toNat = wT m 0 u ∧ (rw0 (sdK m i).ws k).length ≤ n
  | 0, u, hu, _, _ => by
    obtain rfl := List.length_eq_zero_iff.1 hu
    have hI := sdK_inv hm i
    have h0 := hI.wl 0 hI.pos
    have hr := hI.run 0 hI.pos
    have e : rw0 (sdK m i).ws 0 = [] := List.length_eq_zero_iff.1 (by omega)
    rw [e] at hr
    exact ⟨0, hL 0 hI.pos (by omega), hI.pos, hr.symm, h0⟩
  | n + 1, u, hu, hw, hn => by
    have hI := sdK_inv hm i
    obtain ⟨u', v, rfl⟩ : ∃ u' v, u = u' ++ [v] := by
      have hne : u ≠ [] := fun e => by rw [e] at hu; cases hu
      exact ⟨u.dropLast, u.getLast hne, (List.dropLast_concat_getLast hne).symm⟩
    have hv : v < 6 := hw v (by simp)
    have hl : u'.length = n := by simpa using hu
    obtain ⟨k, k1, k2, k3, k4⟩ := sd_reach hm hL n u' hl (fun x hx => hw x (by simp [hx])) (by omega)
    obtain ⟨q, q1, q2, q3⟩ := hI.cl k v (.inl k1) hv k2
    refine ⟨q, hL q q1 (by omega), q1, ?_, by omega⟩
    rw [wT_snoc, ← k3, q2, Int.toNat_natCast]
/-- No shorter word is accepted. -/
theorem SdV.short {m : Mc} (hm : MOk m) {w : List Int} (h : SdV m true w) {u : List Nat} (hu : Wd u) (hl : u.length < w.length) : mF m (wT m 0 u) = false := by
  rcases h with ⟨-, i, h1, h2, rfl, h3⟩ | ⟨h, -⟩
  · have hI := sdK_inv hm i
    obtain ⟨k, k1, k2, k3, -⟩ := sd_reach hm (i := i) (L := u.length) (fun k hk hle => by
      rcases Nat.lt_or_ge k i with h | h
      · exact h
      · have := hI.up i k h hk; omega) u.length u rfl hu (Nat.le_refl _)
    rw [← k3]
    exact (h3.at_ k1).2
  · cases h
/-- No word is accepted. -/
theorem SdV.none_ {m : Mc} (hm : MOk m) {w : List Int} (h : SdV m false w) {u : List Nat} (hu : Wd u) : mF m (wT m 0 u) = false := by
  rcases h with ⟨h, -⟩ | ⟨-, -, i, h1, h3⟩
  · cases h
  · obtain ⟨k, k1, k2, k3, -⟩ := sd_reach hm (i := i) (L := u.length) (fun k hk _ => by omega) u.length u rfl hu (Nat.le_refl _)
    rw [← k3]
    exact (h3.at_ k1).2
/-- The same search in a machine whose states are called otherwise. -/
theorem sd_iso {m m2 : Mc} (hm : MOk m) (φ : Nat → Nat) (h0 : φ 0 = 0) (hi : ∀ s t, s < m.nx.length → t < m.nx.length → φ s = φ t → s = t) (hT : ∀ s v, s < m.nx.length → v < 6 → mT m2 (φ s) v = φ (mT m s v)) :
    ∀ i, (sdK m2 i).ws = (sdK m i).ws ∧ (sdK m2 i).st = (sdK m i).st.map (fun x => (φ x.toNat : Int))
  | 0 => ⟨rfl, by simp [sdK, h0]⟩
  | i + 1 => by
    obtain ⟨e1, e2⟩ := sd_iso hm φ h0 hi hT i
    have hI := sdK_inv hm i
    have hl : (sdK m2 i).st.length = (sdK m i).st.length := by rw [e2, List.length_map]
    rw [sdK, sdK, hl]
    split
    · rename_i hlt
      have ha : (at0 (sdK m2 i).st i).toNat = φ (at0 (sdK m i).st i).toNat := by
        rw [e2]
        unfold at0
        rw [getD_lt _ _ (by rw [List.length_map]; exact hlt), getD_lt _ _ hlt, List.getElem_map, Int.toNat_natCast]
      have hs : (at0 (sdK m i).st i).toNat < m.nx.length := by have := hI.rg i hlt; omega
      have key : ∀ u, u ≤ 6 → (sdV m2 (at0 (sdK m2 i).st i).toNat (rw0 (sdK m2 i).ws i) (sdK m2 i) u).ws = (sdV m (at0 (sdK m i).st i).toNat (rw0 (sdK m i).ws i) (sdK m i) u).ws ∧
          (sdV m2 (at0 (sdK m2 i).st i).toNat (rw0 (sdK m2 i).ws i) (sdK m2 i) u).st = (sdV m (at0 (sdK m i).st i).toNat (rw0 (sdK m i).ws i) (sdK m i) u).st.map (fun x => (φ x.toNat : Int)) := by
        intro u
        induction u with
        | zero => intro _; exact ⟨e1, e2⟩
        | succ u ih =>
          intro hu
          obtain ⟨f1, f2⟩ := ih (by omega)
          obtain ⟨g1, -, -, -⟩ := sdV_inv hm hI hlt u (by omega)
          have ht := hm.lt hs (show u < 6 by omega)
          rw [sdV, sdV, sdP, sdP, ha, hT _ _ hs (by omega), e1]
          rw [ha, e1] at f1 f2
          generalize sdV m (at0 (sdK m i).st i).toNat (rw0 (sdK m i).ws i) (sdK m i) u = T at *
          generalize sdV m2 (φ (at0 (sdK m i).st i).toNat) (rw0 (sdK m i).ws i) (sdK m2 i) u = T2 at *
          have hmem : ((φ (mT m (at0 (sdK m i).st i).toNat u) : Nat) : Int) ∈ T2.st ↔ ((mT m (at0 (sdK m i).st i).toNat u : Nat) : Int) ∈ T.st := by
            rw [f2, List.mem_map]
            constructor
            · rintro ⟨x, hx, e⟩
              obtain ⟨k, hk, ek⟩ := List.mem_iff_getElem.1 hx
              have hr := g1.rg k hk
              unfold at0 at hr
              rw [getD_lt _ _ hk, ek] at hr
              have := hi x.toNat _ (by omega) ht (by exact_mod_cast e)
              rw [← this, Int.toNat_of_nonneg hr.1]; exact hx
            · intro hx
              exact ⟨_, hx, by rw [Int.toNat_natCast]⟩
          by_cases hin : ((mT m (at0 (sdK m i).st i).toNat u : Nat) : Int) ∈ T.st
          · rw [if_pos hin, if_pos (hmem.2 hin)]; exact ⟨f1, f2⟩
          · rw [if_neg hin, if_neg (fun h => hin (hmem.1 h))]
            exact ⟨by simp only; rw [f1], by simp only; rw [f2, List.map_append]; simp⟩
      exact key 6 (Nat.le_refl _)
    · exact ⟨e1, e2⟩
theorem SdV.iso {m m2 : Mc} (hm : MOk m) (φ : Nat → Nat) (h0 : φ 0 = 0) (hi : ∀ s t, s < m.nx.length → t < m.nx.length → φ s = φ t → s = t) (hT : ∀ s v, s < m.nx.length → v < 6 → mT m2 (φ s) v = φ (mT m s v)) (hF : ∀ s, s < m.nx.length → mF m2 (φ s) = mF m s)
    {ok : Bool} {w : List Int} (h : SdV m ok w) : SdV m2 ok w := by
  have key := sd_iso hm φ h0 hi hT
  have hl : ∀ i, (sdK m2 i).st.length = (sdK m i).st.length := fun i => by rw [(key i).2, List.length_map]
  have hf : ∀ i, i < (sdK m i).st.length → mF m2 (at0 (sdK m2 i).st i).toNat = mF m (at0 (sdK m i).st i).toNat := fun i hlt => by
    have hr := (sdK_inv hm i).rg i hlt
    rw [(key i).2]
    have : at0 ((sdK m i).st.map (fun x => (φ x.toNat : Int))) i = φ (at0 (sdK m i).st i).toNat := by
      unfold at0
      rw [getD_lt _ _ (by rw [List.length_map]; exact hlt), getD_lt _ _ hlt, List.getElem_map]
    rw [this, Int.toNat_natCast]
    exact hF _ (by omega)
  have hno : ∀ i, SdNo m i → SdNo m2 i := fun i h j hj => by
    obtain ⟨a, b⟩ := h j hj
    exact ⟨by rw [hl]; exact a, by rw [hf j a]; exact b⟩
  rcases h with ⟨rfl, i, h1, h2, rfl, h3⟩ | ⟨rfl, rfl, i, h1, h3⟩
  · exact .inl ⟨rfl, i, by rw [hl]; exact h1, by rw [hf i h1]; exact h2, by rw [(key i).1], hno i h3⟩
  · exact .inr ⟨rfl, rfl, i, by rw [hl]; exact h1, hno i h3⟩
/-- The value of ShortestDifference. -/
def SdX (a b : Au) (ok : Bool) (w : List Int) : Prop := if vAut a = true ∧ vAut b = true then SdV (prM bne (totM a) (totM b)) ok w else ok = false ∧ w = []
theorem SdX.uniq {a b : Au} {ok ok' : Bool} {w w' : List Int} (h : SdX a b ok w) (h' : SdX a b ok' w') : ok = ok' ∧ w = w' := by
  unfold SdX at h h'
  split at h
  · rename_i hv
    rw [if_pos hv] at h'
    exact h.uniq h'
  · rename_i hv
    rw [if_neg hv] at h'
    exact ⟨h.1.trans h'.1.symm, h.2.trans h'.2.symm⟩
end Go.Proofs.Ytdiedghaoleblaa
/- Shortest differences: what the laws of automata say of them, in plain Lean. -/
namespace Go.Proofs.Ytdiedghaoleblaa
open Go.RowKit

theorem acc_same {m m' : Mc} (hm : MOk m) (hm' : MOk m') {u : List Nat} (hu : Wd u) (h : mF (prM bne m m') (wT (prM bne m m') 0 u) = false) : mF m (wT m 0 u) = mF m' (wT m' 0 u) := by
  rw [pr_acc bne hm hm' hu] at h
  simpa using h
/-- What the law of the minimal automaton says. -/
theorem min_all {a : Au} {r : List (List Int)} {f : List Int} (h : MinV a true r f) : vAut a = true ∧ vAut ⟨r, f⟩ = true ∧ r.length ≤ a.next.length ∧ (∀ ok2 r2 f2, MinV ⟨r, f⟩ ok2 r2 f2 → ok2 = true ∧ r2 = r ∧ f2 = f) ∧
    (∀ xs, vWord xs = true → accB a xs = accB ⟨r, f⟩ xs) ∧ ∀ ok w, SdX a ⟨r, f⟩ ok w → ok = false := by
  have hv : vAut a = true := by
    cases hv : vAut a with
    | true => rfl
    | false => rw [MinV, if_neg (by simp [hv])] at h; cases h.1
  rw [MinV, if_pos hv] at h
  have hm := totM_ok hv
  obtain ⟨hvb, hl⟩ := IsMin.aut hm h.1 (tot_small hv h.1)
  have hmb := totM_ok hvb
  refine ⟨hv, hvb, tot_min_len hv h.1, fun ok2 r2 f2 h2 => ?_, fun xs hx => ?_, fun ok w h2 => ?_⟩
  · rw [MinV, if_pos hvb] at h2
    obtain ⟨e1, e2⟩ := IsMin.canon hmb hm hl h2.1 h.1
    exact ⟨h2.2, e1, e2⟩
  · rw [acc_tot hv hx, acc_tot hvb hx]
    exact (hl _ (vWord_wd hx)).symm
  · rw [SdX, if_pos ⟨hv, hvb⟩] at h2
    cases ok with
    | false => rfl
    | true =>
      obtain ⟨h3, -, h4⟩ := h2.sound (prM_ok bne hm hmb (pr2_le hv hvb))
      have hw : Wd (w.map Int.toNat) := fun v hv => by
        obtain ⟨x, hx, rfl⟩ := List.mem_map.1 hv
        have := List.all_eq_true.1 h3 _ hx
        simp [inR] at this
        omega
      rw [pr_acc bne hm hmb hw, hl _ hw] at h4
      simp at h4
theorem allR_wd {w : List Int} (h3 : allR w 0 5 = true) : Wd (w.map Int.toNat) := fun v hv => by
  obtain ⟨x, hx, rfl⟩ := List.mem_map.1 hv
  have := List.all_eq_true.1 h3 _ hx
  simp [inR] at this
  omega
/-- What the law of the normal form says. -/
theorem mf_all {a b : Au} (hva : vAut a = true) (hvb : vAut b = true) {ok o1 o2 : Bool} {w : List Int} {r1 r2 : List (List Int)} {f1 f2 : List Int} (h : SdX a b ok w) (h1 : MinV a o1 r1 f1) (h2 : MinV b o2 r2 f2) :
    o1 = true ∧ o2 = true ∧ (decide (r1 = r2) && decide (f1 = f2)) = !ok := by
  have hma := totM_ok hva
  have hmb := totM_ok hvb
  rw [MinV, if_pos hva] at h1
  rw [MinV, if_pos hvb] at h2
  rw [SdX, if_pos ⟨hva, hvb⟩] at h
  refine ⟨h1.2, h2.2, ?_⟩
  obtain ⟨-, hl1⟩ := IsMin.aut hma h1.1 (tot_small hva h1.1)
  obtain ⟨-, hl2⟩ := IsMin.aut hmb h2.1 (tot_small hvb h2.1)
  have hok := prM_ok bne hma hmb (pr2_le hva hvb)
  cases ok with
  | true =>
    obtain ⟨h3, -, h4⟩ := h.sound hok
    have hw := allR_wd h3
    rw [pr_acc bne hma hmb hw] at h4
    cases hd : (decide (r1 = r2) && decide (f1 = f2)) with
    | false => rfl
    | true =>
      exfalso
      simp only [Bool.and_eq_true, decide_eq_true_eq] at hd
      obtain ⟨rfl, rfl⟩ := hd
      rw [← hl1 _ hw, ← hl2 _ hw] at h4
      simp at h4
  | false =>
    have hle : LEq (totM a) 0 (totM b) 0 := fun u hu => acc_same hma hmb hu (h.none_ hok hu)
    obtain ⟨e1, e2⟩ := IsMin.canon hma hmb hle h1.1 h2.1
    simp [e1, e2]
/-- Pairs turned round. -/
def swp (n n' p : Nat) : Nat := p % n' * n + p / n'
theorem swp_at {n n' i j : Nat} (hj : j < n') : swp n n' (i * n' + j) = j * n + i := by
  have h0 : 0 < n' := by omega
  have hd : (i * n' + j) / n' = i := by rw [Nat.mul_comm, Nat.mul_add_div h0, Nat.div_eq_of_lt hj, Nat.add_zero]
  have hr : (i * n' + j) % n' = j := by rw [Nat.mul_comm, Nat.mul_add_mod, Nat.mod_eq_of_lt hj]
  rw [swp, hd, hr]
theorem pair_of {n n' p : Nat} (hp : p < n * n') : ∃ i j, i < n ∧ j < n' ∧ p = i * n' + j := by
  have h0 : 0 < n' := by
    rcases Nat.eq_zero_or_pos n' with h | h
    · subst h; simp at hp
    · exact h
  exact ⟨p / n', p % n', pr_div hp, Nat.mod_lt _ h0, by rw [Nat.mul_comm]; exact (Nat.div_add_mod p n').symm⟩
theorem pair_inj {n' i j i' j' : Nat} (hj : j < n') (hj' : j' < n') (h : i * n' + j = i' * n' + j') : i = i' ∧ j = j' := by
  have h0 : 0 < n' := by omega
  have a : (i * n' + j) / n' = i := by rw [Nat.mul_comm, Nat.mul_add_div h0, Nat.div_eq_of_lt hj, Nat.add_zero]
  have b : (i' * n' + j') / n' = i' := by rw [Nat.mul_comm, Nat.mul_add_div h0, Nat.div_eq_of_lt hj', Nat.add_zero]
  rw [h, b] at a
  subst a
  exact ⟨rfl, by omega⟩
theorem SdV.swap {m m' : Mc} (hm : MOk m) (hm' : MOk m') (hle : m.nx.length * m'.nx.length ≤ 100) {ok : Bool} {w : List Int} (h : SdV (prM bne m m') ok w) : SdV (prM bne m' m) ok w := by
  refine h.iso (prM_ok bne hm hm' hle) (swp m.nx.length m'.nx.length) (by simp [swp]) (fun s t hs ht e => ?_) (fun s v hs hv => ?_) (fun s hs => ?_)
  · rw [prM_len] at hs ht
    obtain ⟨i, j, hi, hj, rfl⟩ := pair_of hs
    obtain ⟨i', j', hi', hj', rfl⟩ := pair_of ht
    rw [swp_at hj, swp_at hj'] at e
    obtain ⟨rfl, rfl⟩ := pair_inj hi hi' e
    rfl
  · rw [prM_len] at hs
    obtain ⟨i, j, hi, hj, rfl⟩ := pair_of hs
    rw [swp_at hj, mT_pr bne hj hi hv, mT_pr bne hi hj hv, swp_at (hm'.lt hj hv)]
  · rw [prM_len] at hs
    obtain ⟨i, j, hi, hj, rfl⟩ := pair_of hs
    rw [swp_at hj, mF_pr bne hj hi, mF_pr bne hi hj]
    cases mF m i <;> cases mF m' j <;> rfl
/-- What the law of the shortest difference says. -/
theorem df_all {a b : Au} {w : List Int} (h : SdX a b true w) : vAut a = true ∧ vAut b = true ∧ w.length ≤ 100 ∧ (∀ n : Nat, n < w.length → n ≤ 8 → cwB a n = cwB b n) ∧ (∀ ok2 w2, SdX b a ok2 w2 → ok2 = true ∧ w2 = w) ∧
    (w.length ≤ 8 → accB a w = !accB b w) := by
  have hv : vAut a = true ∧ vAut b = true := by
    by_cases hv : vAut a = true ∧ vAut b = true
    · exact hv
    · rw [SdX, if_neg hv] at h; cases h.1
  rw [SdX, if_pos hv] at h
  obtain ⟨hva, hvb⟩ := hv
  have hma := totM_ok hva
  have hmb := totM_ok hvb
  have hok := prM_ok bne hma hmb (pr2_le hva hvb)
  obtain ⟨h3, h5, h4⟩ := h.sound hok
  have hw := allR_wd h3
  refine ⟨hva, hvb, by have := hok.le; omega, fun n hn h8 => ?_, fun ok2 w2 h2 => ?_, fun h8 => ?_⟩
  · rw [cw_cnt hva h8, cw_cnt hvb h8]
    exact cnt_len n 0 0 (fun u hu hl => acc_same hma hmb hu (h.short hok hu (by omega)))
  · rw [SdX, if_pos ⟨hvb, hva⟩] at h2
    exact h2.uniq (h.swap hma hmb (pr2_le hva hvb))
  · have hx : vWord w = true := by simp [vWord, h3]; omega
    rw [pr_acc bne hma hmb hw] at h4
    rw [acc_tot hva hx, acc_tot hvb hx]
    generalize mF (totM a) _ = x at *
    generalize mF (totM b) _ = y at *
    cases x <;> cases y <;> simp_all
end Go.Proofs.Ytdiedghaoleblaa
