/- Plain: counting words forwards in the machine and backwards in the automaton gives the same. -/
import Derived.Test.YtdiedghaoleblaaAutA
import Derived.Test.YtdiedghaoleblaaTail
namespace Go.Proofs.Ytdiedghaoleblaa

/-- The sum of the first n numbers. -/
def sumN : Nat → (Nat → Int) → Int
  | 0, _ => 0
  | n + 1, f => sumN n f + f n
theorem sumN_congr {n : Nat} {f g : Nat → Int} (h : ∀ i, i < n → f i = g i) : sumN n f = sumN n g := by
  induction n with
  | zero => rfl
  | succ n ih => rw [sumN, sumN, ih (fun i hi => h i (by omega)), h n (by omega)]
theorem sumN_zero (n : Nat) : sumN n (fun _ => 0) = 0 := by
  induction n with
  | zero => rfl
  | succ n ih => rw [sumN, ih]; rfl
theorem sumN_add (n : Nat) (f g : Nat → Int) : sumN n (fun i => f i + g i) = sumN n f + sumN n g := by
  induction n with
  | zero => rfl
  | succ n ih => rw [sumN, sumN, sumN, ih]; omega
theorem sumN_mul (n : Nat) (c : Int) (f : Nat → Int) : sumN n (fun i => c * f i) = c * sumN n f := by
  induction n with
  | zero => simp [sumN]
  | succ n ih => rw [sumN, sumN, ih, Int.mul_add]
theorem sumN_mulr (n : Nat) (c : Int) (f : Nat → Int) : sumN n (fun i => f i * c) = sumN n f * c := by
  induction n with
  | zero => simp [sumN]
  | succ n ih => rw [sumN, sumN, ih, Int.add_mul]
theorem sumN_swap (n m : Nat) (f : Nat → Nat → Int) : sumN n (fun i => sumN m (f i)) = sumN m (fun j => sumN n (fun i => f i j)) := by
  induction n with
  | zero => simp only [sumN]; rw [sumN_zero]
  | succ n ih => simp only [sumN]; rw [ih, ← sumN_add]
theorem sumN_pick {n j : Nat} (hj : j < n) (g : Nat → Int) : sumN n (fun t => if j = t then g t else 0) = g j := by
  induction n with
  | zero => omega
  | succ n ih =>
    rw [sumN]
    by_cases h : j = n
    · subst h
      rw [if_pos rfl, sumN_congr (g := fun _ => 0) (fun i hi => if_neg (by omega)), sumN_zero]; omega
    · rw [ih (by omega), if_neg h]; omega
theorem sumN_bounds {n : Nat} {f : Nat → Int} {B : Int} (hB : ∀ i, i < n → 0 ≤ f i ∧ f i ≤ B) : 0 ≤ sumN n f ∧ sumN n f ≤ n * B := by
  induction n with
  | zero => simp [sumN]
  | succ n ih =>
    obtain ⟨h1, h2⟩ := ih (fun i hi => hB i (by omega))
    obtain ⟨h3, h4⟩ := hB n (by omega)
    rw [sumN, Int.natCast_succ, Int.add_mul, Int.one_mul]
    omega

/-- Where value v leads from state s in the machine. -/
def mN (a : Au) (s v : Nat) : Nat := (at0 (rw0 (mRows a) s) v).toNat
/-- What the first v values of state s bring to state t; what the first s states bring. -/
def colS (a : Au) (m : Nat → Int) (s v t : Nat) : Int := sumN v (fun x => if mN a s x = t then m s else 0)
def rowS (a : Au) (m : Nat → Int) (s t : Nat) : Int := sumN s (fun y => colS a m y 6 t)
def fwd (a : Au) : Nat → Nat → Int
  | 0, t => if 0 = t then 1 else 0
  | k + 1, t => rowS a (fwd a k) (a.next.length + 1) t
/-- What the first v values of state s bring, backwards. -/
def backS (a : Au) (m : Nat → Int) (s v : Nat) : Int := sumN v (fun x => if 0 ≤ at0 (rw0 a.next s) x then m (at0 (rw0 a.next s) x).toNat else 0)
def bwd (a : Au) : Nat → Nat → Int
  | 0, s => if (s : Int) ∈ a.final then 1 else 0
  | k + 1, s => backS a (bwd a k) s 6
def lastS (a : Au) (n k : Nat) : Int := sumN k (fun s => if (s : Int) ∈ a.final then fwd a n s else 0)
theorem colS_bounds {a : Au} {m : Nat → Int} {s v t : Nat} {B : Int} (h : 0 ≤ m s ∧ m s ≤ B) : 0 ≤ colS a m s v t ∧ colS a m s v t ≤ v * B :=
  sumN_bounds fun i hi => by split <;> omega
theorem rowS_bounds {a : Au} {m : Nat → Int} {s t : Nat} {B : Int} (h : ∀ i, i < s → 0 ≤ m i ∧ m i ≤ B) : 0 ≤ rowS a m s t ∧ rowS a m s t ≤ s * (6 * B) :=
  sumN_bounds fun i hi => colS_bounds (h i hi)
theorem fwd_bounds {a : Au} (hl : a.next.length ≤ 8) : ∀ k t, 0 ≤ fwd a k t ∧ fwd a k t ≤ 54 ^ k := by
  intro k
  induction k with
  | zero => intro t; rw [fwd]; split <;> decide
  | succ k ih =>
    intro t
    have h := rowS_bounds (a := a) (m := fwd a k) (s := a.next.length + 1) (t := t) (B := 54 ^ k) (fun i _ => ih i)
    rw [fwd]
    refine ⟨h.1, Int.le_trans h.2 ?_⟩
    have h54 : (0 : Int) ≤ 54 ^ k := Int.le_trans (ih 0).1 (ih 0).2
    have h9 : ((a.next.length + 1 : Nat) : Int) ≤ 9 := by omega
    have := Int.mul_le_mul_of_nonneg_right h9 (show (0 : Int) ≤ 6 * 54 ^ k by omega)
    rw [Int.pow_succ]
    omega
theorem bwd_bounds (a : Au) : ∀ k s, 0 ≤ bwd a k s ∧ bwd a k s ≤ 6 ^ k := by
  intro k
  induction k with
  | zero => intro s; rw [bwd]; split <;> decide
  | succ k ih =>
    intro s
    have h54 : (0 : Int) ≤ 6 ^ k := Int.le_trans (ih 0).1 (ih 0).2
    have h := sumN_bounds (n := 6) (f := fun x => if 0 ≤ at0 (rw0 a.next s) x then bwd a k (at0 (rw0 a.next s) x).toNat else 0) (B := 6 ^ k) (fun i _ => by
      by_cases h0 : 0 ≤ at0 (rw0 a.next s) i
      · simp only [if_pos h0]; exact ih _
      · simp only [if_neg h0]; omega)
    rw [bwd, backS, Int.pow_succ]
    omega
/-- Backwards in the machine: nothing is accepted from its last state. -/
def bw (a : Au) (k s : Nat) : Int := if s < a.next.length then bwd a k s else 0
theorem bw_step {a : Au} (hv : vAut a = true) (k : Nat) {s : Nat} (hs : s < a.next.length + 1) : bw a (k + 1) s = sumN 6 (fun v => bw a k (mN a s v)) := by
  unfold bw
  by_cases h : s < a.next.length
  · obtain ⟨r1, r2⟩ := vAut_row hv h
    rw [if_pos h, bwd, backS]
    refine sumN_congr fun x hx => ?_
    have hb := allR_at r2 (k := x) (by omega)
    unfold mN
    rw [mRows_at h, mRow_at _ _ (by omega)]
    by_cases h0 : 0 ≤ at0 (rw0 a.next s) x
    · rw [if_pos h0, show mTo a.next.length (at0 (rw0 a.next s) x) = at0 (rw0 a.next s) x from if_neg (by omega), if_pos (by omega)]
    · rw [if_neg h0, show mTo a.next.length (at0 (rw0 a.next s) x) = (a.next.length : Int) from if_pos (by omega), if_neg (by omega)]
  · rw [if_neg h, sumN_congr (g := fun _ => 0) (fun x hx => ?_), sumN_zero]
    unfold mN
    rw [show s = a.next.length by omega, mRows_last, at0_replicate _ _ hx, if_neg (by omega)]
theorem mN_lt {a : Au} (hv : vAut a = true) {s v : Nat} (hs : s < a.next.length + 1) (hv6 : v < 6) : mN a s v < a.next.length + 1 := by
  have := (mRows_row hv hs).2 v hv6
  unfold mN
  omega
/-- One step forwards is one step backwards. -/
theorem fb_step {a : Au} (hv : vAut a = true) (j k : Nat) :
    sumN (a.next.length + 1) (fun t => fwd a (j + 1) t * bw a k t) = sumN (a.next.length + 1) (fun s => fwd a j s * bw a (k + 1) s) := by
  have e1 : ∀ t, fwd a (j + 1) t * bw a k t = sumN (a.next.length + 1) (fun s => sumN 6 (fun v => if mN a s v = t then fwd a j s * bw a k t else 0)) := by
    intro t
    rw [fwd, rowS, ← sumN_mulr]
    refine sumN_congr fun s hs => ?_
    rw [colS, ← sumN_mulr]
    refine sumN_congr fun v hv' => ?_
    split
    · rfl
    · rw [Int.zero_mul]
  rw [sumN_congr (fun t _ => e1 t), sumN_swap]
  refine sumN_congr fun s hs => ?_
  rw [sumN_swap, bw_step hv k hs, ← sumN_mul]
  refine sumN_congr fun v hv' => ?_
  exact sumN_pick (mN_lt hv hs hv') (fun t => fwd a j s * bw a k t)
theorem fb_all {a : Au} (hv : vAut a = true) (j : Nat) : ∀ k, sumN (a.next.length + 1) (fun t => fwd a (j + k) t * bw a 0 t) = sumN (a.next.length + 1) (fun t => fwd a j t * bw a k t) := by
  intro k
  induction k generalizing j with
  | zero => rfl
  | succ k ih => rw [← fb_step hv, ← ih (j + 1)]; rw [show j + 1 + k = j + (k + 1) by omega]
theorem count_same {a : Au} (hv : vAut a = true) (n : Nat) : lastS a n (a.next.length + 1) = bwd a n 0 := by
  have hl := vAut_len hv
  have hf : allR a.final 0 (a.next.length - 1) = true := by simp only [vAut, vFin, Bool.and_eq_true] at hv; exact hv.2.1
  have h := fb_all hv 0 n
  rw [Nat.zero_add] at h
  have e1 : lastS a n (a.next.length + 1) = sumN (a.next.length + 1) (fun t => fwd a n t * bw a 0 t) := by
    refine sumN_congr fun s hs => ?_
    unfold bw
    by_cases hm : (s : Int) ∈ a.final
    · have := List.all_eq_true.1 hf _ hm
      simp [inR] at this
      rw [if_pos hm, if_pos (by omega), bwd, if_pos hm, Int.mul_one]
    · rw [if_neg hm]
      split
      · rw [bwd, if_neg hm, Int.mul_zero]
      · rw [Int.mul_zero]
  have e2 : sumN (a.next.length + 1) (fun t => fwd a 0 t * bw a n t) = bwd a n 0 := by
    rw [sumN_congr (g := fun t => if 0 = t then bw a n t else 0) (fun t _ => by rw [fwd]; split <;> simp), sumN_pick (by omega), bw, if_pos (by omega)]
  rw [e1, h, e2]
end Go.Proofs.Ytdiedghaoleblaa
/- The walk of CountWords in the reference. -/
namespace Go.Proofs.Ytdiedghaoleblaa
open Go.RowKit

def cwB (a : Au) (n : Int) : Int := if vAut a && inR n 0 8 then bwd a n.toNat 0 else -1
/-- The next row: states before s are done, state s has had its first v values. -/
def nx (a : Au) (k s v i : Nat) : Int := if i < s then bwd a (k + 1) i else if i = s then backS a (bwd a k) s v else 0
theorem nx_start (a : Au) (k i : Nat) : nx a k 0 0 i = 0 := by
  unfold nx; rw [if_neg (by omega)]; split <;> rfl
theorem nx_end (a : Au) (k s i : Nat) : nx a k s 6 i = nx a k (s + 1) 0 i := by
  unfold nx
  by_cases h : i < s
  · rw [if_pos h, if_pos (by omega)]
  · rw [if_neg h]
    by_cases h2 : i = s
    · subst h2; rw [if_pos rfl, if_pos (by omega)]; rfl
    · rw [if_neg h2, if_neg (by omega)]; split <;> rfl
theorem nx_set (a : Au) (k s v i : Nat) : (if i = s then vI (backS a (bwd a k) s (v + 1)) else vI (nx a k s v i)) = vI (nx a k s (v + 1) i) := by
  unfold nx
  by_cases h2 : i = s
  · subst h2; rw [if_pos rfl, if_neg (by omega), if_pos rfl]
  · rw [if_neg h2]
    by_cases h : i < s
    · rw [if_pos h, if_pos h]
    · rw [if_neg h, if_neg h, if_neg h2, if_neg h2]
theorem backS_bounds (a : Au) (k s : Nat) {v : Nat} (hv : v ≤ 6) : 0 ≤ backS a (bwd a k) s v ∧ backS a (bwd a k) s v ≤ 6 * 6 ^ k := by
  have h54 : (0 : Int) ≤ 6 ^ k := Int.le_trans (bwd_bounds a k 0).1 (bwd_bounds a k 0).2
  have h := sumN_bounds (n := v) (f := fun x => if 0 ≤ at0 (rw0 a.next s) x then bwd a k (at0 (rw0 a.next s) x).toNat else 0) (B := 6 ^ k) (fun i _ => by
    by_cases h0 : 0 ≤ at0 (rw0 a.next s) i
    · simp only [if_pos h0]; exact bwd_bounds a k _
    · simp only [if_neg h0]; omega)
  have hv' : (v : Int) ≤ 6 := by omega
  have := Int.mul_le_mul_of_nonneg_right hv' h54
  rw [backS]
  omega
theorem six_pow {k : Nat} (hk : k ≤ 8) : (6 : Int) ^ k ≤ 1679616 := by
  rcases (by omega : k = 0 ∨ k = 1 ∨ k = 2 ∨ k = 3 ∨ k = 4 ∨ k = 5 ∨ k = 6 ∨ k = 7 ∨ k = 8) with rfl | rfl | rfl | rfl | rfl | rfl | rfl | rfl | rfl <;> decide
def fi (a : Au) (s i : Nat) : Int := if i < s then bwd a 0 i else 0
theorem row_congr {w : World} {b n : Nat} {f g : Nat → Int} (h : w.rowIs b 3 n (fun i => vI (f i))) (hfg : ∀ i, i < n → f i = g i) : w.rowIs b 3 n (fun i => vI (g i)) :=
  h.congr fun i hi => by rw [hfg i hi]
end Go.Proofs.Ytdiedghaoleblaa
