/- Plain: counting words forwards in the machine and backwards in the automaton gives the same. -/
import Derived.Test.YtdiedghaoleblaaAutA
import Derived.Test.YtdiedghaoleblaaTail
import Derived.Test.YtdiedghaoleblaaAutD
namespace Go.Proofs.Ytdiedghaoleblaa

/-- The sum of the first n numbers. -/
def sumN : Nat → (Nat → Int) → Int
  | 0, _ => 0
  | n + 1, f => sumN n f + f n
theorem sumN_congr {n : Nat} {f g : Nat → Int} (h : ∀ i, i < n → f i = g i) : sumN n f = sumN n g := by
  induction n with
  | zero => rfl
  | succ n ih => rw [sumN, sumN, ih (fun i hi => h i (by omega)), h n (by omega)]
theorem sumN_zero (n : Nat) : sumN n (fun _ => 0) = 0 := by
  induction n with
  | zero => rfl
  | succ n ih => rw [sumN, ih]; rfl
theorem sumN_add (n : Nat) (f g : Nat → Int) : sumN n (fun i => f i + g i) = sumN n f + sumN n g := by
  induction n with
  | zero => rfl
  | succ n ih => rw [sumN, sumN, sumN, ih]; omega
theorem sumN_mul (n : Nat) (c : Int) (f : Nat → Int) : sumN n (fun i => c * f i) = c * sumN n f := by
  induction n with
  | zero => simp [sumN]
  | succ n ih => rw [sumN, sumN, ih, Int.mul_add]
theorem sumN_mulr (n : Nat) (c : Int) (f : Nat → Int) : sumN n (fun i => f i * c) = sumN n f * c := by
  induction n with
  | zero => simp [sumN]
  | succ n ih => rw [sumN, sumN, ih, Int.add_mul]
theorem sumN_swap (n m : Nat) (f : Nat → Nat → Int) : sumN n (fun i => sumN m (f i)) = sumN m (fun j => sumN n (fun i => f i j)) := by
  induction n with
  | zero => simp only [sumN]; rw [sumN_zero]
  | succ n ih => simp only [sumN]; rw [ih, ← sumN_add]
theorem sumN_pick {n j : Nat} (hj : j < n) (g : Nat → Int) : sumN n (fun t => if j = t then g t else 0) = g j := by
  induction n with
  | zero => omega
  | succ n ih =>
    rw [sumN]
    by_cases h : j = n
    · subst h
      rw [if_pos rfl, sumN_congr (g := fun _ => 0) (fun i hi => if_neg (by omega)), sumN_zero]; omega
    · rw [ih (by omega), if_neg h]; omega
theorem sumN_bounds {n : Nat} {f : Nat → Int} {B : Int} (hB : ∀ i, i < n → 0 ≤ f i ∧ f i ≤ B) : 0 ≤ sumN n f ∧ sumN n f ≤ n * B := by
  induction n with
  | zero => simp [sumN]
  | succ n ih =>
    obtain ⟨h1, h2⟩ := ih (fun i hi => hB i (by omega))
    obtain ⟨h3, h4⟩ := hB n (by omega)
    rw [sumN, Int.natCast_succ, Int.add_mul, Int.one_mul]
    omega

/-- Where value v leads from state s in the machine. -/
def mN (a : Au) (s v : Nat) : Nat := (at0 (rw0 (mRows a) s) v).toNat
/-- What the first v values of state s bring to state t; what the first s states bring. -/
def colS (a : Au) (m : Nat → Int) (s v t : Nat) : Int := sumN v (fun x => if mN a s x = t then m s else 0)
def rowS (a : Au) (m : Nat → Int) (s t : Nat) : Int := sumN s (fun y => colS a m y 6 t)
def fwd (a : Au) : Nat → Nat → Int
  | 0, t => if 0 = t then 1 else 0
  | k + 1, t => rowS a (fwd a k) (a.next.length + 1) t
/-- What the first v values of state s bring, backwards. -/
def backS (a : Au) (m : Nat → Int) (s v : Nat) : Int := sumN v (fun x => if 0 ≤ at0 (rw0 a.next s) x then m (at0 (rw0 a.next s) x).toNat else 0)
def bwd (a : Au) : Nat → Nat → Int
  | 0, s => if (s : Int) ∈ a.final then 1 else 0
  | k + 1, s => backS a (bwd a k) s 6
def lastS (a : Au) (n k : Nat) : Int := sumN k (fun s => if (s : Int) ∈ a.final then fwd a n s else 0)
theorem colS_bounds {a : Au} {m : Nat → Int} {s v t : Nat} {B : Int} (h : 0 ≤ m s ∧ m s ≤ B) : 0 ≤ colS a m s v t ∧ colS a m s v t ≤ v * B :=
  sumN_bounds fun i hi => by split <;> omega
theorem rowS_bounds {a : Au} {m : Nat → Int} {s t : Nat} {B : Int} (h : ∀ i, i < s → 0 ≤ m i ∧ m i ≤ B) : 0 ≤ rowS a m s t ∧ rowS a m s t ≤ s * (6 * B) :=
  sumN_bounds fun i hi => colS_bounds (h i hi)
theorem fwd_bounds {a : Au} (hl : a.next.length ≤ 8) : ∀ k t, 0 ≤ fwd a k t ∧ fwd a k t ≤ 54 ^ k := by
  intro k
  induction k with
  | zero => intro t; rw [fwd]; split <;> decide
  | succ k ih =>
    intro t
    have h := rowS_bounds (a := a) (m := fwd a k) (s := a.next.length + 1) (t := t) (B := 54 ^ k) (fun i _ => ih i)
    rw [fwd]
    refine ⟨h.1, Int.le_trans h.2 ?_⟩
    have h54 : (0 : Int) ≤ 54 ^ k := Int.le_trans (ih 0).1 (ih 0).2
    have h9 : ((a.next.length + 1 : Nat) : Int) ≤ 9 := by omega
    have := Int.mul_le_mul_of_nonneg_right h9 (show (0 : Int) ≤ 6 * 54 ^ k by omega)
    rw [Int.pow_succ]
    omega
theorem bwd_bounds (a : Au) : ∀ k s, 0 ≤ bwd a k s ∧ bwd a k s ≤ 6 ^ k := by
  intro k
  induction k with
  | zero => intro s; rw [bwd]; split <;> decide
  | succ k ih =>
    intro s
    have h54 : (0 : Int) ≤ 6 ^ k := Int.le_trans (ih 0).1 (ih 0).2
    have h := sumN_bounds (n := 6) (f := fun x => if 0 ≤ at0 (rw0 a.next s) x then bwd a k (at0 (rw0 a.next s) x).toNat else 0) (B := 6 ^ k) (fun i _ => by
      by_cases h0 : 0 ≤ at0 (rw0 a.next s) i
      · simp only [if_pos h0]; exact ih _
      · simp only [if_neg h0]; omega)
    rw [bwd, backS, Int.pow_succ]
    omega
/-- Backwards in the machine: nothing is accepted from its last state. -/
def bw (a : Au) (k s : Nat) : Int := if s < a.next.length then bwd a k s else 0
theorem bw_step {a : Au} (hv : vAut a = true) (k : Nat) {s : Nat} (hs : s < a.next.length + 1) : bw a (k + 1) s = sumN 6 (fun v => bw a k (mN a s v)) := by
  unfold bw
  by_cases h : s < a.next.length
  · obtain ⟨r1, r2⟩ := vAut_row hv h
    rw [if_pos h, bwd, backS]
    refine sumN_congr fun x hx => ?_
    have hb := allR_at r2 (k := x) (by omega)
    unfold mN
    rw [mRows_at h, mRow_at _ _ (by omega)]
    by_cases h0 : 0 ≤ at0 (rw0 a.next s) x
    · rw [if_pos h0, show mTo a.next.length (at0 (rw0 a.next s) x) = at0 (rw0 a.next s) x from if_neg (by omega), if_pos (by omega)]
    · rw [if_neg h0, show mTo a.next.length (at0 (rw0 a.next s) x) = (a.next.length : Int) from if_pos (by omega), if_neg (by omega)]
  · rw [if_neg h, sumN_congr (g := fun _ => 0) (fun x hx => ?_), sumN_zero]
    unfold mN
    rw [show s = a.next.length by omega, mRows_last, at0_replicate _ _ hx, if_neg (by omega)]
theorem mN_lt {a : Au} (hv : vAut a = true) {s v : Nat} (hs : s < a.next.length + 1) (hv6 : v < 6) : mN a s v < a.next.length + 1 := by
  have := (mRows_row hv hs).2 v hv6
  unfold mN
  omega
/-- One step forwards is one step backwards. -/
theorem fb_step {a : Au} (hv : vAut a = true) (j k : Nat) :
    sumN (a.next.length + 1) (fun t => fwd a (j + 1) t * bw a k t) = sumN (a.next.length + 1) (fun s => fwd a j s * bw a (k + 1) s) := by
  have e1 : ∀ t, fwd a (j + 1) t * bw a k t = sumN (a.next.length + 1) (fun s => sumN 6 (fun v => if mN a s v = t then fwd a j s * bw a k t else 0)) := by
    intro t
    rw [fwd, rowS, ← sumN_mulr]
    refine sumN_congr fun s hs => ?_
    rw [colS, ← sumN_mulr]
    refine sumN_congr fun v hv' => ?_
    split
    · rfl
    · rw [Int.zero_mul]
  rw [sumN_congr (fun t _ => e1 t), sumN_swap]
  refine sumN_congr fun s hs => ?_
  rw [sumN_swap, bw_step hv k hs, ← sumN_mul]
  refine sumN_congr fun v hv' => ?_
  exact sumN_pick (mN_lt hv hs hv') (fun t => fwd a j s * bw a k t)
theorem fb_all {a : Au} (hv : vAut a = true) (j : Nat) : ∀ k, sumN (a.next.length + 1) (fun t => fwd a (j + k) t * bw a 0 t) = sumN (a.next.length + 1) (fun t => fwd a j t * bw a k t) := by
  intro k
  induction k generalizing j with
  | zero => rfl
  | succ k ih => rw [← fb_step hv, ← ih (j + 1)]; rw [show j + 1 + k = j + (k + 1) by omega]
theorem count_same {a : Au} (hv : vAut a = true) (n : Nat) : lastS a n (a.next.length + 1) = bwd a n 0 := by
  have hl := vAut_len hv
  have hf : allR a.final 0 (a.next.length - 1) = true := by simp only [vAut, vFin, Bool.and_eq_true] at hv; exact hv.2.1
  have h := fb_all hv 0 n
  rw [Nat.zero_add] at h
  have e1 : lastS a n (a.next.length + 1) = sumN (a.next.length + 1) (fun t => fwd a n t * bw a 0 t) := by
    refine sumN_congr fun s hs => ?_
    unfold bw
    by_cases hm : (s : Int) ∈ a.final
    · have := List.all_eq_true.1 hf _ hm
      simp [inR] at this
      rw [if_pos hm, if_pos (by omega), bwd, if_pos hm, Int.mul_one]
    · rw [if_neg hm]
      split
      · rw [bwd, if_neg hm, Int.mul_zero]
      · rw [Int.mul_zero]
  have e2 : sumN (a.next.length + 1) (fun t => fwd a 0 t * bw a n t) = bwd a n 0 := by
    rw [sumN_congr (g := fun t => if 0 = t then bw a n t else 0) (fun t _ => by rw [fwd]; split <;> simp), sumN_pick (by omega), bw, if_pos (by omega)]
  rw [e1, h, e2]
end Go.Proofs.Ytdiedghaoleblaa
/- The walk of CountWords in the reference. -/
namespace Go.Proofs.Ytdiedghaoleblaa
open Go.RowKit

def cwB (a : Au) (n : Int) : Int := if vAut a && inR n 0 8 then bwd a n.toNat 0 else -1
/-- The next row: states before s are done, state s has had its first v values. -/
def nx (a : Au) (k s v i : Nat) : Int := if i < s then bwd a (k + 1) i else if i = s then backS a (bwd a k) s v else 0
theorem nx_start (a : Au) (k i : Nat) : nx a k 0 0 i = 0 := by
  unfold nx; rw [if_neg (by omega)]; split <;> rfl
theorem nx_end (a : Au) (k s i : Nat) : nx a k s 6 i = nx a k (s + 1) 0 i := by
  unfold nx
  by_cases h : i < s
  · rw [if_pos h, if_pos (by omega)]
  · rw [if_neg h]
    by_cases h2 : i = s
    · subst h2; rw [if_pos rfl, if_pos (by omega)]; rfl
    · rw [if_neg h2, if_neg (by omega)]; split <;> rfl
theorem nx_set (a : Au) (k s v i : Nat) : (if i = s then vI (backS a (bwd a k) s (v + 1)) else vI (nx a k s v i)) = vI (nx a k s (v + 1) i) := by
  unfold nx
  by_cases h2 : i = s
  · subst h2; rw [if_pos rfl, if_neg (by omega), if_pos rfl]
  · rw [if_neg h2]
    by_cases h : i < s
    · rw [if_pos h, if_pos h]
    · rw [if_neg h, if_neg h, if_neg h2, if_neg h2]
theorem backS_bounds (a : Au) (k s : Nat) {v : Nat} (hv : v ≤ 6) : 0 ≤ backS a (bwd a k) s v ∧ backS a (bwd a k) s v ≤ 6 * 6 ^ k := by
  have h54 : (0 : Int) ≤ 6 ^ k := Int.le_trans (bwd_bounds a k 0).1 (bwd_bounds a k 0).2
  have h := sumN_bounds (n := v) (f := fun x => if 0 ≤ at0 (rw0 a.next s) x then bwd a k (at0 (rw0 a.next s) x).toNat else 0) (B := 6 ^ k) (fun i _ => by
    by_cases h0 : 0 ≤ at0 (rw0 a.next s) i
    · simp only [if_pos h0]; exact bwd_bounds a k _
    · simp only [if_neg h0]; omega)
  have hv' : (v : Int) ≤ 6 := by omega
  have := Int.mul_le_mul_of_nonneg_right hv' h54
  rw [backS]
  omega
theorem six_pow {k : Nat} (hk : k ≤ 8) : (6 : Int) ^ k ≤ 1679616 := by
  rcases (by omega : k = 0 ∨ k = 1 ∨ k = 2 ∨ k = 3 ∨ k = 4 ∨ k = 5 ∨ k = 6 ∨ k = 7 ∨ k = 8) with rfl | rfl | rfl | rfl | rfl | rfl | rfl | rfl | rfl <;> decide
def fi (a : Au) (s i : Nat) : Int := if i < s then bwd a 0 i else 0
theorem row_congr {w : World} {b n : Nat} {f g : Nat → Int} (h : w.rowIs b 3 n (fun i => vI (f i))) (hfg : ∀ i, i < n → f i = g i) : w.rowIs b 3 n (fun i => vI (g i)) :=
  h.congr fun i hi => by rw [hfg i hi]
end Go.Proofs.Ytdiedghaoleblaa
/- The walk of CountWords in the program. -/
namespace Go.Proofs.Ytdiedghaoleblaa
open Go.RowKit

/-- The next row: what the first s states and the first v values of state s bring. -/
def fx (a : Au) (k s v t : Nat) : Int := rowS a (fwd a k) s t + colS a (fwd a k) s v t
theorem fx_start (a : Au) (k t : Nat) : fx a k 0 0 t = 0 := rfl
theorem fx_end (a : Au) (k s t : Nat) : fx a k s 6 t = fx a k (s + 1) 0 t := by
  unfold fx
  rw [show colS a (fwd a k) (s + 1) 0 t = 0 from rfl, Int.add_zero]
  rfl
theorem fx_last (a : Au) (k t : Nat) : fx a k (a.next.length + 1) 0 t = fwd a (k + 1) t := by
  unfold fx
  rw [show colS a (fwd a k) (a.next.length + 1) 0 t = 0 from rfl, Int.add_zero]
  rfl
theorem fx_succ (a : Au) (k s v t : Nat) : fx a k s (v + 1) t = if mN a s v = t then fx a k s v t + fwd a k s else fx a k s v t := by
  unfold fx
  rw [show colS a (fwd a k) s (v + 1) t = colS a (fwd a k) s v t + (if mN a s v = t then fwd a k s else 0) from rfl]
  split <;> omega
theorem pow54 {k : Nat} (hk : k ≤ 8) : (54 : Int) ^ k ≤ 72301961339136 := by
  rcases (by omega : k = 0 ∨ k = 1 ∨ k = 2 ∨ k = 3 ∨ k = 4 ∨ k = 5 ∨ k = 6 ∨ k = 7 ∨ k = 8) with rfl | rfl | rfl | rfl | rfl | rfl | rfl | rfl | rfl <;> decide
theorem fwd_le {a : Au} (hl : a.next.length ≤ 8) {k : Nat} (hk : k ≤ 8) (t : Nat) : 0 ≤ fwd a k t ∧ fwd a k t ≤ 72301961339136 :=
  ⟨(fwd_bounds hl k t).1, Int.le_trans (fwd_bounds hl k t).2 (pow54 hk)⟩
theorem fx_bounds {a : Au} (hl : a.next.length ≤ 8) {k s v : Nat} (hk : k ≤ 8) (hs : s ≤ 9) (hv : v ≤ 6) (t : Nat) : 0 ≤ fx a k s v t ∧ fx a k s v t ≤ 5000000000000000 := by
  have h1 := rowS_bounds (a := a) (m := fwd a k) (s := s) (t := t) (fun i _ => fwd_le hl hk i)
  have h2 := colS_bounds (a := a) (m := fwd a k) (s := s) (v := v) (t := t) (fwd_le hl hk s)
  unfold fx
  omega
theorem lastS_bounds {a : Au} (hl : a.next.length ≤ 8) {n k : Nat} (hn : n ≤ 8) (hk : k ≤ 9) : 0 ≤ lastS a n k ∧ lastS a n k ≤ 700000000000000 := by
  have h := sumN_bounds (n := k) (f := fun s => if (s : Int) ∈ a.final then fwd a n s else 0) (B := 72301961339136) (fun i _ => by
    have := fwd_le hl hn i
    split <;> omega)
  unfold lastS
  omega
theorem lastS_succ (a : Au) (n k : Nat) : lastS a n (k + 1) = lastS a n k + if (k : Int) ∈ a.final then fwd a n k else 0 := rfl
set_option maxRecDepth 100000 in
set_option maxHeartbeats 4000000 in
theorem CountWordsI_any (vn vf : Value) (a : Au) (n : Int) (w : World) (hN : SRows w vn a.next) (hF : SInts w vf a.final) (hn : I64 n) :
    Calls Try.prog 20 #[.agg #[vn, vf], .int .i64 n] w (Ret (.int .i64 (cwB a n)) w) := by
  have hN0 := hide hN
  have hF0 := hide hF
  obtain ⟨A, c, rfl, -, hln⟩ := hN.form
  obtain ⟨A', c', rfl, -, hlf⟩ := hF.form
  clear hN hF
  have hx0 := (Ext.refl w).alloc (.cells #[.slice A a.next.length c, .slice A' a.final.length c'] 26)
  by_cases hv : vAut a = true
  · by_cases hr : inR n 0 8 = true
    · have hn0 : 0 ≤ n ∧ n ≤ 8 := by simpa [inR] using hr
      obtain ⟨m, rfl⟩ : ∃ m : Nat, n = m := ⟨n.toNat, by omega⟩
      have hm8 : m ≤ 8 := by omega
      have HV := hide hv
      have HRES := hide (show cwB a m = lastS a m (a.next.length + 1) by rw [count_same hv, cwB, hv, hr]; rfl)
      have HOK := hide (mRows_ok hv)
      obtain ⟨hl1, hl8⟩ := vAut_len hv
      clear hn0 hn
      go_enter Try.func20, Try.ntmps20
      go_wp2_with fail
      refine (ValidAutomatonI_any _ _ a _ (hN0.out.ext hx0) (hF0.out.ext hx0)).mono ?_
      rintro e w1 ⟨rfl, hx1⟩
      rw [hv]
      have f0 : w1.cell? ⟨w.heap.size, 0, none⟩ = some (.slice A a.next.length c) := (hx1.cells _ _ (by simp)).trans (by go_simp)
      have f1 : w1.cell? ⟨w.heap.size, 1, none⟩ = some (.slice A' a.final.length c') := (hx1.cells _ _ (by simp)).trans (by go_simp)
      have hx01 := hx0.trans hx1
      clear hx0 hx1 hv
      have HR := hide hr; clear hr
      go_wp2_with (go_at_call 47; refine (within_any _ _ _ _).mono ?_; rintro e w' ⟨rfl, rfl⟩; rw [HR.out])
      refine (machineOf_any _ _ a _ (hN0.out.ext hx01) (hF0.out.ext hx01) HV.out).mono ?_
      rintro e w3 ⟨v3, b3, rfl, hA3, hb3, hr3, hx3⟩
      have hSR := hA3.rows HOK.out.1 HOK.out.2.1 HOK.out.2.2
      have HSR := hide hSR
      obtain ⟨A3, c3, hvv, -⟩ := hA3.form
      rw [mRows_len] at hvv
      subst hvv
      have Hx03 := hide ((hx01.trans hx3).alloc (.cells #[.slice A3 (a.next.length + 1) c3, .slice (some ⟨b3, 0, none⟩) (a.next.length + 1) (a.next.length + 1)] 54))
      have hb3' := hr3.lt
      have HR3 := hide hr3
      clear hA3 hSR hr3 hx3 hx01 f0 f1
      go_wp2_with (at_make; go_must (refine wpList_make_gen _ rfl _ _ 24 rfl 3 (.int .i64 0) 1 8 Try.underlying24 Try.infoI .i64 .i64 (a.next.length + 1) rfl rfl (by omega) (by omega) (fun _ => .int .i64 0) (fun i _ => by simp [Value.cells, Nat.mod_one]) ?_); intro w4 hrow4 hsz4 hx4; rw [Nat.mul_one, World.size_alloc] at hrow4; have y0 := hrow4.cell (i := 0) (by omega); have y1 := hrow4.frozen 0; have HROW4 := hide hrow4; have HX4 := hide hx4; have p0 := (hx4.cells w3.heap.size 0 (by simp)).trans (show _ = some (.slice A3 (a.next.length + 1) c3) by go_simp); have p1 := (hx4.cells w3.heap.size 1 (by simp)).trans (show _ = some (.slice (some ⟨b3, 0, none⟩) (a.next.length + 1) (a.next.length + 1)) by go_simp); have hl4 : w3.heap.size + 1 < w4.heap.size := (by rw [hsz4]; simp); clear hrow4 hsz4 hx4)
      have HX40 := hide (HX4.out.set (p := ⟨w3.heap.size + 1, 0, none⟩) (by simp) (.int .i64 1))
      have HROW0 := hide (show (w4.setCell ⟨w3.heap.size + 1, 0, none⟩ (.int .i64 1)).rowIs (w3.heap.size + 1) 3 (a.next.length + 1) (fun i => vI (fwd a 0 i)) from (HROW4.out.set 0 _).congr fun i hi => by
        show (if i = 0 then _ else _) = _
        rw [fwd]
        by_cases h : i = 0
        · rw [if_pos h, if_pos h.symm]; rfl
        · rw [if_neg h, if_neg (Ne.symm h)]; rfl)
      clear y0 y1 p0 p1
      have p0 := ((HX40.out).cells w3.heap.size 0 (by simp)).trans (show _ = some (.slice A3 (a.next.length + 1) c3) by go_simp)
      have p1 := ((HX40.out).cells w3.heap.size 1 (by simp)).trans (show _ = some (.slice (some ⟨b3, 0, none⟩) (a.next.length + 1) (a.next.length + 1)) by go_simp)
      have HMS := hide (show (w3.alloc (.cells #[.slice A3 (a.next.length + 1) c3, .slice (some ⟨b3, 0, none⟩) (a.next.length + 1) (a.next.length + 1)] 54)).heap.size = w3.heap.size + 1 by simp)
      generalize w4.setCell ⟨w3.heap.size + 1, 0, none⟩ (.int .i64 1) = w5 at *
      have hM5 : w3.heap.size < w5.heap.size := World.block_lt_of_cell? w5 _ p0
      have HW5 := hide (Hx03.out.trans HX40.out)
      have HSR5 := hide (HSR.out.ext (((Ext.refl w3).alloc _).trans HX40.out))
      have HR5 := hide ((((Ext.refl w3).alloc _).trans HX40.out).row HR3.out)
      clear hl4 hb3'
      go_loopw [6, 32] (fun many i wr => ∃ (k b : Nat), k ≤ m ∧ i = .int .i64 k ∧ many = .slice (some ⟨b, 0, none⟩) (a.next.length + 1) (a.next.length + 1) ∧ Ext w5 wr ∧ wr.rowIs b 3 (a.next.length + 1) (fun i => vI (fwd a k i))) (fun _ i _ => m - (intOf i).toNat)
      case atStart => exact ⟨0, _, Nat.zero_le _, rfl, rfl, Ext.refl _, HROW0.out⟩
      case round =>
        obtain ⟨k, b, hk, rfl, rfl, hxr, hrow⟩ := hrel
        obtain ⟨W2, rfl⟩ : ∃ W2, W2 = wr := ⟨wr, rfl⟩
        have hbb := hrow.lt
        have HRB := hide hrow
        have p0 := (hxr.cells _ _ hM5).trans p0
        have p1 := (hxr.cells _ _ hM5).trans p1
        have hMW := Nat.lt_of_lt_of_le hM5 hxr.size
        clear hrow
        by_cases hkm : k < m
        · go_wp2_with (at_make; go_must (refine wpList_make_gen _ rfl _ _ 24 rfl 3 (.int .i64 0) 1 8 Try.underlying24 Try.infoI .i64 .i64 (a.next.length + 1) rfl rfl (by omega) (by omega) (fun _ => .int .i64 0) (fun i _ => by simp [Value.cells, Nat.mod_one]) ?_); intro w6 hrow6 hsz6 hx6; rw [Nat.mul_one] at hrow6; have HROW6 := hide hrow6; have HX6 := hide hx6; have p0 := (hx6.cells _ _ hMW).trans p0; have hMW6 := Nat.lt_of_lt_of_le hMW hx6.size; clear hrow6 hsz6 hx6)
          go_loopw [40] (fun i wr => ∃ s : Nat, s ≤ a.next.length + 1 ∧ i = .int .i64 s ∧ Ext W2 wr ∧ wr.rowIs W2.heap.size 3 (a.next.length + 1) (fun i => vI (fx a k s 0 i))) (fun i _ => a.next.length + 1 - (intOf i).toNat)
          case atStart => exact ⟨0, Nat.zero_le _, rfl, HX6.out, HROW6.out.congr fun i hi => by rw [fx_start]; rfl⟩
          case round =>
            obtain ⟨s, hs, rfl, hxs, hrows⟩ := hrel
            have HRS := hide hrows
            have hBs := hrows.lt
            clear hrows
            by_cases hsl : s < a.next.length + 1
            · have hsI : (s : Int) < (a.next.length : Int) + 1 := by omega
              obtain ⟨rb, roff, A4, c4, rfl, hbl4, g1, hrow4⟩ := (HSR5.out.ext hxr).at_ (k := s) (by rw [mRows_len]; exact hsl)
              obtain ⟨r1, r2⟩ := mRows_row HV.out hsl
              rw [r1] at g1 hrow4
              have g1 := (hxs.cells _ _ hbl4).trans g1
              have hbl4 := Nat.lt_of_lt_of_le hbl4 hxs.size
              have HR2 := hide r2
              have H4 := hide hrow4
              clear hrow4 r2
              go_wp2_with fail
              obtain ⟨W7, rfl⟩ : ∃ W7, W7 = wr := ⟨wr, rfl⟩
              go_loopw [47] (fun i wr => ∃ v : Nat, v ≤ 6 ∧ i = .int .i64 v ∧ Ext W2 wr ∧ wr.rowIs W2.heap.size 3 (a.next.length + 1) (fun i => vI (fx a k s v i))) (fun i _ => 6 - (intOf i).toNat)
              case atStart => exact ⟨0, Nat.zero_le _, rfl, hxs, HRS.out⟩
              case round =>
                obtain ⟨v, hv6, rfl, hxv, hrowv⟩ := hrel
                have HRV := hide hrowv
                have hBv := hrowv.lt
                by_cases hvl : v < 6
                · have hvI : (v : Int) < 6 := by omega
                  obtain ⟨b6, off6, rfl, hbl6, g2⟩ := (H4.out.ext hxv).at_ (k := v) (by omega)
                  obtain ⟨t1, t2⟩ := HR2.out v hvl
                  have t3 : at0 (rw0 (mRows a) s) v < (a.next.length : Int) + 1 := by omega
                  have n0 : wr.cell? ⟨W2.heap.size, (at0 (rw0 (mRows a) s) v).toNat, none⟩ = some (.int .i64 (fx a k s v (mN a s v))) := hrowv.cell (i := (at0 (rw0 (mRows a) s) v).toNat) (by omega)
                  have m0 : wr.cell? ⟨b, s, none⟩ = some (.int .i64 (fwd a k s)) := (hxv.row HRB.out).cell hsl
                  have hbb' := Nat.lt_of_lt_of_le hbb hxv.size
                  obtain ⟨q1, q2⟩ := fx_bounds hl8 (k := k) (s := s) (v := v) (by omega) (by omega) hv6 (mN a s v)
                  obtain ⟨q3, q4⟩ := fwd_le hl8 (k := k) (by omega) s
                  clear hrowv
                  go_wp2
                  refine wp_region_ext_tail 10 (by kernel_rfl) (by kernel_rfl) ?_
                  simp only [List.take_succ_cons, List.take_zero, List.drop_succ_cons, List.drop_zero]
                  have hwr := IntWalk.i64_in (fx a k s v (mN a s v) + fwd a k s) (by omega)
                  iterate 10 (apply quiet_val; (focus rfl); (focus (intro w' hw'; have hk' := hw'.cells; go_simp; all_goals exact rfl)); simp only [Act.put, List.setIfInBounds_toArray, List.set_cons_succ, List.set_cons_zero])
                  clear hwr
                  refine wpQuiet_nil ?_
                  intro w8 hx8
                  have r8 := hx8.row HRV.out
                  have u8 := r8.cell (i := (at0 (rw0 (mRows a) s) v).toNat) (by omega)
                  have z8 := r8.frozen (at0 (rw0 (mRows a) s) v).toNat
                  have R8 := hide r8; clear r8
                  go_wp2
                  go_roundw
                  case rel =>
                    refine ⟨v + 1, by omega, by go_num, (hxv.trans hx8).set (Nat.le_refl _) _, (R8.out.set _ _).congr fun i hi => ?_⟩
                    show (if i = _ then _ else vI (fx a k s v i)) = _
                    rw [fx_succ, show (at0 (rw0 (mRows a) s) v).toNat = mN a s v from rfl]
                    by_cases h : i = mN a s v
                    · subst h; rw [if_pos rfl, if_pos rfl]; rfl
                    · rw [if_neg h, if_neg (Ne.symm h)]
                  case measure => simp [intOf]; omega
                · have hv6' : v = 6 := by omega
                  subst hv6'
                  clear hrowv
                  go_wp2
                  go_roundw
                  case rel => exact ⟨s + 1, by omega, by go_num, hxv, row_congr HRV.out fun i hi => fx_end a k s i⟩
                  case measure => simp [intOf]; omega
            · have hsl' : s = a.next.length + 1 := by omega
              subst hsl'
              go_wp2
              go_roundw
              case rel => exact ⟨k + 1, _, by omega, by go_num, rfl, hxr.trans hxs, row_congr HRS.out fun i hi => fx_last a k i⟩
              case measure => simp [intOf]; omega
        · have hkm' : k = m := by omega
          subst hkm'
          go_wp2_with fail
          go_loop [12, 67] (fun sum i => ∃ s : Nat, s ≤ a.next.length + 1 ∧ i = .int .i64 s ∧ sum = .int .i64 (lastS a k s)) (fun _ i => a.next.length + 1 - (intOf i).toNat)
          case atStart => exact ⟨0, Nat.zero_le _, rfl, rfl⟩
          case round =>
            obtain ⟨s, hs, rfl, rfl⟩ := hrel
            by_cases hsl : s < a.next.length + 1
            · have hsI : (s : Int) < (a.next.length : Int) + 1 := by omega
              have c0 : W2.cell? ⟨b, s, none⟩ = some (.int .i64 (fwd a k s)) := HRB.out.cell hsl
              have e0 : W2.cell? ⟨b3, s, none⟩ = some (mFin a.final a.final.length s) := (hxr.row HR5.out).cell hsl
              rw [mFin, List.take_length] at e0
              have hbM := (hxr.row HR5.out).lt
              obtain ⟨q1, q2⟩ := lastS_bounds hl8 (n := k) (k := s) (by omega) (by omega)
              obtain ⟨q3, q4⟩ := fwd_le hl8 (k := k) (by omega) s
              have hstep := hide (lastS_succ a k s)
              by_cases hm : (s : Int) ∈ a.final
              · rw [decide_eq_true hm] at e0
                have HM := hide hm; clear hm
                go_wp2
                go_round
                case rel => exact ⟨s + 1, by omega, by go_num, by rw [hstep.out, if_pos HM.out]⟩
                case measure => simp [intOf]; omega
              · rw [decide_eq_false hm] at e0
                have HM := hide hm; clear hm
                go_wp2
                go_round
                case rel => exact ⟨s + 1, by omega, by go_num, by rw [hstep.out, if_neg HM.out, Int.add_zero]⟩
                case measure => simp [intOf]; omega
            · have hsl' : s = a.next.length + 1 := by omega
              subst hsl'
              go_wp2
              go_ret
              exact Ret.mk (ret_i HRES.out.symm) (HW5.out.trans hxr)
    · have hr' : inR n 0 8 = false := Bool.eq_false_iff.2 hr
      have HRES := hide (show cwB a n = -1 by rw [cwB, hr']; simp)
      clear hr
      go_enter Try.func20, Try.ntmps20
      go_wp2_with fail
      refine (ValidAutomatonI_any _ _ a _ (hN0.out.ext hx0) (hF0.out.ext hx0)).mono ?_
      rintro e w1 ⟨rfl, hx1⟩
      rw [hv]
      go_wp2_with (go_at_call 47; refine (within_any _ _ _ _).mono ?_; rintro e w' ⟨rfl, rfl⟩; rw [hr'])
      go_ret
      exact Ret.mk (ret_i HRES.out.symm) (hx0.trans hx1)
  · have hv' : vAut a = false := Bool.eq_false_iff.2 hv
    have HRES := hide (show cwB a n = -1 by rw [cwB, hv']; rfl)
    clear hv
    go_enter Try.func20, Try.ntmps20
    go_wp2_with fail
    refine (ValidAutomatonI_any _ _ a _ (hN0.out.ext hx0) (hF0.out.ext hx0)).mono ?_
    rintro e w1 ⟨rfl, hx1⟩
    rw [hv']
    go_wp2
    go_ret
    exact Ret.mk (ret_i HRES.out.symm) (hx0.trans hx1)
end Go.Proofs.Ytdiedghaoleblaa
