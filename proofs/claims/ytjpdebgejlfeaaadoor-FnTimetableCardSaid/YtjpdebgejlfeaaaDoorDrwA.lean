/- Draws of the generator: rows of numbers of which only a range is known. -/
import Derived.Test.YtjpdebgejlfeaaaDoorRdA
import Derived.Test.YtjpdebgejlfeaaaDoorApp
import Derived.Test.YtjpdebgejlfeaaaDoorLwsA
import Derived.Test.YtjpdebgejlfeaaaDoorDom
import Derived.Test.YtjpdebgejlfeaaaDoorAppZ
namespace Go.Proofs.YtjpdebgejlfeaaaDoor
open Go.RowKit

/-- v is a slice at the head of a block from base on, of n elements of size cells, each a number in a range. -/
def LR (base : Nat) (e : TypeId) (size : Nat) (w : World) (v : Value) (n : Nat) (lo hi : Int) : Prop :=
  ∃ g cap f, v = .slice (some ⟨g, 0, none⟩) n cap ∧ base ≤ g ∧ n ≤ cap ∧ cap ≤ maxLen ∧ w.rowIs g e (cap * size) f ∧ ∀ i, i < n * size → ∃ x : Int, f i = vI x ∧ lo ≤ x ∧ x ≤ hi
theorem LR.form {base : Nat} {e : TypeId} {size : Nat} {w : World} {v : Value} {n : Nat} {lo hi : Int} (h : LR base e size w v n lo hi) : ∃ g cap, v = .slice (some ⟨g, 0, none⟩) n cap ∧ base ≤ g ∧ g < w.heap.size ∧ n ≤ cap := by
  obtain ⟨g, cap, f, h1, h2, h3, -, h4, -⟩ := h
  exact ⟨g, cap, h1, h2, h4.lt, h3⟩
theorem LR.keep {base : Nat} {e : TypeId} {size : Nat} {w w' : World} {v : Value} {n : Nat} {lo hi : Int} {S : Nat → Prop} (h : LR base e size w v n lo hi) (hk : Keep S w w') (hS : ∀ k, base ≤ k → S k) : LR base e size w' v n lo hi := by
  obtain ⟨g, cap, f, h1, h2, h3, h3', h4, h5⟩ := h
  exact ⟨g, cap, f, h1, h2, h3, h3', hk.row (hS g h2) h4, h5⟩
theorem LR.ext {base : Nat} {e : TypeId} {size : Nat} {w w' : World} {v : Value} {n : Nat} {lo hi : Int} (h : LR base e size w v n lo hi) (hx : Ext w w') : LR base e size w' v n lo hi := h.keep (hx.keep (fun _ => True)) (fun _ _ => trivial)
theorem LR.mono {base b0 : Nat} {e : TypeId} {size : Nat} {w : World} {v : Value} {n : Nat} {lo hi l2 h2 : Int} (h : LR base e size w v n lo hi) (hb : b0 ≤ base) (hl : l2 ≤ lo) (hh : hi ≤ h2) : LR b0 e size w v n l2 h2 := by
  obtain ⟨g, cap, f, q1, q2, q3, q3', q4, q5⟩ := h
  exact ⟨g, cap, f, q1, by omega, q3, q3', q4, fun i hi => by obtain ⟨x, a, b, c⟩ := q5 i hi; exact ⟨x, a, by omega, by omega⟩⟩
theorem LR.empty (e : TypeId) (size : Nat) (w : World) (lo hi : Int) : LR w.heap.size e size (w.alloc (.cells #[] e)) (.slice (some ⟨w.heap.size, 0, none⟩) 0 0) 0 lo hi :=
  ⟨w.heap.size, 0, fun _ => .bool false, rfl, Nat.le_refl _, Nat.le_refl _, by unfold maxLen; omega, ⟨#[], World.alloc_heap_new w _, by simp, fun i hi => absurd hi (by omega)⟩, fun i hi => absurd hi (by omega)⟩
theorem LR.owns {base : Nat} {e : TypeId} {size : Nat} {w : World} {v : Value} {n : Nat} {lo hi : Int} (h : LR base e size w v n lo hi) :
    ∃ xs, w.ownsRow base e size v n xs ∧ (∀ u ∈ xs, ∃ x : Int, u = vI x ∧ lo ≤ x ∧ x ≤ hi) := by
  obtain ⟨g, cap, f, h1, h2, h3, h3', ⟨cur, k1, k2, k3⟩, h5⟩ := h
  have hle : n * size ≤ cap * size := Nat.mul_le_mul_right _ h3
  refine ⟨cur.toList.take (n * size), ⟨by simp; omega, .inr ⟨g, cap, cur, h1, h2, k1, h3, h3', k2, rfl⟩⟩, fun u hu => ?_⟩
  obtain ⟨i, hi, rfl⟩ := List.mem_iff_getElem.1 hu
  have hi' : i < n * size := by simp at hi; omega
  obtain ⟨x, e1, e2, e3⟩ := h5 i hi'
  refine ⟨x, ?_, e2, e3⟩
  have := k3 i (by omega)
  rw [List.getElem_take, Array.getElem_toList]
  rw [Array.getElem?_eq_some_iff] at this
  obtain ⟨_, this⟩ := this
  rw [this, e1]
theorem LR.of_owns {base : Nat} {e : TypeId} {size : Nat} {w : World} {v : Value} {n : Nat} {xs : List Value} {lo hi : Int} (h : w.ownsRow base e size v n xs) (hn : 0 < n) (hx : ∀ u ∈ xs, ∃ x : Int, u = vI x ∧ lo ≤ x ∧ x ≤ hi) : LR base e size w v n lo hi := by
  rcases h.2 with ⟨-, h0⟩ | ⟨g, cap, cur, h1, h2, k1, h3, h3', k2, k3⟩
  · omega
  · refine ⟨g, cap, fun i => cur.getD i (.bool false), h1, h2, h3, h3', ⟨cur, k1, k2, fun i hi => by show _ = some (cur.getD i _); rw [Array.getD_eq_getD_getElem?, Array.getElem?_eq_getElem (by omega)]; rfl⟩, fun i hi => ?_⟩
    have hle : n * size ≤ cap * size := Nat.mul_le_mul_right _ h3
    have hi2 : i < cur.size := by omega
    have hmem : cur[i] ∈ xs := by
      rw [← k3]
      refine List.mem_iff_getElem.2 ⟨i, by simp; omega, ?_⟩
      rw [List.getElem_take, Array.getElem_toList]
    obtain ⟨x, e1, e2, e3⟩ := hx _ hmem
    exact ⟨x, by show cur.getD i _ = _; rw [Array.getD_eq_getD_getElem?, Array.getElem?_eq_getElem hi2]; exact e1, e2, e3⟩
theorem LR.set {base : Nat} {e : TypeId} {size : Nat} {w : World} {g cap n : Nat} {lo hi : Int} (h : LR base e size w (.slice (some ⟨g, 0, none⟩) n cap) n lo hi) (i : Nat) (x : Int) (hx : lo ≤ x ∧ x ≤ hi) : LR base e size (w.setCell ⟨g, i, none⟩ (.int .i64 x)) (.slice (some ⟨g, 0, none⟩) n cap) n lo hi := by
  obtain ⟨g', cap', f, h1, h2, h3, h3', h4, h5⟩ := h
  injection h1 with e1 e2 e3
  injection e1 with e1
  injection e1 with e1 e4
  subst e1; subst e3
  refine ⟨g, cap, _, rfl, h2, h3, h3', h4.set i (.int .i64 x), fun j hj => ?_⟩
  show ∃ y : Int, (if j = i then _ else f j) = _ ∧ _
  by_cases hji : j = i
  · rw [if_pos hji]; exact ⟨x, rfl, hx.1, hx.2⟩
  · rw [if_neg hji]; exact h5 j hj
theorem LR.cell {base : Nat} {e : TypeId} {size : Nat} {w : World} {g cap n : Nat} {lo hi : Int} (h : LR base e size w (.slice (some ⟨g, 0, none⟩) n cap) n lo hi) {i : Nat} (hi' : i < n * size) : (∃ x : Int, w.cell? ⟨g, i, none⟩ = some (.int .i64 x) ∧ lo ≤ x ∧ x ≤ hi) ∧ w.frozen? ⟨g, i, none⟩ = false := by
  obtain ⟨g', cap', f, h1, h2, h3, h3', h4, h5⟩ := h
  injection h1 with e1 e2 e3
  injection e1 with e1
  injection e1 with e1 e4
  subst e1; subst e3
  have hle : n * size ≤ cap * size := Nat.mul_le_mul_right _ h3
  obtain ⟨x, q1, q2, q3⟩ := h5 i hi'
  exact ⟨⟨x, by rw [h4.cell (by omega), q1]; rfl, q2, q3⟩, h4.frozen i⟩
theorem LR.ints {base : Nat} {w : World} {v : Value} {n : Nat} {lo hi : Int} (h : LR base 3 1 w v n lo hi) (hn : n ≤ 1000000) (h1 : -9223372036854775808 ≤ lo) (h2 : hi ≤ 9223372036854775807) : ∃ xs : List Int, xs.length = n ∧ SInts w v xs ∧ ∀ i, i < n → lo ≤ at0 xs i ∧ at0 xs i ≤ hi := by
  obtain ⟨g, cap, f, rfl, k2, k3, k3', k4, k5⟩ := h
  refine ⟨(List.range n).map fun i => match f i with | .int _ x => x | _ => 0, by simp, ?_, fun i hi => ?_⟩
  · refine ⟨_, cap, by simp, by simpa using k3, by simp; omega, fun i hi => ?_, fun _ => ⟨g, 0, rfl, k4.lt, fun i hi => ?_⟩⟩
    · have hi' : i < n := by simpa using hi
      obtain ⟨x, q1, q2, q3⟩ := k5 i (by omega)
      have : at0 ((List.range n).map fun i => match f i with | .int _ x => x | _ => 0) i = x := by simp [at0, List.getD_eq_getElem?_getD, hi', q1, vI]
      rw [this]; unfold I64; omega
    · have hi' : i < n := by simpa using hi
      obtain ⟨x, q1, q2, q3⟩ := k5 i (by omega)
      have : at0 ((List.range n).map fun i => match f i with | .int _ x => x | _ => 0) i = x := by simp [at0, List.getD_eq_getElem?_getD, hi', q1, vI]
      rw [this, Nat.zero_add, k4.cell (by omega), q1]; rfl
  · obtain ⟨x, q1, q2, q3⟩ := k5 i (by omega)
    have : at0 ((List.range n).map fun i => match f i with | .int _ x => x | _ => 0) i = x := by simp [at0, List.getD_eq_getElem?_getD, hi, q1, vI]
    rw [this]; exact ⟨q2, q3⟩
def nmb : Value → Int
  | .int _ x => x
  | _ => 0
theorem LR.tasks {base : Nat} {w : World} {v : Value} {n : Nat} {lo hi : Int} (h : LR base 42 3 w v n lo hi) (hn : n ≤ 1000000) (h1 : -9223372036854775808 ≤ lo) (h2 : hi ≤ 9223372036854775807) : ∃ ts : List Tk, ts.length = n ∧ STasks w v ts := by
  obtain ⟨g, cap, f, rfl, k2, k3, k3', k4, k5⟩ := h
  have ht : ∀ i, i < n → tk0 ((List.range n).map fun i => Tk.mk (nmb (f (i * 3))) (nmb (f (i * 3 + 1))) (nmb (f (i * 3 + 2)))) i = Tk.mk (nmb (f (i * 3))) (nmb (f (i * 3 + 1))) (nmb (f (i * 3 + 2))) := fun i hi => by simp [tk0, List.getD_eq_getElem?_getD, hi]
  refine ⟨(List.range n).map fun i => Tk.mk (nmb (f (i * 3))) (nmb (f (i * 3 + 1))) (nmb (f (i * 3 + 2))), by simp, _, cap, by simp, by simpa using k3, by simp; omega, fun i hi => ?_, fun _ => ⟨g, 0, rfl, k4.lt, fun i hi => ?_⟩⟩
  · have hi' : i < n := by simpa using hi
    obtain ⟨x, q1, q2, q3⟩ := k5 (i * 3) (by omega)
    obtain ⟨y, r1, r2, r3⟩ := k5 (i * 3 + 1) (by omega)
    obtain ⟨z, s1, s2, s3⟩ := k5 (i * 3 + 2) (by omega)
    unfold tkS tkD tkM
    rw [ht i hi', q1, r1, s1]
    refine ⟨?_, ?_, ?_⟩ <;> (show I64 _; simp only [nmb, vI, I64]; omega)
  · have hi' : i < n := by simpa using hi
    obtain ⟨x, q1, q2, q3⟩ := k5 (i * 3) (by omega)
    obtain ⟨y, r1, r2, r3⟩ := k5 (i * 3 + 1) (by omega)
    obtain ⟨z, s1, s2, s3⟩ := k5 (i * 3 + 2) (by omega)
    unfold tkS tkD tkM
    rw [ht i hi', q1, r1, s1]
    refine ⟨?_, ?_, ?_⟩
    · rw [Nat.zero_add, k4.cell (by omega), q1]; rfl
    · rw [Nat.zero_add, k4.cell (by omega), r1]; rfl
    · rw [Nat.zero_add, k4.cell (by omega), s1]; rfl
end Go.Proofs.YtjpdebgejlfeaaaDoor
/- Draws of the generator: append; a number of a list; a random task. -/
namespace Go.Proofs.YtjpdebgejlfeaaaDoor
open Go.RowKit

theorem vI_one {u : Value} {lo hi : Int} (h : ∃ x : Int, u = vI x ∧ lo ≤ x ∧ x ≤ hi) : u.oneCell' = true := by obtain ⟨x, rfl, -⟩ := h; rfl
/-- append to a loose row: m elements that lie at the head of block b. -/
theorem run_appL {P : Program} (w : World) (base : Nat) (t ty e : TypeId) (i : TypeInfo) (z : Value) (size bytes : Nat) (ht : P.underlying t = some (.slice e)) (hi : P.info? e = some i) (hz : i.zero = some z)
    (hsz : i.size = size) (hby : i.bytes = bytes) (hzs : z.cells.size = size) (hs0 : 0 < size) (v : Value) (n m : Nat) (lo hi' : Int) (hown : LR base e size w v n lo hi') (b c : Nat) (hm : 0 < n + m)
    (hnews : ∀ j, j < m * size → ∃ x : Int, w.cell? ⟨b, j, none⟩ = some (vI x) ∧ lo ≤ x ∧ x ≤ hi') (h1 : n + m ≤ 1000000) (h2 : bytes ≤ 1000) (hb : base ≤ w.heap.size) :
    ∃ v' w', (Builtin.append_ #[t, t] ty #[v, .slice (some ⟨b, 0, none⟩) m c]).run P w = .ok v' w' ∧ LR base e size w' v' (n + m) lo hi' ∧ Below base w w' := by
  obtain ⟨xs, h3, h4⟩ := hown.owns
  have hnum : ∀ j, j < m * size → ∃ u : Value, w.cell? ⟨b, j, none⟩ = some u ∧ ∃ x : Int, u = vI x ∧ lo ≤ x ∧ x ≤ hi' := fun j hj => by obtain ⟨x, a1, a2, a3⟩ := hnews j hj; exact ⟨_, a1, x, rfl, a2, a3⟩
  obtain ⟨news, hl, hc, hr⟩ : ∃ news : List Value, news.length = m * size ∧ (∀ j u, news[j]? = some u → w.cell? ⟨b, j, none⟩ = some u) ∧ ∀ u ∈ news, ∃ x : Int, u = vI x ∧ lo ≤ x ∧ x ≤ hi' := by
    refine ⟨(List.range (m * size)).map fun j => (w.cell? ⟨b, j, none⟩).getD undef, by simp, fun j u hj => ?_, fun u hu => ?_⟩
    · rw [List.getElem?_map] at hj
      obtain ⟨j', e1, e2⟩ := Option.map_eq_some_iff.1 hj
      have hjl : j < m * size := by have := (List.getElem?_eq_some_iff.1 e1).1; simpa using this
      rw [List.getElem?_range hjl] at e1
      injection e1 with e1
      subst e1
      obtain ⟨u', a1, -⟩ := hnum j hjl
      rw [a1] at e2 ⊢
      exact congrArg some e2
    · simp only [List.mem_map, List.mem_range] at hu
      obtain ⟨j, hj, rfl⟩ := hu
      obtain ⟨u', a1, a2⟩ := hnum j hj
      rw [a1]; exact a2
  have hle : (n + m) * bytes ≤ 1000000 * 1000 := Nat.mul_le_mul h1 h2
  obtain ⟨v', w', e1, e2, e3, -⟩ := run_append_own (P := P) w base t ty e i z size bytes ht hi hz hsz hby hzs hs0 v n xs h3 ⟨b, 0, none⟩ m c news hl (fun j u hj => by
    have hadd : (⟨b, 0, none⟩ : Addr).add j = ⟨b, j, none⟩ := by unfold Addr.add; split <;> simp_all
    rw [hadd]; exact hc j u hj) (fun u hu => vI_one (hr u hu)) (by unfold maxLen; omega) (by omega) hb
  refine ⟨v', w', e1, LR.of_owns e2 (by omega) (fun u hu => (List.mem_append.1 hu).elim (h4 u) (hr u)), ⟨e3.os, e3.tape, e3.output, e3.size, fun k hk => e3.block k (by omega) (fun e => ?_)⟩⟩
  have := (World.ownsRow.lt h3 k e.symm).1
  omega
theorem wpList_appLT (w : World) {ops : Array Oper} {rest : List Oper} {o : Oper} {a : Act} {Q : Exit → Act → World → Prop} (hgd : o.guard = none) (s x : Operand)
    (ho : o.op = .call { callee := .builtin .append, args := #[s, x], argTypes := #[26, 26] })
    (base : Nat) (v : Value) (n m : Nat) (lo hi : Int) (b c : Nat) (hs : a.eval s = v) (hx : a.eval x = .slice (some ⟨b, 0, none⟩) m c)
    (hown : LR base 42 3 w v n lo hi) (hm : 0 < n + m) (hc : ∀ j, j < m * 3 → ∃ x : Int, w.cell? ⟨b, j, none⟩ = some (vI x) ∧ lo ≤ x ∧ x ≤ hi) (hl : n + m ≤ 1000000) (hbase : base ≤ w.heap.size)
    (h : ∀ v' w', LR base 42 3 w' v' (n + m) lo hi → Below base w w' → wpList Tryd.prog ops Q rest (a.put o.dst v') w') : wpList Tryd.prog ops Q (o :: rest) a w := by
  obtain ⟨i, hi', hz⟩ := Option.map_eq_some_iff.1 Tryd.infoT
  simp only [Prod.mk.injEq] at hz
  obtain ⟨v', w', hrun, h1, h2⟩ := run_appL w base 26 o.type 42 i _ 3 24 Tryd.underlying26 hi' hz.1 hz.2.1 hz.2.2 rfl (by omega) v n m lo hi hown b c hm hc hl (by omega) hbase
  refine wpList_plain hgd fun K hK => ?_
  unfold Oper.wp
  simp [execOp, ho, resolve, invoke, builtin, hs, hx, hrun, Result.andThen]
  exact hK _ _ (h v' w' h1 h2)
theorem wpList_appLI (w : World) {ops : Array Oper} {rest : List Oper} {o : Oper} {a : Act} {Q : Exit → Act → World → Prop} (hgd : o.guard = none) (s x : Operand)
    (ho : o.op = .call { callee := .builtin .append, args := #[s, x], argTypes := #[24, 24] })
    (base : Nat) (v : Value) (n m : Nat) (lo hi : Int) (b c : Nat) (hs : a.eval s = v) (hx : a.eval x = .slice (some ⟨b, 0, none⟩) m c)
    (hown : LR base 3 1 w v n lo hi) (hm : 0 < n + m) (hc : ∀ j, j < m * 1 → ∃ x : Int, w.cell? ⟨b, j, none⟩ = some (vI x) ∧ lo ≤ x ∧ x ≤ hi) (hl : n + m ≤ 1000000) (hbase : base ≤ w.heap.size)
    (h : ∀ v' w', LR base 3 1 w' v' (n + m) lo hi → Below base w w' → wpList Tryd.prog ops Q rest (a.put o.dst v') w') : wpList Tryd.prog ops Q (o :: rest) a w := by
  obtain ⟨i, hi', hz, hsz, hby⟩ := Tryd.infoIp
  obtain ⟨v', w', hrun, h1, h2⟩ := run_appL w base 24 o.type 3 i _ 1 8 Tryd.underlying24 hi' hz hsz hby rfl (by omega) v n m lo hi hown b c hm hc hl (by omega) hbase
  refine wpList_plain hgd fun K hK => ?_
  unfold Oper.wp
  simp [execOp, ho, resolve, invoke, builtin, hs, hx, hrun, Result.andThen]
  exact hK _ _ (h v' w' h1 h2)
/-- A number of a range came. -/
def Drawn (w0 : World) (br N : Nat) (lo hi : Int) (W : World) (e : Ending) (W' : World) : Prop :=
  ∃ v : Int, lo ≤ v ∧ v ≤ hi ∧ e = .returned (.int .i64 v) ∧ RdSt w0 br N W' ∧ Keep (fun k => k ≠ br) W W'
set_option maxHeartbeats 1000000 in
theorem one_any (w0 : World) (br N : Nat) (lo hi : Int) (b n c : Nat) (W : World) (hn : 1 ≤ n) (hn1 : n ≤ 1000) (hN : N ≤ 100000) (hR : RdSt w0 br N W) (hb : b < W.heap.size) (hbr : b ≠ br) (hc : ∀ i, i < n → ∃ x : Int, W.cell? ⟨b, i, none⟩ = some (vI x) ∧ lo ≤ x ∧ x ≤ hi) (_hcap : n ≤ c) :
    Calls Tryd.prog 53 #[.pointer (some ⟨br, 0, none⟩), .slice (some ⟨b, 0, none⟩) n c] W (Drawn w0 br (N + 1) lo hi W) := by
  have HC := hide hc
  clear hc
  go_enter Tryd.func53, Tryd.ntmps53
  go_wp2_with fail
  refine (pick_any w0 br N n _ hn (by omega) (by omega) hR).mono ?_
  rintro e W1 ⟨v, v0, v1, rfl, hR1, hK1⟩
  obtain ⟨x, hx, x0, x1⟩ := HC.out v.toNat (by omega)
  have hx1 := (hK1.cell (p := ⟨b, v.toNat, none⟩) hb hbr).trans hx
  unfold vI at hx1
  have HR1 := hide hR1
  have HK1 := hide hK1
  clear hR1 hK1 hx
  go_wp2
  go_ret
  exact ⟨x, x0, x1, rfl, HR1.out, HK1.out⟩
def domR (lo hi : Int) : Nat → Int
  | 0 => 0
  | k + 1 => domR lo hi k + if lo ≤ (k : Int) ∧ (k : Int) ≤ hi then 2 ^ k else 0
theorem domR_bd (lo hi : Int) : ∀ k, k ≤ 6 → 0 ≤ domR lo hi k ∧ domR lo hi k < 2 ^ k
  | 0, _ => by simp [domR]
  | k + 1, hk => by
    have := domR_bd lo hi k (by omega)
    rw [domR, Int.pow_succ]
    split <;> omega
end Go.Proofs.YtjpdebgejlfeaaaDoor
/- Draws of the generator: a random task, and tasks. -/
namespace Go.Proofs.YtjpdebgejlfeaaaDoor
open Go.RowKit

/-- A domain came. -/
def DomGot (w : World) (e : Ending) (w' : World) : Prop := ∃ d : Int, 0 ≤ d ∧ d ≤ 63 ∧ e = .returned (.int .i64 d) ∧ w = w'
set_option maxRecDepth 100000 in
set_option maxHeartbeats 4000000 in
theorem DomainRangeS_any (l h : Int) (w : World) : Calls Tryd.prog 70 #[.int .i64 l, .int .i64 h] w (DomGot w) := by
  go_enter Tryd.func70, Tryd.ntmps70
  go_wp2
  go_loop [5, 6] (fun d i => ∃ (k : Nat) (x : Int), k ≤ 6 ∧ i = .int .i64 k ∧ d = .int .i64 x ∧ 0 ≤ x ∧ x < 2 ^ k) (fun _ i => 6 - (intOf i).toNat)
  case atStart => exact ⟨0, 0, Nat.zero_le _, rfl, rfl, by omega, by decide⟩
  case round =>
    obtain ⟨k, x, hk, rfl, rfl, h0, h1⟩ := hrel
    by_cases hl : k < 6
    · rcases (by omega : k = 0 ∨ k = 1 ∨ k = 2 ∨ k = 3 ∨ k = 4 ∨ k = 5) with rfl | rfl | rfl | rfl | rfl | rfl
      · have h1' : x < 1 := h1
        clear h1
        go_wp2
        all_goals
          go_round
          case rel => first
            | exact ⟨1, x + 1, by omega, rfl, rfl, by omega, by show x + 1 < 2; omega⟩
            | exact ⟨1, x, by omega, rfl, rfl, by omega, by show x < 2; omega⟩
          case measure => simp [intOf]
      · have h1' : x < 2 := h1
        clear h1
        go_wp2
        all_goals
          go_round
          case rel => first
            | exact ⟨2, x + 2, by omega, rfl, rfl, by omega, by show x + 2 < 4; omega⟩
            | exact ⟨2, x, by omega, rfl, rfl, by omega, by show x < 4; omega⟩
          case measure => simp [intOf]
      · have h1' : x < 4 := h1
        clear h1
        go_wp2
        all_goals
          go_round
          case rel => first
            | exact ⟨3, x + 4, by omega, rfl, rfl, by omega, by show x + 4 < 8; omega⟩
            | exact ⟨3, x, by omega, rfl, rfl, by omega, by show x < 8; omega⟩
          case measure => simp [intOf]
      · have h1' : x < 8 := h1
        clear h1
        go_wp2
        all_goals
          go_round
          case rel => first
            | exact ⟨4, x + 8, by omega, rfl, rfl, by omega, by show x + 8 < 16; omega⟩
            | exact ⟨4, x, by omega, rfl, rfl, by omega, by show x < 16; omega⟩
          case measure => simp [intOf]
      · have h1' : x < 16 := h1
        clear h1
        go_wp2
        all_goals
          go_round
          case rel => first
            | exact ⟨5, x + 16, by omega, rfl, rfl, by omega, by show x + 16 < 32; omega⟩
            | exact ⟨5, x, by omega, rfl, rfl, by omega, by show x < 32; omega⟩
          case measure => simp [intOf]
      · have h1' : x < 32 := h1
        clear h1
        go_wp2
        all_goals
          go_round
          case rel => first
            | exact ⟨6, x + 32, by omega, rfl, rfl, by omega, by show x + 32 < 64; omega⟩
            | exact ⟨6, x, by omega, rfl, rfl, by omega, by show x < 64; omega⟩
          case measure => simp [intOf]
    · obtain rfl : k = 6 := by omega
      have h1' : x ≤ 63 := by have : x < 64 := h1; omega
      clear h1
      go_wp2
      go_ret
      exact ⟨x, h0, h1', rfl, rfl⟩
/-- A task came. -/
def TaskGot (w0 : World) (br N : Nat) (W : World) (e : Ending) (W' : World) : Prop :=
  ∃ s d m : Int, 0 ≤ s ∧ s ≤ 100 ∧ 0 ≤ d ∧ d ≤ 100 ∧ 0 ≤ m ∧ m ≤ 100 ∧ e = .returned (.agg #[.int .i64 s, .int .i64 d, .int .i64 m]) ∧ RdSt w0 br N W' ∧ Keep (fun k => k ≠ br) W W'
end Go.Proofs.YtjpdebgejlfeaaaDoor
/- Draws of the generator: rows of numbers, distinct variables. -/
namespace Go.Proofs.YtjpdebgejlfeaaaDoor
open Go.RowKit

theorem new1 (w : World) (t : TypeId) {y lo hi : Int} (h : lo ≤ y ∧ y ≤ hi) : ∀ j, j < 1 * 1 → ∃ x : Int, (w.alloc (.cells #[.int .i64 y] t)).cell? ⟨w.heap.size, j, none⟩ = some (vI x) ∧ lo ≤ x ∧ x ≤ hi := by
  intro j hj
  obtain rfl : j = 0 := by omega
  exact ⟨y, World.cell?_alloc_at _ _ _ _ rfl, h.1, h.2⟩
theorem RdSt.far8 {w0 : World} {br N : Nat} {W W' : World} {B : Nat} (h : RdSt w0 br N W) (hk : Below B W W') (hb : br < B) (h0 : w0.heap.size ≤ B) : RdSt w0 br N W' :=
  h.keep (S := fun k => k < B) ⟨hk.os, hk.tape, hk.output, hk.size, fun k _ hs => hk.block k hs⟩ hb (fun k hk => by omega)
theorem Keep.far8 {S : Nat → Prop} {a b c : World} (h : Keep S a b) (k : Below a.heap.size b c) : Keep S a c :=
  ⟨k.os.trans h.os, k.tape.trans h.tape, k.output.trans h.output, Nat.le_trans h.size k.size, fun i hi hs => (k.block i hi).trans (h.block i hi hs)⟩
/-- A row of n numbers of a range came. -/
def RowGot (w0 : World) (br N : Nat) (lo hi : Int) (n : Nat) (W : World) (e : Ending) (W' : World) : Prop :=
  ∃ v, e = .returned v ∧ LR W.heap.size 3 1 W' v n lo hi ∧ RdSt w0 br N W' ∧ Keep (fun k => k ≠ br) W W'
theorem LR.cut {base : Nat} {w : World} {g cap n k : Nat} {lo hi : Int} (h : LR base 3 1 w (.slice (some ⟨g, 0, none⟩) n cap) n lo hi) (hk : k ≤ n) : LR base 3 1 w (.slice (some ⟨g, 0, none⟩) k cap) k lo hi := by
  obtain ⟨g', cap', f, h1, h2, h3, h3', h4, h5⟩ := h
  injection h1 with e1 e2 e3
  injection e1 with e1
  injection e1 with e1 e4
  subst e1; subst e3
  exact ⟨g, cap, f, rfl, h2, by omega, h3', h4, fun i hi => h5 i (by omega)⟩
end Go.Proofs.YtjpdebgejlfeaaaDoor
/- Draws of the generator: a transition table, a domain. -/
namespace Go.Proofs.YtjpdebgejlfeaaaDoor
open Go.RowKit

theorem LR.rowW {base : Nat} {w : World} {v : Value} {n : Nat} {lo hi : Int} (h : LR base 3 1 w v n lo hi) : ∃ xs : List Int, xs.length = n ∧ RowW w v xs ∧ (∀ i, i < n → lo ≤ at0 xs i ∧ at0 xs i ≤ hi) ∧ ∀ g, v.ownBlock = some g → base ≤ g := by
  obtain ⟨g, cap, f, rfl, k2, k3, k3', k4, k5⟩ := h
  have hat : ∀ i, i < n → at0 ((List.range n).map fun i => match f i with | .int _ x => x | _ => 0) i = (match f i with | .int _ x => x | _ => 0) := fun i hi => by
    unfold at0
    rw [getD_lt _ _ (by simpa using hi)]
    simp
  refine ⟨(List.range n).map fun i => match f i with | .int _ x => x | _ => 0, by simp, ⟨g, cap, cap * 1, f, by simp, by simpa using k3, by simpa using k3, k4, fun i hi => ?_⟩, fun i hi => ?_, fun g' hg => ?_⟩
  · have hi' : i < n := by simpa using hi
    obtain ⟨x, e1, -⟩ := k5 i (by omega)
    rw [hat i hi', e1]; rfl
  · obtain ⟨x, e1, e2, e3⟩ := k5 i (by omega)
    rw [hat i hi, e1]
    exact ⟨e2, e3⟩
  · have hg : some g = some g' := hg
    injection hg with hg
    omega
theorem RowW.keep9 {S : Nat → Prop} {w w' : World} {v : Value} {xs : List Int} (h : RowW w v xs) (hk : Keep S w w') (hS : ∀ g, v.ownBlock = some g → S g) : RowW w' v xs := by
  obtain ⟨g, cap, m, f, rfl, h1, h2, h3, h4⟩ := h
  exact ⟨g, cap, m, f, rfl, h1, h2, hk.row (hS g rfl) h3, h4⟩
theorem Keep.trans9 {S T : Nat → Prop} {a b c : World} (h : Keep S a b) (k : Keep T b c) (hT : ∀ i, i < a.heap.size → S i → T i) : Keep S a c :=
  ⟨k.os.trans h.os, k.tape.trans h.tape, k.output.trans h.output, Nat.le_trans h.size k.size, fun i hi hs => (k.block i (Nat.lt_of_lt_of_le hi h.size) (hT i hi hs)).trans (h.block i hi hs)⟩
/-- Rows of six numbers of a range. -/
def RowsSx (rs : List (List Int)) : Prop := ∀ i, i < rs.length → (rw0 rs i).length = 6 ∧ ∀ t, t < 6 → -1 ≤ at0 (rw0 rs i) t ∧ at0 (rw0 rs i) t ≤ 5
theorem RowsSx.snoc {rs : List (List Int)} {xs : List Int} (h : RowsSx rs) (hl : xs.length = 6) (hx : ∀ t, t < 6 → -1 ≤ at0 xs t ∧ at0 xs t ≤ 5) : RowsSx (rs ++ [xs]) := fun i hi => by
  by_cases hlt : i < rs.length
  · rw [show rw0 (rs ++ [xs]) i = rw0 rs i by simp [rw0, List.getElem?_append_left hlt]]
    exact h i hlt
  · obtain rfl : i = rs.length := by simp at hi; omega
    rw [show rw0 (rs ++ [xs]) rs.length = xs by simp [rw0]]
    exact ⟨hl, hx⟩
theorem AppRS.blk9 {S : Nat → Prop} {w : World} {v : Value} {rs : List (List Int)} (h : AppRS S w v rs) : ∀ g, v.ownBlock = some g → S g ∧ g < w.heap.size := by
  obtain ⟨cells, h1, h2, -⟩ := h
  exact fun g hg => ⟨h2 g hg, (World.ownsRow.lt h1 g hg).2⟩
/-- A table of n rows came. -/
def TabGot (w0 : World) (br N n : Nat) (W : World) (e : Ending) (W' : World) : Prop :=
  ∃ v rs, e = .returned v ∧ rs.length = n ∧ AppRS (fun k => W.heap.size ≤ k) W' v rs ∧ RowsSx rs ∧ RdSt w0 br N W' ∧ Keep (fun k => k ≠ br) W W'
end Go.Proofs.YtjpdebgejlfeaaaDoor
