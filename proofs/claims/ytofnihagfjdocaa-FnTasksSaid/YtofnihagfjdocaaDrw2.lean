/- Draws of the generator: append; a number of a list; a random task. -/
import Derived.Test.YtofnihagfjdocaaDrw
namespace Go.Proofs.Ytofnihagfjdocaa
open Go.RowKit

theorem vI_one {u : Value} {lo hi : Int} (h : ∃ x : Int, u = vI x ∧ lo ≤ x ∧ x ≤ hi) : u.oneCell' = true := by obtain ⟨x, rfl, -⟩ := h; rfl
/-- append to a loose row: m elements that lie at the head of block b. -/
theorem run_appL {P : Program} (w : World) (base : Nat) (t ty e : TypeId) (i : TypeInfo) (z : Value) (size bytes : Nat) (ht : P.underlying t = some (.slice e)) (hi : P.info? e = some i) (hz : i.zero = some z)
    (hsz : i.size = size) (hby : i.bytes = bytes) (hzs : z.cells.size = size) (hs0 : 0 < size) (v : Value) (n m : Nat) (lo hi' : Int) (hown : LR base e size w v n lo hi') (b c : Nat) (hm : 0 < m)
    (hnews : ∀ j, j < m * size → ∃ x : Int, w.cell? ⟨b, j, none⟩ = some (vI x) ∧ lo ≤ x ∧ x ≤ hi') (h1 : n + m ≤ 1000000) (h2 : bytes ≤ 1000) (hb : base ≤ w.heap.size) :
    ∃ v' w', (Builtin.append_ #[t, t] ty #[v, .slice (some ⟨b, 0, none⟩) m c]).run P w = .ok v' w' ∧ LR base e size w' v' (n + m) lo hi' ∧ Below base w w' := by
  obtain ⟨xs, h3, h4⟩ := hown.owns
  have hnum : ∀ j, j < m * size → ∃ u : Value, w.cell? ⟨b, j, none⟩ = some u ∧ ∃ x : Int, u = vI x ∧ lo ≤ x ∧ x ≤ hi' := fun j hj => by obtain ⟨x, a1, a2, a3⟩ := hnews j hj; exact ⟨_, a1, x, rfl, a2, a3⟩
  obtain ⟨news, hl, hc, hr⟩ : ∃ news : List Value, news.length = m * size ∧ (∀ j u, news[j]? = some u → w.cell? ⟨b, j, none⟩ = some u) ∧ ∀ u ∈ news, ∃ x : Int, u = vI x ∧ lo ≤ x ∧ x ≤ hi' := by
    refine ⟨(List.range (m * size)).map fun j => (w.cell? ⟨b, j, none⟩).getD undef, by simp, fun j u hj => ?_, fun u hu => ?_⟩
    · rw [List.getElem?_map] at hj
      obtain ⟨j', e1, e2⟩ := Option.map_eq_some_iff.1 hj
      have hjl : j < m * size := by have := (List.getElem?_eq_some_iff.1 e1).1; simpa using this
      rw [List.getElem?_range hjl] at e1
      injection e1 with e1
      subst e1
      obtain ⟨u', a1, -⟩ := hnum j hjl
      rw [a1] at e2 ⊢
      exact congrArg some e2
    · simp only [List.mem_map, List.mem_range] at hu
      obtain ⟨j, hj, rfl⟩ := hu
      obtain ⟨u', a1, a2⟩ := hnum j hj
      rw [a1]; exact a2
  have hle : (n + m) * bytes ≤ 1000000 * 1000 := Nat.mul_le_mul h1 h2
  obtain ⟨v', w', e1, e2, e3, -⟩ := run_append_own (P := P) w base t ty e i z size bytes ht hi hz hsz hby hzs hs0 v n xs h3 ⟨b, 0, none⟩ m c news hl (fun j u hj => by
    have hadd : (⟨b, 0, none⟩ : Addr).add j = ⟨b, j, none⟩ := by unfold Addr.add; split <;> simp_all
    rw [hadd]; exact hc j u hj) (fun u hu => vI_one (hr u hu)) (by unfold maxLen; omega) (by omega) hb
  refine ⟨v', w', e1, LR.of_owns e2 (by omega) (fun u hu => (List.mem_append.1 hu).elim (h4 u) (hr u)), ⟨e3.os, e3.tape, e3.output, e3.size, fun k hk => e3.block k (by omega) (fun e => ?_)⟩⟩
  have := (World.ownsRow.lt h3 k e.symm).1
  omega
theorem wpList_appLT (w : World) {ops : Array Oper} {rest : List Oper} {o : Oper} {a : Act} {Q : Exit → Act → World → Prop} (hgd : o.guard = none) (s x : Operand)
    (ho : o.op = .call { callee := .builtin .append, args := #[s, x], argTypes := #[27, 27] })
    (base : Nat) (v : Value) (n m : Nat) (lo hi : Int) (b c : Nat) (hs : a.eval s = v) (hx : a.eval x = .slice (some ⟨b, 0, none⟩) m c)
    (hown : LR base 48 3 w v n lo hi) (hm : 0 < m) (hc : ∀ j, j < m * 3 → ∃ x : Int, w.cell? ⟨b, j, none⟩ = some (vI x) ∧ lo ≤ x ∧ x ≤ hi) (hl : n + m ≤ 1000000) (hbase : base ≤ w.heap.size)
    (h : ∀ v' w', LR base 48 3 w' v' (n + m) lo hi → Below base w w' → wpList Try.prog ops Q rest (a.put o.dst v') w') : wpList Try.prog ops Q (o :: rest) a w := by
  obtain ⟨i, hi', hz⟩ := Option.map_eq_some_iff.1 Try.infoT
  simp only [Prod.mk.injEq] at hz
  obtain ⟨v', w', hrun, h1, h2⟩ := run_appL w base 27 o.type 48 i _ 3 24 Try.underlying27 hi' hz.1 hz.2.1 hz.2.2 rfl (by omega) v n m lo hi hown b c hm hc hl (by omega) hbase
  refine wpList_plain hgd fun K hK => ?_
  unfold Oper.wp
  simp [execOp, ho, resolve, invoke, builtin, hs, hx, hrun, Result.andThen]
  exact hK _ _ (h v' w' h1 h2)
theorem wpList_appLI (w : World) {ops : Array Oper} {rest : List Oper} {o : Oper} {a : Act} {Q : Exit → Act → World → Prop} (hgd : o.guard = none) (s x : Operand)
    (ho : o.op = .call { callee := .builtin .append, args := #[s, x], argTypes := #[24, 24] })
    (base : Nat) (v : Value) (n m : Nat) (lo hi : Int) (b c : Nat) (hs : a.eval s = v) (hx : a.eval x = .slice (some ⟨b, 0, none⟩) m c)
    (hown : LR base 3 1 w v n lo hi) (hm : 0 < m) (hc : ∀ j, j < m * 1 → ∃ x : Int, w.cell? ⟨b, j, none⟩ = some (vI x) ∧ lo ≤ x ∧ x ≤ hi) (hl : n + m ≤ 1000000) (hbase : base ≤ w.heap.size)
    (h : ∀ v' w', LR base 3 1 w' v' (n + m) lo hi → Below base w w' → wpList Try.prog ops Q rest (a.put o.dst v') w') : wpList Try.prog ops Q (o :: rest) a w := by
  obtain ⟨i, hi', hz, hsz, hby⟩ := Try.infoIp
  obtain ⟨v', w', hrun, h1, h2⟩ := run_appL w base 24 o.type 3 i _ 1 8 Try.underlying24 hi' hz hsz hby rfl (by omega) v n m lo hi hown b c hm hc hl (by omega) hbase
  refine wpList_plain hgd fun K hK => ?_
  unfold Oper.wp
  simp [execOp, ho, resolve, invoke, builtin, hs, hx, hrun, Result.andThen]
  exact hK _ _ (h v' w' h1 h2)
/-- A number of a range came. -/
def Drawn (w0 : World) (br N : Nat) (lo hi : Int) (W : World) (e : Ending) (W' : World) : Prop :=
  ∃ v : Int, lo ≤ v ∧ v ≤ hi ∧ e = .returned (.int .i64 v) ∧ RdSt w0 br N W' ∧ Keep (fun k => k ≠ br) W W'
set_option maxHeartbeats 1000000 in
theorem one_any (w0 : World) (br N : Nat) (lo hi : Int) (b n c : Nat) (W : World) (hn : 1 ≤ n) (hn1 : n ≤ 1000) (hN : N ≤ 100000) (hR : RdSt w0 br N W) (hb : b < W.heap.size) (hbr : b ≠ br) (hc : ∀ i, i < n → ∃ x : Int, W.cell? ⟨b, i, none⟩ = some (vI x) ∧ lo ≤ x ∧ x ≤ hi) (_hcap : n ≤ c) :
    Calls Try.prog 61 #[.pointer (some ⟨br, 0, none⟩), .slice (some ⟨b, 0, none⟩) n c] W (Drawn w0 br (N + 1) lo hi W) := by
  have HC := hide hc
  clear hc
  go_enter Try.func61, Try.ntmps61
  go_wp2_with fail
  refine (pick_any w0 br N n _ hn (by omega) (by omega) hR).mono ?_
  rintro e W1 ⟨v, v0, v1, rfl, hR1, hK1⟩
  obtain ⟨x, hx, x0, x1⟩ := HC.out v.toNat (by omega)
  have hx1 := (hK1.cell (p := ⟨b, v.toNat, none⟩) hb hbr).trans hx
  unfold vI at hx1
  have HR1 := hide hR1
  have HK1 := hide hK1
  clear hR1 hK1 hx
  go_wp2
  go_ret
  exact ⟨x, x0, x1, rfl, HR1.out, HK1.out⟩
def domR (lo hi : Int) : Nat → Int
  | 0 => 0
  | k + 1 => domR lo hi k + if lo ≤ (k : Int) ∧ (k : Int) ≤ hi then 2 ^ k else 0
theorem domR_bd (lo hi : Int) : ∀ k, k ≤ 6 → 0 ≤ domR lo hi k ∧ domR lo hi k < 2 ^ k
  | 0, _ => by simp [domR]
  | k + 1, hk => by
    have := domR_bd lo hi k (by omega)
    rw [domR, Int.pow_succ]
    split <;> omega
end Go.Proofs.Ytofnihagfjdocaa
