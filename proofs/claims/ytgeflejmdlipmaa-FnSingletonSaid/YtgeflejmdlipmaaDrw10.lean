/- Draws of the generator: a domain; lists of numbers of any make, read behind later draws. -/
import Derived.Test.YtgeflejmdlipmaaDrwA
import Derived.Test.YtgeflejmdlipmaaFltZ
namespace Go.Proofs.Ytgeflejmdlipmaa
open Go.RowKit

set_option maxRecDepth 100000 in
set_option maxHeartbeats 4000000 in
theorem randomDomain_any (w0 : World) (br N : Nat) (W : World) (hN : N ≤ 80000) (hR : RdSt w0 br N W) :
    Calls Try.prog 97 #[.pointer (some ⟨br, 0, none⟩)] W (Drawn w0 br (N + 3) 0 63 W) := by
  have HR := hide hR
  clear hR
  go_enter Try.func97, Try.ntmps97
  go_wp2_with fail
  refine (pick_any w0 br N 4 _ (by omega) (by omega) (by omega) HR.out).mono ?_
  rintro e W1 ⟨y, y0, y1, rfl, hR1, hK1⟩
  have HR1 := hide hR1
  have HK1 := hide hK1
  clear hR1 hK1
  obtain rfl | rfl | rfl | rfl : y = 0 ∨ y = 1 ∨ y = 2 ∨ y = 3 := by omega
  · go_wp2_with fail
    go_ret
    exact ⟨63, by omega, by omega, rfl, HR1.out.mono (by omega), HK1.out⟩
  · go_wp2_with fail
    refine (pick_any w0 br (N + 1) 3 _ (by omega) (by omega) (by omega) HR1.out).mono ?_
    rintro e W2 ⟨z, z0, z1, rfl, hR2, hK2⟩
    have HR2 := hide hR2
    have HK2 := hide (HK1.out.trans hK2)
    clear hR2 hK2
    go_wp2_with fail
    refine (pick_any w0 br (N + 2) 4 _ (by omega) (by omega) (by omega) HR2.out).mono ?_
    rintro e W3 ⟨u, u0, u1, rfl, hR3, hK3⟩
    have HR3 := hide hR3
    have HK3 := hide (HK2.out.trans hK3)
    clear hR3 hK3
    have h2u : IntKind.i64.wrap (2 + u) = 2 + u := IntWalk.i64_in _ (by omega)
    go_wp2_with fail
    refine (DomainRangeS_any _ _ _).mono ?_
    rintro e W4 ⟨d, d0, d1, rfl, rfl⟩
    go_wp2_with fail
    go_ret
    exact ⟨d, d0, d1, rfl, HR3.out, HK3.out⟩
  · go_wp2_with fail
    refine (pick_any w0 br (N + 1) 6 _ (by omega) (by omega) (by omega) HR1.out).mono ?_
    rintro e W2 ⟨z, z0, z1, rfl, hR2, hK2⟩
    have HR2 := hide (hR2.mono (M := N + 3) (by omega))
    have HK2 := hide (HK1.out.trans hK2)
    clear hR2 hK2
    obtain rfl | rfl | rfl | rfl | rfl | rfl : z = 0 ∨ z = 1 ∨ z = 2 ∨ z = 3 ∨ z = 4 ∨ z = 5 := by omega
    all_goals
      go_wp2_with fail
      go_ret
      exact ⟨_, by decide, by decide, rfl, HR2.out, HK2.out⟩
  · go_wp2_with fail
    refine (pick_any w0 br (N + 1) 63 _ (by omega) (by omega) (by omega) HR1.out).mono ?_
    rintro e W2 ⟨z, z0, z1, rfl, hR2, hK2⟩
    have HR2 := hide (hR2.mono (M := N + 3) (by omega))
    have HK2 := hide (HK1.out.trans hK2)
    clear hR2 hK2
    have h2u : IntKind.i64.wrap (1 + z) = 1 + z := IntWalk.i64_in _ (by omega)
    go_wp2_with fail
    go_ret
    exact ⟨1 + z, by omega, by omega, rfl, HR2.out, HK2.out⟩
/-- Nil, or a slice of the call's own; numbers of a range. -/
def LN (base : Nat) (w : World) (v : Value) (n : Nat) (lo hi : Int) : Prop := (v = .slice none 0 0 ∧ n = 0) ∨ LR base 3 1 w v n lo hi
theorem LN.keep {base : Nat} {w w' : World} {v : Value} {n : Nat} {lo hi : Int} {S : Nat → Prop} (h : LN base w v n lo hi) (hk : Keep S w w') (hS : ∀ k, base ≤ k → S k) : LN base w' v n lo hi := h.imp id (fun h => h.keep hk hS)
theorem LN.ext {base : Nat} {w w' : World} {v : Value} {n : Nat} {lo hi : Int} (h : LN base w v n lo hi) (hx : Ext w w') : LN base w' v n lo hi := h.keep (hx.keep (fun _ => True)) (fun _ _ => trivial)
theorem LN.form {base : Nat} {w : World} {v : Value} {n : Nat} {lo hi : Int} (h : LN base w v n lo hi) : ∃ A c, v = .slice A n c ∧ n ≤ c := by
  rcases h with ⟨rfl, rfl⟩ | h
  · exact ⟨_, _, rfl, Nat.le_refl _⟩
  · obtain ⟨g, cap, rfl, -, -, h⟩ := h.form
    exact ⟨_, _, rfl, h⟩
theorem LN.owns {base : Nat} {w : World} {v : Value} {n : Nat} {lo hi : Int} (h : LN base w v n lo hi) : ∃ xs, w.ownsRow base 3 1 v n xs ∧ (∀ u ∈ xs, ∃ x : Int, u = vI x ∧ lo ≤ x ∧ x ≤ hi) := by
  rcases h with ⟨rfl, rfl⟩ | h
  · exact ⟨[], World.ownsRow_nil _ _ _ _, fun u hu => by cases hu⟩
  · exact h.owns
/-- append of one number. -/
theorem wpList_appLN (w : World) {ops : Array Oper} {rest : List Oper} {o : Oper} {a : Act} {Q : Exit → Act → World → Prop} (hgd : o.guard = none) (s x : Operand)
    (ho : o.op = .call { callee := .builtin .append, args := #[s, x], argTypes := #[23, 23] })
    (base : Nat) (v : Value) (n : Nat) (lo hi y : Int) (b c : Nat) (hs : a.eval s = v) (hx : a.eval x = .slice (some ⟨b, 0, none⟩) 1 c)
    (hown : LN base w v n lo hi) (hc : w.cell? ⟨b, 0, none⟩ = some (.int .i64 y)) (hy : lo ≤ y ∧ y ≤ hi) (hl : n + 1 ≤ 1000000) (hbase : base ≤ w.heap.size)
    (h : ∀ v' w', LR base 3 1 w' v' (n + 1) lo hi → Below base w w' → wpList Try.prog ops Q rest (a.put o.dst v') w') : wpList Try.prog ops Q (o :: rest) a w := by
  obtain ⟨i, hi', hz, hsz, hby⟩ := Try.infoIp
  obtain ⟨xs, h1, h2⟩ := hown.owns
  obtain ⟨v', w', hrun, e2, e3, e4⟩ := run_append_kind (P := Try.prog) w base 23 o.type 3 i _ 8 Try.underlying23 hi' hz hsz hby rfl v n xs h1 b c _ hc rfl (by unfold maxLen; omega) (by omega) hbase
  refine wpList_plain hgd fun K hK => ?_
  unfold Oper.wp
  simp [execOp, ho, resolve, invoke, builtin, hs, hx, hrun, Result.andThen]
  refine hK _ _ (h v' w' (LR.of_owns e2 (by omega) (fun u hu => ?_)) ⟨e3.os, e3.tape, e3.output, e3.size, fun k hk => e3.block k (by omega) (fun e => ?_)⟩)
  · rcases List.mem_append.1 hu with hu | hu
    · exact h2 u hu
    · simp at hu; subst hu; exact ⟨y, rfl, hy.1, hy.2⟩
  · have := (World.ownsRow.lt h1 k e.symm).1
    omega
/-- Numbers in a block that S names, or nil. -/
def IV (S : Nat → Prop) (w : World) (v : Value) (xs : List Int) : Prop :=
  ((v = .slice none 0 0 ∧ xs = []) ∨ RowW w v xs) ∧ (∀ g, v.ownBlock = some g → S g) ∧ xs.length ≤ 100 ∧ ∀ i, i < xs.length → -100000 ≤ at0 xs i ∧ at0 xs i ≤ 100000
theorem IV.nil_ (S : Nat → Prop) (w : World) : IV S w (.slice none 0 0) [] := ⟨.inl ⟨rfl, rfl⟩, (fun g hg => by cases hg), Nat.zero_le _, fun i hi => absurd hi (by simp)⟩
theorem IV.keep {S T : Nat → Prop} {w w' : World} {v : Value} {xs : List Int} (h : IV S w v xs) (hk : Keep T w w') (hS : ∀ k, S k → T k) : IV S w' v xs :=
  ⟨h.1.imp id (fun h1 => h1.keep9 hk (fun g hg => hS g (h.2.1 g hg))), h.2⟩
theorem IV.ext {S : Nat → Prop} {w w' : World} {v : Value} {xs : List Int} (h : IV S w v xs) (hx : Ext w w') : IV S w' v xs := h.keep (hx.keep (fun _ => True)) (fun _ _ => trivial)
theorem IV.mono {S T : Nat → Prop} {w : World} {v : Value} {xs : List Int} (h : IV S w v xs) (hS : ∀ k, S k → T k) : IV T w v xs := ⟨h.1, fun g hg => hS g (h.2.1 g hg), h.2.2⟩
theorem IV.form {S : Nat → Prop} {w : World} {v : Value} {xs : List Int} (h : IV S w v xs) : ∃ A c, v = .slice A xs.length c ∧ xs.length ≤ c := by
  rcases h.1 with ⟨rfl, rfl⟩ | ⟨g, cap, m, f, rfl, h, -⟩
  · exact ⟨_, _, rfl, Nat.le_refl _⟩
  · exact ⟨_, _, rfl, h⟩
theorem IV.ints {S : Nat → Prop} {w : World} {v : Value} {xs : List Int} (h : IV S w v xs) : SInts w v xs := by
  obtain ⟨h1, -, h3, h4⟩ := h
  have hb : ∀ i, i < xs.length → I64 (at0 xs i) := fun i hi => by have := h4 i hi; unfold I64; omega
  rcases h1 with ⟨rfl, rfl⟩ | h1
  · exact ⟨_, _, rfl, Nat.le_refl _, by simp, fun i hi => absurd hi (by simp), fun hp => absurd hp (by simp)⟩
  · exact h1.ints (by omega) hb
theorem LN.iv {base : Nat} {w : World} {v : Value} {n : Nat} {lo hi : Int} (h : LN base w v n lo hi) (hn : n ≤ 100) (h1 : -100000 ≤ lo) (h2 : hi ≤ 100000) : ∃ xs, xs.length = n ∧ IV (fun k => base ≤ k) w v xs ∧ ∀ i, i < n → lo ≤ at0 xs i ∧ at0 xs i ≤ hi := by
  rcases h with ⟨rfl, rfl⟩ | h
  · exact ⟨[], rfl, IV.nil_ _ _, fun i hi => absurd hi (by omega)⟩
  · obtain ⟨xs, e1, e2, e3, e4⟩ := h.rowW
    exact ⟨xs, e1, ⟨.inr e2, e4, by omega, fun i hi => by have := e3 i (by omega); omega⟩, e3⟩
/-- Rows in blocks that S names. -/
def RV (S : Nat → Prop) (w : World) (v : Value) (rs : List (List Int)) : Prop :=
  AppRS S w v rs ∧ rs.length ≤ 100 ∧ ∀ i, i < rs.length → (rw0 rs i).length ≤ 100 ∧ ∀ j, j < (rw0 rs i).length → -100000 ≤ at0 (rw0 rs i) j ∧ at0 (rw0 rs i) j ≤ 100000
theorem RV.nil_ (S : Nat → Prop) (w : World) : RV S w (.slice none 0 0) [] := ⟨AppRS.nil_ _ _, Nat.zero_le _, fun i hi => absurd hi (by simp)⟩
theorem RV.keep {S T : Nat → Prop} {w w' : World} {v : Value} {rs : List (List Int)} (h : RV S w v rs) (hk : Keep T w w') (hS : ∀ k, S k → T k) : RV S w' v rs := ⟨h.1.keep hk hS, h.2⟩
theorem RV.ext {S : Nat → Prop} {w w' : World} {v : Value} {rs : List (List Int)} (h : RV S w v rs) (hx : Ext w w') : RV S w' v rs := ⟨h.1.ext hx, h.2⟩
theorem AppRS.mono9 {S T : Nat → Prop} {w : World} {v : Value} {rs : List (List Int)} (h : AppRS S w v rs) (hS : ∀ k, S k → T k) : AppRS T w v rs := by
  obtain ⟨cells, h1, h2, h3⟩ := h
  exact ⟨cells, h1, fun g hg => hS g (h2 g hg), fun i hi => by obtain ⟨cv, q1, q2, q3⟩ := h3 i hi; exact ⟨cv, q1, q2, fun g hg => hS g (q3 g hg)⟩⟩
theorem RV.mono {S T : Nat → Prop} {w : World} {v : Value} {rs : List (List Int)} (h : RV S w v rs) (hS : ∀ k, S k → T k) : RV T w v rs := ⟨h.1.mono9 hS, h.2⟩
theorem RV.rows {S : Nat → Prop} {w : World} {v : Value} {rs : List (List Int)} (h : RV S w v rs) : SRows w v rs :=
  h.1.rows (by have := h.2.1; omega) (fun i hi => by have := (h.2.2 i hi).1; omega) (fun i hi j hj => by have := (h.2.2 i hi).2 j hj; unfold I64; omega)
end Go.Proofs.Ytgeflejmdlipmaa
