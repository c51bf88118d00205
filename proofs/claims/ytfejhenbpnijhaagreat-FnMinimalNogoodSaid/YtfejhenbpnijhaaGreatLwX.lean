/- What the laws call: equalInts, contained, withDomains; Propagate and IsConsistent of the program. -/
import Derived.Test.YtfejhenbpnijhaaGreatPrbZ
import Derived.Test.YtfejhenbpnijhaaGreatSpD
import Derived.Test.YtfejhenbpnijhaaGreatUtlA
import Derived.Deep.CutBlock
import Derived.Deep.DeepCutAuto
import Derived.Test.YtfejhenbpnijhaaGreatDvZ
namespace Go.Proofs.YtfejhenbpnijhaaGreat
open Go.RowKit
attribute [local go_sem] evalOf

theorem and_sub {a b : Int} (ha : 0 ≤ a ∧ a ≤ 63) (hb : 0 ≤ b ∧ b ≤ 63) (h : ∀ v, v < 6 → hasB a v = true → hasB b v = true) : bits .and .i64 a b = a := by
  have key : ((List.range 64).all fun i => (List.range 64).all fun j => !((List.range 6).all fun v => !(hasB (i : Int) v) || hasB (j : Int) v) || (bits .and .i64 (i : Int) (j : Int) == (i : Int))) = true := by decide +kernel
  rw [List.all_eq_true] at key
  have k1 := key a.toNat (List.mem_range.2 (by omega))
  rw [List.all_eq_true] at k1
  have k2 := k1 b.toNat (List.mem_range.2 (by omega))
  rw [show ((a.toNat : Nat) : Int) = a by omega, show ((b.toNat : Nat) : Int) = b by omega] at k2
  have k3 : ((List.range 6).all fun v => !(hasB a v) || hasB b v) = true := by
    rw [List.all_eq_true]
    intro v hv
    have := h v (by simpa using hv)
    cases e : hasB a v
    · rfl
    · rw [this e]; rfl
  rw [k3] at k2
  simpa using k2
/-- The value of Propagate. -/
def prpV (ds : List Int) (cs : List Con) : List Int := if vMod ds cs = true then propL cs ds else []
/-- append to an empty row: a word on a value alone. -/
def RS.v (D : List Nat) (g : List Value → Value → Prop) : RS := ⟨D, fun vs v _ => g vs v, fun _ _ _ _ h _ => h⟩
/-- append to an empty row of no capacity: a new row. -/
theorem doesAppZ {o : Oper} {ρ : Operand → Value} {w : World} {R : Value → World → Prop} (s x : Operand) (ho : o.op = .call { callee := .builtin .append, args := #[s, x], argTypes := #[23, 23] }) (g : Addr) (xs : List Int) (ad : Addr) (c : Nat)
    (hs : ρ s = .slice (some g) 0 0) (hx : ρ x = .slice (some ad) xs.length c) (hy : SInts w (.slice (some ad) xs.length c) xs) (hp : 0 < xs.length) (hl : xs.length ≤ 1000000) (hR : ∀ v' w', OwnRes xs w (.returned v') w' → R v' w') : Does Tryz.prog o ρ w R := by
  obtain ⟨i, hi, hz, hsz, hby⟩ := Tryz.infoIp
  obtain ⟨v', w', e1, e2, e3⟩ := run_append_arg_grows (P := Tryz.prog) w 23 o.type 3 i (.int .i64 0) 1 8 Tryz.underlying23 hi hz hsz hby rfl (by omega) g 0 0 [] (by simp) (fun j u hj => by simp at hj) ad xs.length c (xs.map vI) (by simp)
    (fun j u hj => by
      rw [List.getElem?_map] at hj
      obtain ⟨y, hy1, hy2⟩ := Option.map_eq_some_iff.1 hj
      obtain ⟨hjl, hje⟩ := List.getElem?_eq_some_iff.1 hy1
      obtain ⟨b, off, e, hb, hc⟩ := hy.at_ hjl
      have e := Option.some.inj e
      subst e
      have hadd : (⟨b, off, none⟩ : Addr).add j = ⟨b, off + j, none⟩ := by unfold Addr.add; split <;> simp_all
      rw [hadd, hc, ← hy2, ← hje]
      unfold at0 vI
      rw [getD_lt _ _ hjl]) (by omega) (by unfold maxLen; omega) (by omega)
  refine Does.val (w' := w') (v := v') ?_ (hR _ _ (AppI.res (w0 := w) ?_ ⟨e3.os, e3.tape, e3.output, e3.size, fun k hk => e3.block k hk (by intro e; cases e)⟩ (by omega)))
  · simp [execOp, ho, resolve, invoke, builtin, hs, hx, e1, Result.andThen]
  · unfold AppI; simpa using e2
end Go.Proofs.YtfejhenbpnijhaaGreat
/- DomainValues of the program. -/
namespace Go.Proofs.YtfejhenbpnijhaaGreat
open Go.RowKit

end Go.Proofs.YtfejhenbpnijhaaGreat
/- DomainHas of the program. -/
namespace Go.Proofs.YtfejhenbpnijhaaGreat
open Go.RowKit

def hasD (d v : Int) : Bool := vDom d && (inR v 0 5 && hasB d v.toNat)
theorem hasD_iff {d v : Int} (h : hasD d v = true) : ∃ u : Nat, u < 6 ∧ v = u ∧ hasB d u = true := by
  simp only [hasD, Bool.and_eq_true, inR, decide_eq_true_eq] at h
  obtain ⟨-, ⟨h1, h2⟩, h3⟩ := h
  exact ⟨v.toNat, by omega, by omega, h3⟩
end Go.Proofs.YtfejhenbpnijhaaGreat
