/- Draws of the generator: the reader; starts. -/
import Derived.Test.YtofnihagfjdocaaDrw5
namespace Go.Proofs.Ytofnihagfjdocaa
open Go.RowKit

theorem SBytes.cut {w : World} {A : Option Addr} {n c m : Nat} (h : SBytes w (.slice A n c) n) (hm : m ≤ n) : SBytes w (.slice A m c) m := by
  obtain ⟨A', c', h1, h2, h3, h4⟩ := h
  injection h1 with e1 e2 e3
  subst e1; subst e3
  exact ⟨A, c, rfl, by omega, h3, fun hp => by obtain ⟨b, off, e, hb, hc⟩ := h4 (by omega); exact ⟨b, off, e, hb, fun i hi => hc i (by omega)⟩⟩
def ReaderGot (w0 W : World) (e : Ending) (W' : World) : Prop := ∃ br, e = .returned (.pointer (some ⟨br, 0, none⟩)) ∧ RdSt w0 br 0 W' ∧ Ext W W' ∧ W.heap.size ≤ br
theorem reader_new (w0 W : World) (v : Value) (n : Nat) (hB : SBytes w0 v n) (hn : n ≤ 2000) (hx : Ext w0 W) : RdSt w0 W.heap.size 0 (W.alloc (.cells #[v, .int .i64 0] 90)) := by
  refine ⟨⟨v, n, World.cell?_alloc_at _ _ _ _ rfl, hn, hB⟩, ⟨0, Int.le_refl _, by simp, World.cell?_alloc_at _ _ _ _ rfl⟩, ?_, by simp, hx.size, hx.alloc _⟩
  simp
set_option maxHeartbeats 1000000 in
theorem newReader_any (w0 W : World) (v : Value) (n : Nat) (hB : SBytes w0 v n) (hx : Ext w0 W) : Calls Try.prog 49 #[v] W (ReaderGot w0 W) := by
  have HB := hide hB
  have HX := hide hx
  obtain ⟨A, c, rfl, hnc, hcc, -⟩ := hB
  clear hx
  by_cases hn : 2000 < n
  · have h2 := HB.out.cut (m := 2000) (by omega)
    have HE := hide (show ReaderGot w0 W (.returned (.pointer (some ⟨W.heap.size, 0, none⟩))) _ from ⟨_, rfl, reader_new w0 W _ 2000 h2 (by omega) HX.out, (Ext.refl W).alloc _, Nat.le_refl _⟩)
    have hI : (2000 : Int) < n := by omega
    have hI2 : (2000 : Int) ≤ c := by omega
    clear h2
    go_enter Try.func49, Try.ntmps49
    go_wp2
    go_ret
    exact HE.out
  · have HE := hide (show ReaderGot w0 W (.returned (.pointer (some ⟨W.heap.size, 0, none⟩))) _ from ⟨_, rfl, reader_new w0 W _ n HB.out (by omega) HX.out, (Ext.refl W).alloc _, Nat.le_refl _⟩)
    go_enter Try.func49, Try.ntmps49
    go_wp2
    go_ret
    exact HE.out
set_option maxHeartbeats 1000000 in
theorem DomainValuesS_any (d : Int) (w : World) (h1 : d ≤ 9223372036854775807) : Calls Try.prog 97 #[.int .i64 d] w (OwnRes (if vDom d then domL d else []) w) := by
  have HV := hide (show vDom d = inR d 0 63 from rfl)
  by_cases hv : vDom d = true
  · have h2 : 0 ≤ d ∧ d ≤ 63 := by simpa [vDom, inR] using hv
    rw [if_pos hv]
    have HVV := hide hv
    clear hv
    go_enter Try.func97, Try.ntmps97
    go_wp2_with (go_at_call 68; refine (validDomain_any _ _).mono ?_; rintro e w' ⟨rfl, rfl⟩; rw [HVV.out])
    refine (domainValues_any d _ h2.1 h1).mono ?_
    rintro e w2 ⟨A5, c5, b5, m5, f5, rfl, q1, q2, q3, q4, q5⟩
    have HE := hide (show OwnRes (domL d) w (.returned (.slice A5 (domL d).length c5)) w2 from ⟨A5, c5, b5, m5, f5, rfl, q1, q2, q3, q4, q5⟩)
    clear q1 q2 q3 q4 q5
    go_wp2
    go_ret
    exact HE.out
  · have HVV := hide (Bool.eq_false_iff.2 hv)
    rw [if_neg hv]
    clear hv
    go_enter Try.func97, Try.ntmps97
    go_wp2_with (go_at_call 68; refine (validDomain_any _ _).mono ?_; rintro e w' ⟨rfl, rfl⟩; rw [HVV.out])
    go_ret
    exact OwnRes.nil_ rfl (Ext.refl _)
end Go.Proofs.Ytofnihagfjdocaa
