/- Machines in memory, and the classes of the reference. -/
import Derived.Test.YtdiedghaoleblaaQ26
import Derived.Test.YtdiedghaoleblaaSep
import Derived.Deep.LoopGhost
namespace Go.Proofs.Ytdiedghaoleblaa
open Go.RowKit

def Rows6 (w : World) (b off : Nat) (m : Mc) : Prop := ∀ s, s < m.nx.length → ∃ b3 off3 c3, w.cell? ⟨b, off + s, none⟩ = some (.slice (some ⟨b3, off3, none⟩) 6 c3) ∧ b3 < w.heap.size ∧ 6 ≤ c3 ∧ ∀ v, v < 6 → w.cell? ⟨b3, off3 + v, none⟩ = some (.int .i64 (mT m s v))
def Fins (w : World) (b off : Nat) (m : Mc) : Prop := ∀ s, s < m.nx.length → w.cell? ⟨b, off + s, none⟩ = some (.bool (mF m s))
/-- The two slices of a machine read as m. -/
def RdM (w : World) (vn vf : Value) (m : Mc) : Prop := ∃ b off c b2 off2 c2, vn = .slice (some ⟨b, off, none⟩) m.nx.length c ∧ vf = .slice (some ⟨b2, off2, none⟩) m.nx.length c2 ∧ b < w.heap.size ∧ b2 < w.heap.size ∧ m.nx.length ≤ c ∧ m.nx.length ≤ c2 ∧ Rows6 w b off m ∧ Fins w b2 off2 m ∧ MOk m
theorem Rows6.ext {w w' : World} {b off : Nat} {m : Mc} (h : Rows6 w b off m) (hb : b < w.heap.size) (hx : Ext w w') : Rows6 w' b off m := fun s hs => by
  obtain ⟨b3, off3, c3, h1, h2, h4, h3⟩ := h s hs
  exact ⟨b3, off3, c3, (hx.cells _ _ hb).trans h1, Nat.lt_of_lt_of_le h2 hx.size, h4, fun v hv => (hx.cells _ _ h2).trans (h3 v hv)⟩
theorem Fins.ext {w w' : World} {b off : Nat} {m : Mc} (h : Fins w b off m) (hb : b < w.heap.size) (hx : Ext w w') : Fins w' b off m := fun s hs => (hx.cells _ _ hb).trans (h s hs)
theorem RdM.ext {w w' : World} {vn vf : Value} {m : Mc} (h : RdM w vn vf m) (hx : Ext w w') : RdM w' vn vf m := by
  obtain ⟨b, off, c, b2, off2, c2, h1, h2, h3, h4, h5, h6, h7, h8, h9⟩ := h
  exact ⟨b, off, c, b2, off2, c2, h1, h2, Nat.lt_of_lt_of_le h3 hx.size, Nat.lt_of_lt_of_le h4 hx.size, h5, h6, h7.ext h3 hx, h8.ext h4 hx, h9⟩
/-- A slice of n numbers that reads as C. -/
def RdC (w : World) (v : Value) (n : Nat) (C : Nat → Nat) : Prop := ∃ b off c, v = .slice (some ⟨b, off, none⟩) n c ∧ b < w.heap.size ∧ n ≤ c ∧ ∀ s, s < n → w.cell? ⟨b, off + s, none⟩ = some (.int .i64 (C s))
theorem RdC.ext {w w' : World} {v : Value} {n : Nat} {C : Nat → Nat} (h : RdC w v n C) (hx : Ext w w') : RdC w' v n C := by
  obtain ⟨b, off, c, h1, h2, h3, h4⟩ := h
  exact ⟨b, off, c, h1, Nat.lt_of_lt_of_le h2 hx.size, h3, fun s hs => (hx.cells _ _ h2).trans (h4 s hs)⟩
theorem RdC.congr {w : World} {v : Value} {n : Nat} {C D : Nat → Nat} (h : RdC w v n C) (hcd : agr n C D) : RdC w v n D := by
  obtain ⟨b, off, c, h1, h2, h3, h4⟩ := h
  exact ⟨b, off, c, h1, h2, h3, fun s hs => by rw [h4 s hs, hcd s hs]⟩
theorem RdC.of_row {w : World} {b n c : Nat} {t : TypeId} {f : Nat → Value} {C : Nat → Nat} (h : w.rowIs b t n f) (hc : n ≤ c) (hf : ∀ s, s < n → f s = .int .i64 (C s)) : RdC w (.slice (some ⟨b, 0, none⟩) n c) n C :=
  ⟨b, 0, c, rfl, h.lt, hc, fun s hs => by rw [Nat.zero_add, h.cell hs, hf s hs]⟩

/-- The first k answers are true. -/
def eK (m : Mc) (C : Nat → Nat) (s t k : Nat) : Prop := ∀ v, v < k → C (mT m s v) = C (mT m t v)
set_option maxHeartbeats 2000000 in
theorem sameSplit_any (vn vf vc : Value) (m : Mc) (C : Nat → Nat) (s t : Nat) (w : World) (hM : RdM w vn vf m) (hC : RdC w vc m.nx.length C) (hs : s < m.nx.length) (ht : t < m.nx.length) :
    Calls Try.prog 97 #[.agg #[vn, vf], vc, .int .i64 s, .int .i64 t] w (Ret (.bool (eC m C s t)) w) := by
  have hx0 := (Ext.refl w).alloc (.cells #[vn, vf] 59)
  have hM1 := hM.ext hx0
  have hC1 := hC.ext hx0
  obtain ⟨b, off, c, b2, off2, c2, rfl, rfl, hb, hb2, hc, hc2, hR, hF, hm⟩ := hM1
  obtain ⟨b4, off4, c4, rfl, hb4, hc4, hcl⟩ := hC1
  have HX0 := hide hx0
  have HM := hide hm
  have HCL := hide hcl
  have gs := hcl s hs
  have gt := hcl t ht
  obtain ⟨bs, os, cs, fs, hbs, -, hrs⟩ := hR s hs
  obtain ⟨bt, ot, ct, ft, hbt, -, hrt⟩ := hR t ht
  have HRS := hide hrs
  have HRT := hide hrt
  have hsI : (s : Int) < m.nx.length := by omega
  have htI : (t : Int) < m.nx.length := by omega
  have hwz : w.heap.size < (w.alloc (.cells #[.slice (some ⟨b, off, none⟩) m.nx.length c, .slice (some ⟨b2, off2, none⟩) m.nx.length c2] 59)).heap.size := by simp
  have m0 : (w.alloc (.cells #[.slice (some ⟨b, off, none⟩) m.nx.length c, .slice (some ⟨b2, off2, none⟩) m.nx.length c2] 59)).cell? ⟨w.heap.size, 0, none⟩ = some (.slice (some ⟨b, off, none⟩) m.nx.length c) := by go_simp
  clear hM hC hx0 hR hF hcl hrs hrt hm
  go_enter Try.func97, Try.ntmps97
  go_wp2
  generalize hW0 : w.alloc (.cells #[.slice (some ⟨b, off, none⟩) m.nx.length c, .slice (some ⟨b2, off2, none⟩) m.nx.length c2] 59) = W0 at *
  clear hW0
  refine wp_region_ext (by kernel_rfl) (by kernel_rfl) ?_
  iterate 9 (apply quiet_val; (focus rfl); (focus (intro w' hw'; have hk' := hw'.cells; go_simp; all_goals exact rfl)); simp only [Act.put, List.setIfInBounds_toArray, List.set_cons_succ, List.set_cons_zero])
  refine wpQuiet_nil ?_
  intro w2 hx2
  have HX2 := hide hx2
  have m0 := (hx2.cells _ _ hwz).trans m0
  have fs := (hx2.cells _ _ hb).trans fs
  have ft := (hx2.cells _ _ hb).trans ft
  have hwz := Nat.lt_of_lt_of_le hwz hx2.size
  have hb := Nat.lt_of_lt_of_le hb hx2.size
  have hbs := Nat.lt_of_lt_of_le hbs hx2.size
  have hbt := Nat.lt_of_lt_of_le hbt hx2.size
  have hb4 := Nat.lt_of_lt_of_le hb4 hx2.size
  clear gs gt hx2
  by_cases h0 : C s = C t
  · have h0' : ((C s : Int) != (C t : Int)) = false := by simp [h0]
    have H0 := hide h0
    clear h0
    go_wp2
    go_loopw [9] (fun i wr => ∃ k : Nat, k ≤ 6 ∧ i = .int .i64 k ∧ eK m C s t k ∧ Ext w2 wr) (fun i _ => 6 - (intOf i).toNat)
    case atStart => exact ⟨0, by omega, rfl, fun v hv => by omega, Ext.refl _⟩
    case round =>
      obtain ⟨k, hk, rfl, hv, hx⟩ := hrel
      have HV := hide hv
      have HX := hide hx
      clear hv
      have hx2w := HX2.out.trans hx
      by_cases hlt : k < 6
      · have hkI : (k : Int) < 6 := by omega
        have hkI2 : (k : Int) ≤ 5 := by omega
        have m1 := (hx.cells _ _ hwz).trans m0
        have f1 := (hx.cells _ _ hb).trans fs
        have f2 := (hx.cells _ _ hb).trans ft
        have r1 := ((hx2w).cells _ _ (by have := HX2.out.size; omega)).trans (HRS.out k hlt)
        have r2 := ((hx2w).cells _ _ (by have := HX2.out.size; omega)).trans (HRT.out k hlt)
        have l1 := HM.out.lt hs hlt
        have l2 := HM.out.lt ht hlt
        have q1 := ((hx2w).cells _ _ (by have := HX2.out.size; omega)).trans (HCL.out _ l1)
        have q2 := ((hx2w).cells _ _ (by have := HX2.out.size; omega)).trans (HCL.out _ l2)
        have l1I : (mT m s k : Int) < m.nx.length := by omega
        have l2I : (mT m t k : Int) < m.nx.length := by omega
        have s1 := Nat.lt_of_lt_of_le hwz hx.size
        have s2 := Nat.lt_of_lt_of_le hb hx.size
        have s3 := Nat.lt_of_lt_of_le hbs hx.size
        have s4 := Nat.lt_of_lt_of_le hbt hx.size
        have s5 := Nat.lt_of_lt_of_le hb4 hx.size
        clear hx hx2w m0 fs ft
        go_wp2
        refine wp_region_ext (by kernel_rfl) (by kernel_rfl) ?_
        iterate 23 (apply quiet_val; (focus rfl); (focus (intro w' hw'; have hk' := hw'.cells; go_simp; all_goals exact rfl)); simp only [Act.put, List.setIfInBounds_toArray, List.set_cons_succ, List.set_cons_zero])
        refine wpQuiet_nil ?_
        intro w5 hx5
        have HX5 := hide (HX.out.trans hx5)
        clear hx5
        by_cases he : C (mT m s k) = C (mT m t k)
        · have he' : ((C (mT m s k) : Int) != (C (mT m t k) : Int)) = false := by simp [he]
          have HE := hide he
          clear he
          go_wp2
          go_roundw
          case rel => exact ⟨k + 1, by omega, by go_num, fun v hv => by
            by_cases e : v = k
            · subst e; exact HE.out
            · exact HV.out v (by omega), HX5.out⟩
          case measure => simp [intOf]; omega
        · have he' : ((C (mT m s k) : Int) != (C (mT m t k) : Int)) = true := by rw [bne_iff_ne]; omega
          have HE := hide he
          clear he
          go_wp2
          go_ret
          refine Ret.mk (ret_b ?_) (HX0.out.trans (HX2.out.trans HX5.out))
          cases hq : eC m C s t with
          | false => rfl
          | true => exact absurd ((eC_iff.1 hq).2 k hlt) HE.out
      · obtain rfl : k = 6 := by omega
        go_wp2
        go_ret
        exact Ret.mk (ret_b (eC_iff.2 ⟨H0.out, HV.out⟩).symm) (HX0.out.trans (HX2.out.trans HX.out))
  · have h0' : ((C s : Int) != (C t : Int)) = true := by rw [bne_iff_ne]; omega
    have H0 := hide h0
    clear h0
    go_wp2
    go_ret
    refine Ret.mk (ret_b ?_) (HX0.out.trans HX2.out)
    cases hq : eC m C s t with
    | false => rfl
    | true => exact absurd (eC_iff.1 hq).1 H0.out
end Go.Proofs.Ytdiedghaoleblaa
