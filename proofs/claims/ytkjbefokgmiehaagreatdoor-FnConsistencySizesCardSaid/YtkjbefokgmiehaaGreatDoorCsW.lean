/- ConsistencySizes: the walks of both sides. Printed by gencs.py. -/
import Derived.Test.YtkjbefokgmiehaaGreatDoorBbW
import Derived.Test.YtkjbefokgmiehaaGreatDoorBndZ
import Derived.Test.YtkjbefokgmiehaaGreatDoorShvS
import Derived.Test.YtkjbefokgmiehaaGreatDoorLawM
namespace Go.Proofs.YtkjbefokgmiehaaGreatDoor
open Go.RowKit
attribute [local go_sem] evalOf

def cszL (cs : List Con) (ds : List Int) : List Int := [tsK ds ds.length, tsK (bndR cs ds) (bndR cs ds).length, tsK (propL cs ds) (propL cs ds).length, tsK (shaveL cs ds) (shaveL cs ds).length, tsK (bbL cs ds) (bbL cs ds).length]
def csV (ds : List Int) (cs : List Con) : List Int := if vMod ds cs = true then cszL cs ds else []
theorem csV_len (ds : List Int) (cs : List Con) : (csV ds cs).length ≤ 5 := by
  unfold csV cszL
  split <;> simp
theorem csV_i64 (ds : List Int) (cs : List Con) : ∀ j, j < (csV ds cs).length → I64 (at0 (csV ds cs) j) := by
  intro j hj
  unfold csV at hj ⊢
  split at hj
  · rename_i h
    rw [if_pos h]
    obtain ⟨hG, h1, h4⟩ := vMod_good h
    have e1 := (bndR_good hG h4).1
    have e2 := (propL_R hG h4).good.1
    have e3 := (shaveL_good hG h4).1
    have e4 := (bbL_good cs ds).1
    have q : ∀ l : List Int, l.length = ds.length → I64 (tsK l l.length) := fun l hl => by
      have := tsK_bd l l.length
      unfold I64; omega
    have hj5 : j < 5 := by simpa [cszL] using hj
    match j, hj5 with
    | 0, _ => exact q _ rfl
    | 1, _ => exact q _ e1
    | 2, _ => exact q _ e2
    | 3, _ => exact q _ e3
    | 4, _ => exact q _ e4
  · simp at hj
theorem OwnRes.keepS {S : Nat → Prop} {xs : List Int} {w1 W W' : World} {v : Value} (h : OwnRes xs w1 (.returned v) W) (hk : Keep S W W') (hS : ∀ j, w1.heap.size ≤ j → S j) (hb : ∀ i, i < xs.length → I64 (at0 xs i)) : SInts W' v xs := by
  obtain ⟨A, c, b, m, f, h1, h2, h3, h4, h5, h6⟩ := h
  injection h1 with h1
  subst h1
  exact SInts.own h2 h3 (fun hp => by obtain ⟨q1, q2, q3⟩ := h5 hp; exact ⟨q1, hk.row (hS b h4) q2, q3⟩) hb
theorem wpList_appIO (w : World) {ops : Array Oper} {rest : List Oper} {o : Oper} {a : Act} {Q : Exit → Act → World → Prop} (hgd : o.guard = none) (s x : Operand)
    (ho : o.op = .call { callee := .builtin .append, args := #[s, x], argTypes := #[23, 23] })
    (base : Nat) (v : Value) (xs : List Int) (y : Int) (b c : Nat) (hs : a.eval s = v) (hx : a.eval x = .slice (some ⟨b, 0, none⟩) 1 c)
    (hown : AppI base w v xs) (hc : w.cell? ⟨b, 0, none⟩ = some (.int .i64 y)) (hl : xs.length ≤ 1000000000000) (hbase : base ≤ w.heap.size)
    (h : ∀ v' w', AppI base w' v' (xs ++ [y]) → w.grownBy w' v.ownBlock → (∀ g, v'.ownBlock = some g → v.ownBlock = some g ∨ w.heap.size ≤ g) → wpList Tryz.prog ops Q rest (a.put o.dst v') w') : wpList Tryz.prog ops Q (o :: rest) a w := by
  obtain ⟨i, hi, hz, hsz, hby⟩ := Tryz.infoIp
  obtain ⟨v', w', hrun, h1, h2, h3⟩ := run_append_kind (P := Tryz.prog) w base 23 o.type 3 i (.int .i64 0) 8 Tryz.underlying23 hi hz hsz hby rfl v xs.length (xs.map vI) hown b c (vI y) hc rfl (by unfold maxLen; omega) (by omega) hbase
  refine wpList_plain hgd fun K hK => ?_
  unfold Oper.wp
  simp [execOp, ho, resolve, invoke, builtin, hs, hx, hrun, Result.andThen]
  exact hK _ _ (h v' w' (by unfold AppI; simpa using h1) h2 h3)
set_option maxRecDepth 100000 in
set_option maxHeartbeats 16000000 in
theorem ConsistencySizesS_any (v : Value) (ds : List Int) (cs : List Con) (w : World) (hM : SMod w v ds cs) :
    Calls Tryz.prog 16 #[v] w (OwnRes (csV ds cs) w) := by
  have hM0 := hide hM
  obtain ⟨vd, vc, rfl, hD, hC⟩ := hM
  have hD0 := hide hD
  have hC0 := hide hC
  obtain ⟨Ad, cd, rfl, -, hld⟩ := hD.form
  obtain ⟨Ac, cc, rfl, -, hlc⟩ := hC.form
  obtain ⟨w0, hw0⟩ : ∃ w0, w0 = w.alloc (.cells #[.slice Ad ds.length cd, .slice Ac cs.length cc] 26) := ⟨_, rfl⟩
  have HX0 := hide (show Ext w w0 by rw [hw0]; exact (Ext.refl w).alloc _)
  have k0 : w0.cell? ⟨w.heap.size, 0, none⟩ = some (.slice Ad ds.length cd) := by rw [hw0]; go_simp
  have k1 : w0.cell? ⟨w.heap.size, 1, none⟩ = some (.slice Ac cs.length cc) := by rw [hw0]; go_simp
  have ks : w.heap.size < w0.heap.size := by rw [hw0]; simp
  clear hD hC
  go_enter Tryz.func16, Tryz.ntmps16
  go_wp2_with fail
  rw [← hw0]
  clear hw0
  refine (validModelS_any _ ds cs _ (hM0.out.ext HX0.out)).mono ?_
  rintro e w1 ⟨rfl, hx1⟩
  have k0 := (hx1.cells _ _ ks).trans k0
  have k1 := (hx1.cells _ _ ks).trans k1
  have ks := Nat.lt_of_lt_of_le ks hx1.size
  have HX1 := hide (HX0.out.trans hx1)
  clear hx1
  cases hv : vMod ds cs with
  | false =>
    have HV := hide (show csV ds cs = [] by rw [csV, hv]; rfl)
    clear hv
    go_wp2
    go_ret
    rw [HV.out]
    exact OwnRes.nil_ rfl HX1.out
  | true =>
    obtain ⟨hG, h1, h4⟩ := vMod_good hv
    have HG := hide hG
    have HBS := hide (show fixL (bndL trimV cs) 300 ds = bndR cs ds from bnd_same h4 hG)
    obtain ⟨b, hbe⟩ : ∃ b, b = bndR cs ds := ⟨_, rfl⟩
    obtain ⟨p, hpe⟩ : ∃ p, p = propL cs ds := ⟨_, rfl⟩
    obtain ⟨s, hse⟩ : ∃ s, s = shaveL cs ds := ⟨_, rfl⟩
    obtain ⟨t, hte⟩ : ∃ t, t = bbL cs ds := ⟨_, rfl⟩
    have HBE := hide hbe
    have HPE := hide hpe
    have HSE := hide hse
    have HTE := hide (show t = bbV ds cs by rw [bbV, hv, hte]; rfl)
    have HdsD := hide hG.2.1
    have HdsL := hide (show ds.length = ds.length ∧ ds.length ≤ 4 from ⟨rfl, h4⟩)
    have HbD := hide (show DomL b by rw [hbe]; exact (bndR_good hG h4).2.1)
    have HbL := hide (show b.length = ds.length ∧ ds.length ≤ 4 from ⟨by rw [hbe]; exact (bndR_good hG h4).1, h4⟩)
    have HpD := hide (show DomL p by rw [hpe]; exact (propL_R hG h4).good.2.1)
    have HpL := hide (show p.length = ds.length ∧ ds.length ≤ 4 from ⟨by rw [hpe]; exact (propL_R hG h4).good.1, h4⟩)
    have HsD := hide (show DomL s by rw [hse]; exact (shaveL_good hG h4).2.1)
    have HsL := hide (show s.length = ds.length ∧ ds.length ≤ 4 from ⟨by rw [hse]; exact (shaveL_good hG h4).1, h4⟩)
    have HtD := hide (show DomL t by rw [hte]; exact (bbL_good cs ds).2)
    have HtL := hide (show t.length = ds.length ∧ ds.length ≤ 4 from ⟨by rw [hte]; exact (bbL_good cs ds).1, h4⟩)
    obtain ⟨xs, hxs⟩ : ∃ xs, xs = [tsK ds ds.length, tsK b b.length, tsK p p.length, tsK s s.length, tsK t t.length] := ⟨_, rfl⟩
    have HXS := hide hxs
    have HV := hide (show csV ds cs = xs by rw [csV, hv, hxs, hbe, hpe, hse, hte]; rfl)
    clear hv hG hbe hpe hse hte hxs
    have K0 := hide k0
    have K1 := hide k1
    clear k0 k1
    go_wp2_with fail
    refine wp_region_relT (n := 18) (ts := [18]) (sp := [RS.q [] (fun _ => .pointer (some ⟨w.heap.size, 0, none⟩)), RS.q [0] (fun _ => .slice Ad ds.length cd), RS.q [1] (fun _ => .int .i64 (tsK ds ds.length)), RS.q [] (fun _ => .agg #[.slice Ad ds.length cd, .slice Ac cs.length cc]), RS.ow [3] (b) w1, RS.q [4] (fun _ => .int .i64 (tsK b b.length)), RS.q [] (fun _ => .agg #[.slice Ad ds.length cd, .slice Ac cs.length cc]), RS.q [] (fun _ => .pointer (some ⟨w.heap.size, 0, none⟩)), RS.q [7] (fun _ => .slice Ad ds.length cd), RS.ow [6, 8] (p) w1, RS.q [9] (fun _ => .int .i64 (tsK p p.length)), RS.q [] (fun _ => .agg #[.slice Ad ds.length cd, .slice Ac cs.length cc]), RS.ow [11] (s) w1, RS.q [12] (fun _ => .int .i64 (tsK s s.length)), RS.q [] (fun _ => .agg #[.slice Ad ds.length cd, .slice Ac cs.length cc]), RS.ow [14] (t) w1, RS.q [15] (fun _ => .int .i64 (tsK t t.length)), RS.ow [2, 5, 10, 13, 16] (xs) w1])
      (fun W => Ext w1 W) (by kernel_rfl) (relOK (D := [[], [0], [1], [], [3], [4], [], [], [7], [6, 8], [9], [], [11], [12], [], [14], [15], [2, 5, 10, 13, 16]]) rfl (by kernel_rfl) rfl) (by kernel_rfl) ((fun W W' h hx => h.trans hx)) (Ext.refl w1).drew ?steps ?ends
    case steps =>
      refine ⟨?_, ?_, ?_, ?_, ?_, ?_, ?_, ?_, ?_, ?_, ?_, ?_, ?_, ?_, ?_, ?_, ?_, ?_, trivial⟩
      · intro V τ W hC hf ht h0
        have sb : τ 1 = .pointer (some ⟨w.heap.size, 0, none⟩) := h0 1 (by kernel_rfl)
        refine Does.val (w' := W) (v := .pointer (some ⟨w.heap.size, 0, none⟩)) ?_ ⟨Ext.refl W, rfl⟩
        clear h0 ht hf
        go_simp
      · intro V τ W hC hf ht h0
        have f0 : V 0 = .pointer (some ⟨w.heap.size, 0, none⟩) := hf 0 (by simp [RS.at_, RS.q, RS.ow])
        have s6 := (ht 0 (by simp [RS.at_, RS.q, RS.ow]) 6 rfl).trans f0
        have k0 := (hC.cells _ _ ks).trans K0.out
        refine Does.val (w' := W) (v := .slice Ad ds.length cd) ?_ ⟨Ext.refl W, rfl⟩
        clear h0 ht hf
        go_simp
      · intro V τ W hC hf ht h0
        have f1 : V 1 = .slice Ad ds.length cd := hf 1 (by simp [RS.at_, RS.q, RS.ow])
        have s7 := (ht 1 (by simp [RS.at_, RS.q, RS.ow]) 7 rfl).trans f1
        refine Does.call (w' := W) (f := 38) (args := #[.slice Ad ds.length cd]) (by go_simp; all_goals (first | exact rfl | (apply And.intro <;> exact rfl))) ?_
        refine (totalSize_any _ ds _ (hD0.out.ext (HX1.out.trans hC)) HdsD.out (by have := HdsL.out; omega)).mono ?_
        rintro e wa ⟨rfl, hxa⟩
        exact ⟨_, rfl, hxa, rfl⟩
      · intro V τ W hC hf ht h0
        have sb : τ 1 = .pointer (some ⟨w.heap.size, 0, none⟩) := h0 1 (by kernel_rfl)
        have k0 := (hC.cells _ _ ks).trans K0.out
        have k1 := (hC.cells _ _ ks).trans K1.out
        refine Does.val (w' := W) (v := .agg #[.slice Ad ds.length cd, .slice Ac cs.length cc]) ?_ ⟨Ext.refl W, rfl⟩
        clear h0 ht hf
        go_simp
      · intro V τ W hC hf ht h0
        have f3 : V 3 = .agg #[.slice Ad ds.length cd, .slice Ac cs.length cc] := hf 3 (by simp [RS.at_, RS.q, RS.ow])
        have s9 := (ht 3 (by simp [RS.at_, RS.q, RS.ow]) 9 rfl).trans f3
        refine Does.call (w' := W) (f := 25) (args := #[.agg #[.slice Ad ds.length cd, .slice Ac cs.length cc]]) (by go_simp; all_goals (first | exact rfl | (apply And.intro <;> exact rfl))) ?_
        refine (boundsFixpoint_any _ ds cs _ (hM0.out.ext (HX1.out.trans hC)) HG.out h4 h1).mono ?_
        rintro e wa hres0
        have hres : OwnRes b W e wa := by rw [HBS.out] at hres0; rw [HBE.out]; exact hres0
        have hr2 := OwnRes.from hres hC
        clear hres0
        obtain ⟨A3, c3, b3, m3, f3, rfl, -, -, -, -, hxa⟩ := hres
        exact ⟨_, rfl, hxa, hr2⟩
      · intro V τ W hC hf ht h0
        have g4 : OwnRes b w1 (.returned (V 4)) W := hf 4 (by simp [RS.at_, RS.q, RS.ow])
        have s10 : τ 10 = V 4 := ht 4 (by simp [RS.at_, RS.q, RS.ow]) 10 rfl
        refine Does.call (w' := W) (f := 38) (args := #[V 4]) (by go_simp; all_goals (first | exact rfl | (apply And.intro <;> exact rfl))) ?_
        refine (totalSize_any _ b _ (g4.ints HbD.out.i64) HbD.out (by have := HbL.out; omega)).mono ?_
        rintro e wa ⟨rfl, hxa⟩
        exact ⟨_, rfl, hxa, rfl⟩
      · intro V τ W hC hf ht h0
        have sb : τ 1 = .pointer (some ⟨w.heap.size, 0, none⟩) := h0 1 (by kernel_rfl)
        have k0 := (hC.cells _ _ ks).trans K0.out
        have k1 := (hC.cells _ _ ks).trans K1.out
        refine Does.val (w' := W) (v := .agg #[.slice Ad ds.length cd, .slice Ac cs.length cc]) ?_ ⟨Ext.refl W, rfl⟩
        clear h0 ht hf
        go_simp
      · intro V τ W hC hf ht h0
        have sb : τ 1 = .pointer (some ⟨w.heap.size, 0, none⟩) := h0 1 (by kernel_rfl)
        refine Does.val (w' := W) (v := .pointer (some ⟨w.heap.size, 0, none⟩)) ?_ ⟨Ext.refl W, rfl⟩
        clear h0 ht hf
        go_simp
      · intro V τ W hC hf ht h0
        have f7 : V 7 = .pointer (some ⟨w.heap.size, 0, none⟩) := hf 7 (by simp [RS.at_, RS.q, RS.ow])
        have s13 := (ht 7 (by simp [RS.at_, RS.q, RS.ow]) 13 rfl).trans f7
        have k0 := (hC.cells _ _ ks).trans K0.out
        refine Does.val (w' := W) (v := .slice Ad ds.length cd) ?_ ⟨Ext.refl W, rfl⟩
        clear h0 ht hf
        go_simp
      · intro V τ W hC hf ht h0
        have f6 : V 6 = .agg #[.slice Ad ds.length cd, .slice Ac cs.length cc] := hf 6 (by simp [RS.at_, RS.q, RS.ow])
        have f8 : V 8 = .slice Ad ds.length cd := hf 8 (by simp [RS.at_, RS.q, RS.ow])
        have s12 := (ht 6 (by simp [RS.at_, RS.q, RS.ow]) 12 rfl).trans f6
        have s14 := (ht 8 (by simp [RS.at_, RS.q, RS.ow]) 14 rfl).trans f8
        refine Does.call (w' := W) (f := 39) (args := #[.agg #[.slice Ad ds.length cd, .slice Ac cs.length cc], .slice Ad ds.length cd]) (by go_simp; all_goals (first | exact rfl | (apply And.intro <;> exact rfl))) ?_
        refine (fixpointS_any _ _ ds ds cs _ (hM0.out.ext (HX1.out.trans hC)) (hD0.out.ext (HX1.out.trans hC)) HG.out h4 h1).mono ?_
        rintro e wa hres0
        have hres : OwnRes p W e wa := by rw [HPE.out]; exact hres0
        have hr2 := OwnRes.from hres hC
        clear hres0
        obtain ⟨A3, c3, b3, m3, f3, rfl, -, -, -, -, hxa⟩ := hres
        exact ⟨_, rfl, hxa, hr2⟩
      · intro V τ W hC hf ht h0
        have g9 : OwnRes p w1 (.returned (V 9)) W := hf 9 (by simp [RS.at_, RS.q, RS.ow])
        have s15 : τ 15 = V 9 := ht 9 (by simp [RS.at_, RS.q, RS.ow]) 15 rfl
        refine Does.call (w' := W) (f := 38) (args := #[V 9]) (by go_simp; all_goals (first | exact rfl | (apply And.intro <;> exact rfl))) ?_
        refine (totalSize_any _ p _ (g9.ints HpD.out.i64) HpD.out (by have := HpL.out; omega)).mono ?_
        rintro e wa ⟨rfl, hxa⟩
        exact ⟨_, rfl, hxa, rfl⟩
      · intro V τ W hC hf ht h0
        have sb : τ 1 = .pointer (some ⟨w.heap.size, 0, none⟩) := h0 1 (by kernel_rfl)
        have k0 := (hC.cells _ _ ks).trans K0.out
        have k1 := (hC.cells _ _ ks).trans K1.out
        refine Does.val (w' := W) (v := .agg #[.slice Ad ds.length cd, .slice Ac cs.length cc]) ?_ ⟨Ext.refl W, rfl⟩
        clear h0 ht hf
        go_simp
      · intro V τ W hC hf ht h0
        have f11 : V 11 = .agg #[.slice Ad ds.length cd, .slice Ac cs.length cc] := hf 11 (by simp [RS.at_, RS.q, RS.ow])
        have s17 := (ht 11 (by simp [RS.at_, RS.q, RS.ow]) 17 rfl).trans f11
        refine Does.call (w' := W) (f := 40) (args := #[.agg #[.slice Ad ds.length cd, .slice Ac cs.length cc]]) (by go_simp; all_goals (first | exact rfl | (apply And.intro <;> exact rfl))) ?_
        refine (shaveS_any _ ds cs _ (hM0.out.ext (HX1.out.trans hC)) HG.out h4 h1).mono ?_
        rintro e wa hres0
        have hres : OwnRes s W e wa := by rw [HSE.out]; exact hres0
        have hr2 := OwnRes.from hres hC
        clear hres0
        obtain ⟨A3, c3, b3, m3, f3, rfl, -, -, -, -, hxa⟩ := hres
        exact ⟨_, rfl, hxa, hr2⟩
      · intro V τ W hC hf ht h0
        have g12 : OwnRes s w1 (.returned (V 12)) W := hf 12 (by simp [RS.at_, RS.q, RS.ow])
        have s18 : τ 18 = V 12 := ht 12 (by simp [RS.at_, RS.q, RS.ow]) 18 rfl
        refine Does.call (w' := W) (f := 38) (args := #[V 12]) (by go_simp; all_goals (first | exact rfl | (apply And.intro <;> exact rfl))) ?_
        refine (totalSize_any _ s _ (g12.ints HsD.out.i64) HsD.out (by have := HsL.out; omega)).mono ?_
        rintro e wa ⟨rfl, hxa⟩
        exact ⟨_, rfl, hxa, rfl⟩
      · intro V τ W hC hf ht h0
        have sb : τ 1 = .pointer (some ⟨w.heap.size, 0, none⟩) := h0 1 (by kernel_rfl)
        have k0 := (hC.cells _ _ ks).trans K0.out
        have k1 := (hC.cells _ _ ks).trans K1.out
        refine Does.val (w' := W) (v := .agg #[.slice Ad ds.length cd, .slice Ac cs.length cc]) ?_ ⟨Ext.refl W, rfl⟩
        clear h0 ht hf
        go_simp
      · intro V τ W hC hf ht h0
        have f14 : V 14 = .agg #[.slice Ad ds.length cd, .slice Ac cs.length cc] := hf 14 (by simp [RS.at_, RS.q, RS.ow])
        have s20 := (ht 14 (by simp [RS.at_, RS.q, RS.ow]) 20 rfl).trans f14
        refine Does.call (w' := W) (f := 41) (args := #[.agg #[.slice Ad ds.length cd, .slice Ac cs.length cc]]) (by go_simp; all_goals (first | exact rfl | (apply And.intro <;> exact rfl))) ?_
        refine (BackboneS_any _ ds cs _ (hM0.out.ext (HX1.out.trans hC))).mono ?_
        rintro e wa hres0
        have hres : OwnRes t W e wa := by rw [HTE.out]; exact hres0
        have hr2 := OwnRes.from hres hC
        clear hres0
        obtain ⟨A3, c3, b3, m3, f3, rfl, -, -, -, -, hxa⟩ := hres
        exact ⟨_, rfl, hxa, hr2⟩
      · intro V τ W hC hf ht h0
        have g15 : OwnRes t w1 (.returned (V 15)) W := hf 15 (by simp [RS.at_, RS.q, RS.ow])
        have s21 : τ 21 = V 15 := ht 15 (by simp [RS.at_, RS.q, RS.ow]) 21 rfl
        refine Does.call (w' := W) (f := 38) (args := #[V 15]) (by go_simp; all_goals (first | exact rfl | (apply And.intro <;> exact rfl))) ?_
        refine (totalSize_any _ t _ (g15.ints HtD.out.i64) HtD.out (by have := HtL.out; omega)).mono ?_
        rintro e wa ⟨rfl, hxa⟩
        exact ⟨_, rfl, hxa, rfl⟩
      · intro V τ W hC hf ht h0
        have f2 : V 2 = .int .i64 (tsK ds ds.length) := hf 2 (by simp [RS.at_, RS.q, RS.ow])
        have f5 : V 5 = .int .i64 (tsK b b.length) := hf 5 (by simp [RS.at_, RS.q, RS.ow])
        have f10 : V 10 = .int .i64 (tsK p p.length) := hf 10 (by simp [RS.at_, RS.q, RS.ow])
        have f13 : V 13 = .int .i64 (tsK s s.length) := hf 13 (by simp [RS.at_, RS.q, RS.ow])
        have f16 : V 16 = .int .i64 (tsK t t.length) := hf 16 (by simp [RS.at_, RS.q, RS.ow])
        have s8 := (ht 2 (by simp [RS.at_, RS.q, RS.ow]) 8 rfl).trans f2
        have s11 := (ht 5 (by simp [RS.at_, RS.q, RS.ow]) 11 rfl).trans f5
        have s16 := (ht 10 (by simp [RS.at_, RS.q, RS.ow]) 16 rfl).trans f10
        have s19 := (ht 13 (by simp [RS.at_, RS.q, RS.ow]) 19 rfl).trans f13
        have s22 := (ht 16 (by simp [RS.at_, RS.q, RS.ow]) 22 rfl).trans f16
        have hown := World.ownsRow_lit (base := W.heap.size) (size := 1) (e := 3) W #[vI (tsK ds ds.length), vI (tsK b b.length), vI (tsK p p.length), vI (tsK s s.length), vI (tsK t t.length)] 5 (Nat.le_refl _) (by unfold maxLen; omega) rfl
        have happ : AppI W.heap.size (W.alloc (.cells #[vI (tsK ds ds.length), vI (tsK b b.length), vI (tsK p p.length), vI (tsK s s.length), vI (tsK t t.length)] 3)) (.slice (some ⟨W.heap.size, 0, none⟩) 5 5) xs := by rw [HXS.out]; exact hown
        refine Does.val (w' := W.alloc (.cells #[vI (tsK ds ds.length), vI (tsK b b.length), vI (tsK p p.length), vI (tsK s s.length), vI (tsK t t.length)] 3)) (v := .slice (some ⟨W.heap.size, 0, none⟩) 5 5) ?_ ⟨(Ext.refl W).alloc _, OwnRes.from (happ.res ((Ext.refl W).alloc _) (by rw [HXS.out]; simp)) hC⟩
        clear h0 ht hf hown happ
        unfold vI
        go_simp
    case ends =>
      intro V W hC hf
      have g17 : OwnRes xs w1 (.returned (V 17)) W := hf 17 (by omega)
      have f0 : V 0 = .pointer (some ⟨w.heap.size, 0, none⟩) := hf 0 (by omega)
      have f1 : V 1 = .slice Ad ds.length cd := hf 1 (by omega)
      have f2 : V 2 = .int .i64 (tsK ds ds.length) := hf 2 (by omega)
      have f3 : V 3 = .agg #[.slice Ad ds.length cd, .slice Ac cs.length cc] := hf 3 (by omega)
      obtain ⟨A4, c4, f4⟩ := (show OwnRes b w1 (.returned (V 4)) W from hf 4 (by omega)).form
      have f5 : V 5 = .int .i64 (tsK b b.length) := hf 5 (by omega)
      have f6 : V 6 = .agg #[.slice Ad ds.length cd, .slice Ac cs.length cc] := hf 6 (by omega)
      have f7 : V 7 = .pointer (some ⟨w.heap.size, 0, none⟩) := hf 7 (by omega)
      have f8 : V 8 = .slice Ad ds.length cd := hf 8 (by omega)
      obtain ⟨A9, c9, f9⟩ := (show OwnRes p w1 (.returned (V 9)) W from hf 9 (by omega)).form
      have f10 : V 10 = .int .i64 (tsK p p.length) := hf 10 (by omega)
      have f11 : V 11 = .agg #[.slice Ad ds.length cd, .slice Ac cs.length cc] := hf 11 (by omega)
      obtain ⟨A12, c12, f12⟩ := (show OwnRes s w1 (.returned (V 12)) W from hf 12 (by omega)).form
      have f13 : V 13 = .int .i64 (tsK s s.length) := hf 13 (by omega)
      have f14 : V 14 = .agg #[.slice Ad ds.length cd, .slice Ac cs.length cc] := hf 14 (by omega)
      obtain ⟨A15, c15, f15⟩ := (show OwnRes t w1 (.returned (V 15)) W from hf 15 (by omega)).form
      have f16 : V 16 = .int .i64 (tsK t t.length) := hf 16 (by omega)
      obtain ⟨A17, c17, f17⟩ := (show OwnRes xs w1 (.returned (V 17)) W from hf 17 (by omega)).form
      rw [f17] at g17
      have HRES := hide (OwnRes.from g17 HX1.out)
      clear g17
      clear hf
      simp only [List.take_succ_cons, List.take_zero, putAll, Act.put, List.setIfInBounds_toArray, List.set_cons_succ, List.set_cons_zero, Nat.reduceAdd, f0, f1, f2, f3, f4, f5, f6, f7, f8, f9, f10, f11, f12, f13, f14, f15, f16, f17]
      simp only [nths, nth1]
      clear f0 f1 f2 f3 f4 f5 f6 f7 f8 f9 f10 f11 f12 f13 f14 f15 f16 f17
      clear hC
      go_wp2
      go_ret
      rw [HV.out]
      exact HRES.out
set_option maxRecDepth 100000 in
set_option maxHeartbeats 16000000 in
theorem ConsistencySizesI_any (v : Value) (ds : List Int) (cs : List Con) (w : World) (hM : SMod w v ds cs) (hT : TzTab w) (hb : 1 < w.heap.size) :
    Calls Tryz.prog 15 #[v] w (OwnRes (csV ds cs) w) := by
  have HT := hide hT
  clear hT
  have hM0 := hide hM
  obtain ⟨vd, vc, rfl, hD, hC⟩ := hM
  have hD0 := hide hD
  have hC0 := hide hC
  obtain ⟨Ad, cd, rfl, -, hld⟩ := hD.form
  obtain ⟨Ac, cc, rfl, -, hlc⟩ := hC.form
  obtain ⟨w0, hw0⟩ : ∃ w0, w0 = w.alloc (.cells #[.slice Ad ds.length cd, .slice Ac cs.length cc] 26) := ⟨_, rfl⟩
  have HX0 := hide (show Ext w w0 by rw [hw0]; exact (Ext.refl w).alloc _)
  have k0 : w0.cell? ⟨w.heap.size, 0, none⟩ = some (.slice Ad ds.length cd) := by rw [hw0]; go_simp
  have k1 : w0.cell? ⟨w.heap.size, 1, none⟩ = some (.slice Ac cs.length cc) := by rw [hw0]; go_simp
  have ks : w.heap.size < w0.heap.size := by rw [hw0]; simp
  clear hD hC
  go_enter Tryz.func15, Tryz.ntmps15
  go_wp2_with fail
  rw [← hw0]
  clear hw0
  refine (ValidModelI_any _ _ ds cs _ (hD0.out.ext HX0.out) (hC0.out.ext HX0.out) (fun i _ => fits_all (con0 cs i))).mono ?_
  rintro e w8 ⟨rfl, hx1⟩
  have k0 := (hx1.cells _ _ ks).trans k0
  have k1 := (hx1.cells _ _ ks).trans k1
  have ks := Nat.lt_of_lt_of_le ks hx1.size
  have HX8 := hide (HX0.out.trans hx1)
  clear hx1
  cases hv : vMod ds cs with
  | false =>
    have HV := hide (show csV ds cs = [] by rw [csV, hv]; rfl)
    clear hv
    go_wp2
    go_ret
    rw [HV.out]
    exact OwnRes.nil_ rfl HX8.out
  | true =>
    obtain ⟨hG, h1, h4⟩ := vMod_good hv
    have HG := hide hG
    have HBS := hide (show fixL (bndL trimV cs) 300 ds = bndR cs ds from bnd_same h4 hG)
    obtain ⟨b, hbe⟩ : ∃ b, b = bndR cs ds := ⟨_, rfl⟩
    obtain ⟨p, hpe⟩ : ∃ p, p = propL cs ds := ⟨_, rfl⟩
    obtain ⟨s, hse⟩ : ∃ s, s = shaveL cs ds := ⟨_, rfl⟩
    obtain ⟨t, hte⟩ : ∃ t, t = bbL cs ds := ⟨_, rfl⟩
    have HBE := hide hbe
    have HPE := hide hpe
    have HSE := hide hse
    have HTE := hide (show t = bbL cs ds from hte)
    have HdsD := hide hG.2.1
    have HdsL := hide (show ds.length = ds.length ∧ ds.length ≤ 4 from ⟨rfl, h4⟩)
    have HbD := hide (show DomL b by rw [hbe]; exact (bndR_good hG h4).2.1)
    have HbL := hide (show b.length = ds.length ∧ ds.length ≤ 4 from ⟨by rw [hbe]; exact (bndR_good hG h4).1, h4⟩)
    have HpD := hide (show DomL p by rw [hpe]; exact (propL_R hG h4).good.2.1)
    have HpL := hide (show p.length = ds.length ∧ ds.length ≤ 4 from ⟨by rw [hpe]; exact (propL_R hG h4).good.1, h4⟩)
    have HsD := hide (show DomL s by rw [hse]; exact (shaveL_good hG h4).2.1)
    have HsL := hide (show s.length = ds.length ∧ ds.length ≤ 4 from ⟨by rw [hse]; exact (shaveL_good hG h4).1, h4⟩)
    have HtD := hide (show DomL t by rw [hte]; exact (bbL_good cs ds).2)
    have HtL := hide (show t.length = ds.length ∧ ds.length ≤ 4 from ⟨by rw [hte]; exact (bbL_good cs ds).1, h4⟩)
    obtain ⟨xs, hxs⟩ : ∃ xs, xs = [tsK ds ds.length, tsK b b.length, tsK p p.length, tsK s s.length, tsK t t.length] := ⟨_, rfl⟩
    have HXS := hide hxs
    have HV := hide (show csV ds cs = xs by rw [csV, hv, hxs, hbe, hpe, hse, hte]; rfl)
    clear hv hG hbe hpe hse hte hxs
    go_wp2_with (at_make; go_must (refine wpList_mk0 _ rfl _ _ rfl 5 rfl rfl (by omega) ?_); intro v1 w1 hA1 hx1; have k0 := (hx1.cells _ _ ks).trans k0; have k1 := (hx1.cells _ _ ks).trans k1; have ks := Nat.lt_of_lt_of_le ks hx1.size)
    have HX18 := hide hx1
    have HX1 := hide (HX8.out.trans hx1)
    have HA1 := hide hA1
    have K0 := hide k0
    have K1 := hide k1
    obtain ⟨Av, cv, hv1, -⟩ := hA1.form
    rw [List.length_nil] at hv1
    subst hv1
    clear hx1 hA1 k0 k1
    go_wp2_with fail
    refine wp_region_relT (n := 15) (ts := []) (sp := [RS.q [] (fun _ => .pointer (some ⟨w.heap.size, 0, none⟩)), RS.q [0] (fun _ => .slice Ad ds.length cd), RS.q [] (fun _ => .agg #[.slice Ad ds.length cd, .slice Ac cs.length cc]), RS.ow [2] (b) w1, RS.q [] (fun _ => .agg #[.slice Ad ds.length cd, .slice Ac cs.length cc]), RS.q [] (fun _ => .pointer (some ⟨w.heap.size, 0, none⟩)), RS.q [5] (fun _ => .slice Ad ds.length cd), RS.ow [4, 6] (p) w1, RS.q [] (fun _ => .agg #[.slice Ad ds.length cd, .slice Ac cs.length cc]), RS.ow [8] (s) w1, RS.q [] (fun _ => .agg #[.slice Ad ds.length cd, .slice Ac cs.length cc]), RS.ow [10] (t) w1, RS.p [1, 3, 7, 9, 11] (fun v W => (∃ c : Nat × Nat, v = .slice (some ⟨c.1, 0, none⟩) 5 c.2) ∧ ∀ W', Keep (fun j => j < w8.heap.size ∨ w1.heap.size ≤ j) W W' → SRows W' v [ds, b, p, s, t]) (fun _ _ _ h hx => ⟨h.1, fun W' hk => h.2 W' ((hx.keep _).trans hk)⟩), RS.q [12] (fun _ => .int .i64 5), RS.q [] (fun _ => .int .i64 0)])
      (fun W => Ext w1 W) (by kernel_rfl) (relOK (D := [[], [0], [], [2], [], [], [5], [4, 6], [], [8], [], [10], [1, 3, 7, 9, 11], [12], []]) rfl (by kernel_rfl) rfl) (by kernel_rfl) ((fun W W' h hx => h.trans hx)) (Ext.refl w1).drew ?steps ?ends
    case steps =>
      refine ⟨?_, ?_, ?_, ?_, ?_, ?_, ?_, ?_, ?_, ?_, ?_, ?_, ?_, ?_, ?_, trivial⟩
      · intro V τ W hC hf ht h0
        have sb : τ 1 = .pointer (some ⟨w.heap.size, 0, none⟩) := h0 1 (by kernel_rfl)
        refine Does.val (w' := W) (v := .pointer (some ⟨w.heap.size, 0, none⟩)) ?_ ⟨Ext.refl W, rfl⟩
        clear h0 ht hf
        go_simp
      · intro V τ W hC hf ht h0
        have f0 : V 0 = .pointer (some ⟨w.heap.size, 0, none⟩) := hf 0 (by simp [RS.at_, RS.q, RS.ow, RS.p])
        have s13 := (ht 0 (by simp [RS.at_, RS.q, RS.ow, RS.p]) 13 rfl).trans f0
        have k0 := (hC.cells _ _ ks).trans K0.out
        refine Does.val (w' := W) (v := .slice Ad ds.length cd) ?_ ⟨Ext.refl W, rfl⟩
        clear h0 ht hf
        go_simp
      · intro V τ W hC hf ht h0
        have sb : τ 1 = .pointer (some ⟨w.heap.size, 0, none⟩) := h0 1 (by kernel_rfl)
        have k0 := (hC.cells _ _ ks).trans K0.out
        have k1 := (hC.cells _ _ ks).trans K1.out
        refine Does.val (w' := W) (v := .agg #[.slice Ad ds.length cd, .slice Ac cs.length cc]) ?_ ⟨Ext.refl W, rfl⟩
        clear h0 ht hf
        go_simp
      · intro V τ W hC hf ht h0
        have f2 : V 2 = .agg #[.slice Ad ds.length cd, .slice Ac cs.length cc] := hf 2 (by simp [RS.at_, RS.q, RS.ow, RS.p])
        have s15 := (ht 2 (by simp [RS.at_, RS.q, RS.ow, RS.p]) 15 rfl).trans f2
        refine Does.call (w' := W) (f := 23) (args := #[.agg #[.slice Ad ds.length cd, .slice Ac cs.length cc]]) (by go_simp; all_goals (first | exact rfl | (apply And.intro <;> exact rfl))) ?_
        refine (boundsI_any _ ds cs _ (hM0.out.ext (HX1.out.trans hC)) HG.out h4 h1 (TzTab.ext HT.out hb (HX1.out.trans hC)) (Nat.lt_of_lt_of_le hb (HX1.out.trans hC).size)).mono ?_
        rintro e wa hres0
        have hres : OwnRes b W e wa := by rw [HBE.out]; exact hres0
        have hr2 := OwnRes.from hres hC
        clear hres0
        obtain ⟨A3, c3, b3, m3, f3, rfl, -, -, -, -, hxa⟩ := hres
        exact ⟨_, rfl, hxa, hr2⟩
      · intro V τ W hC hf ht h0
        have sb : τ 1 = .pointer (some ⟨w.heap.size, 0, none⟩) := h0 1 (by kernel_rfl)
        have k0 := (hC.cells _ _ ks).trans K0.out
        have k1 := (hC.cells _ _ ks).trans K1.out
        refine Does.val (w' := W) (v := .agg #[.slice Ad ds.length cd, .slice Ac cs.length cc]) ?_ ⟨Ext.refl W, rfl⟩
        clear h0 ht hf
        go_simp
      · intro V τ W hC hf ht h0
        have sb : τ 1 = .pointer (some ⟨w.heap.size, 0, none⟩) := h0 1 (by kernel_rfl)
        refine Does.val (w' := W) (v := .pointer (some ⟨w.heap.size, 0, none⟩)) ?_ ⟨Ext.refl W, rfl⟩
        clear h0 ht hf
        go_simp
      · intro V τ W hC hf ht h0
        have f5 : V 5 = .pointer (some ⟨w.heap.size, 0, none⟩) := hf 5 (by simp [RS.at_, RS.q, RS.ow, RS.p])
        have s18 := (ht 5 (by simp [RS.at_, RS.q, RS.ow, RS.p]) 18 rfl).trans f5
        have k0 := (hC.cells _ _ ks).trans K0.out
        refine Does.val (w' := W) (v := .slice Ad ds.length cd) ?_ ⟨Ext.refl W, rfl⟩
        clear h0 ht hf
        go_simp
      · intro V τ W hC hf ht h0
        have f4 : V 4 = .agg #[.slice Ad ds.length cd, .slice Ac cs.length cc] := hf 4 (by simp [RS.at_, RS.q, RS.ow, RS.p])
        have f6 : V 6 = .slice Ad ds.length cd := hf 6 (by simp [RS.at_, RS.q, RS.ow, RS.p])
        have s17 := (ht 4 (by simp [RS.at_, RS.q, RS.ow, RS.p]) 17 rfl).trans f4
        have s19 := (ht 6 (by simp [RS.at_, RS.q, RS.ow, RS.p]) 19 rfl).trans f6
        refine Does.call (w' := W) (f := 34) (args := #[.agg #[.slice Ad ds.length cd, .slice Ac cs.length cc], .slice Ad ds.length cd]) (by go_simp; all_goals (first | exact rfl | (apply And.intro <;> exact rfl))) ?_
        refine (propagate_any _ _ ds ds cs _ (hM0.out.ext (HX1.out.trans hC)) (hD0.out.ext (HX1.out.trans hC)) HG.out h4 h1).mono ?_
        rintro e wa hres0
        have hres : OwnRes p W e wa := by rw [HPE.out]; exact hres0
        have hr2 := OwnRes.from hres hC
        clear hres0
        obtain ⟨A3, c3, b3, m3, f3, rfl, -, -, -, -, hxa⟩ := hres
        exact ⟨_, rfl, hxa, hr2⟩
      · intro V τ W hC hf ht h0
        have sb : τ 1 = .pointer (some ⟨w.heap.size, 0, none⟩) := h0 1 (by kernel_rfl)
        have k0 := (hC.cells _ _ ks).trans K0.out
        have k1 := (hC.cells _ _ ks).trans K1.out
        refine Does.val (w' := W) (v := .agg #[.slice Ad ds.length cd, .slice Ac cs.length cc]) ?_ ⟨Ext.refl W, rfl⟩
        clear h0 ht hf
        go_simp
      · intro V τ W hC hf ht h0
        have f8 : V 8 = .agg #[.slice Ad ds.length cd, .slice Ac cs.length cc] := hf 8 (by simp [RS.at_, RS.q, RS.ow, RS.p])
        have s21 := (ht 8 (by simp [RS.at_, RS.q, RS.ow, RS.p]) 21 rfl).trans f8
        refine Does.call (w' := W) (f := 35) (args := #[.agg #[.slice Ad ds.length cd, .slice Ac cs.length cc]]) (by go_simp; all_goals (first | exact rfl | (apply And.intro <;> exact rfl))) ?_
        refine (shaveI_any _ ds cs _ (hM0.out.ext (HX1.out.trans hC)) HG.out h4 h1).mono ?_
        rintro e wa hres0
        have hres : OwnRes s W e wa := by rw [HSE.out]; exact hres0
        have hr2 := OwnRes.from hres hC
        clear hres0
        obtain ⟨A3, c3, b3, m3, f3, rfl, -, -, -, -, hxa⟩ := hres
        exact ⟨_, rfl, hxa, hr2⟩
      · intro V τ W hC hf ht h0
        have sb : τ 1 = .pointer (some ⟨w.heap.size, 0, none⟩) := h0 1 (by kernel_rfl)
        have k0 := (hC.cells _ _ ks).trans K0.out
        have k1 := (hC.cells _ _ ks).trans K1.out
        refine Does.val (w' := W) (v := .agg #[.slice Ad ds.length cd, .slice Ac cs.length cc]) ?_ ⟨Ext.refl W, rfl⟩
        clear h0 ht hf
        go_simp
      · intro V τ W hC hf ht h0
        have f10 : V 10 = .agg #[.slice Ad ds.length cd, .slice Ac cs.length cc] := hf 10 (by simp [RS.at_, RS.q, RS.ow, RS.p])
        have s23 := (ht 10 (by simp [RS.at_, RS.q, RS.ow, RS.p]) 23 rfl).trans f10
        refine Does.call (w' := W) (f := 36) (args := #[.agg #[.slice Ad ds.length cd, .slice Ac cs.length cc]]) (by go_simp; all_goals (first | exact rfl | (apply And.intro <;> exact rfl))) ?_
        refine (backboneI_any _ ds cs _ (hM0.out.ext (HX1.out.trans hC)) HG.out h1 h4).mono ?_
        rintro e wa hres0
        have hres : OwnRes t W e wa := by rw [HTE.out]; exact hres0
        have hr2 := OwnRes.from hres hC
        clear hres0
        obtain ⟨A3, c3, b3, m3, f3, rfl, -, -, -, -, hxa⟩ := hres
        exact ⟨_, rfl, hxa, hr2⟩
      · intro V τ W hC hf ht h0
        have f1 : V 1 = .slice Ad ds.length cd := hf 1 (by simp [RS.at_, RS.q, RS.ow, RS.p])
        have g3 : OwnRes b w1 (.returned (V 3)) W := hf 3 (by simp [RS.at_, RS.q, RS.ow, RS.p])
        have g7 : OwnRes p w1 (.returned (V 7)) W := hf 7 (by simp [RS.at_, RS.q, RS.ow, RS.p])
        have g9 : OwnRes s w1 (.returned (V 9)) W := hf 9 (by simp [RS.at_, RS.q, RS.ow, RS.p])
        have g11 : OwnRes t w1 (.returned (V 11)) W := hf 11 (by simp [RS.at_, RS.q, RS.ow, RS.p])
        have s14 := (ht 1 (by simp [RS.at_, RS.q, RS.ow, RS.p]) 14 rfl).trans f1
        have s16 : τ 16 = V 3 := ht 3 (by simp [RS.at_, RS.q, RS.ow, RS.p]) 16 rfl
        have s20 : τ 20 = V 7 := ht 7 (by simp [RS.at_, RS.q, RS.ow, RS.p]) 20 rfl
        have s22 : τ 22 = V 9 := ht 9 (by simp [RS.at_, RS.q, RS.ow, RS.p]) 22 rfl
        have s24 : τ 24 = V 11 := ht 11 (by simp [RS.at_, RS.q, RS.ow, RS.p]) 24 rfl
        obtain ⟨A3, c3, e3⟩ := g3.form
        obtain ⟨A7, c7, e7⟩ := g7.form
        obtain ⟨A9, c9, e9⟩ := g9.form
        obtain ⟨A11, c11, e11⟩ := g11.form
        rw [e3] at s16 g3
        rw [e7] at s20 g7
        rw [e9] at s22 g9
        rw [e11] at s24 g11
        obtain ⟨W2, hW2⟩ : ∃ W2, W2 = W.alloc (.cells #[.slice Ad ds.length cd, .slice A3 b.length c3, .slice A7 p.length c7, .slice A9 s.length c9, .slice A11 t.length c11] 23) := ⟨_, rfl⟩
        have hx2 : Ext W W2 := by rw [hW2]; exact (Ext.refl W).alloc _
        have hws : w1.heap.size ≤ W.heap.size := hC.size
        have hw2s : W.heap.size < W2.heap.size := by rw [hW2]; simp
        have hrows : ∀ W', Keep (fun j => j < w8.heap.size ∨ w1.heap.size ≤ j) W2 W' → SRows W' (.slice (some ⟨W.heap.size, 0, none⟩) 5 5) [ds, b, p, s, t] := fun W' hk => ⟨_, 5, rfl, by simp, by simp, fun _ => ⟨W.heap.size, 0, rfl, Nat.lt_of_lt_of_le hw2s hk.size, fun i hi => by
          have h5 : i < 5 := by simpa using hi
          have hcl := fun (j : Nat) => hk.cell (p := ⟨W.heap.size, j, none⟩) hw2s (.inr hws)
          have hkk := (hx2.keep (fun j => j < w8.heap.size ∨ w1.heap.size ≤ j)).trans hk
          match i, h5 with
          | 0, _ => exact ⟨_, (hcl 0).trans (by rw [hW2]; go_simp), hD0.out.ext (Below.trans (HX1.out.trans hC) (hkk.below (HX1.out.trans hC).size (fun j hj => .inl (by have := HX8.out.size; omega))))⟩
          | 1, _ => exact ⟨_, (hcl 1).trans (by rw [hW2]; go_simp), g3.keepS hkk (fun _ h => .inr h) HbD.out.i64⟩
          | 2, _ => exact ⟨_, (hcl 2).trans (by rw [hW2]; go_simp), g7.keepS hkk (fun _ h => .inr h) HpD.out.i64⟩
          | 3, _ => exact ⟨_, (hcl 3).trans (by rw [hW2]; go_simp), g9.keepS hkk (fun _ h => .inr h) HsD.out.i64⟩
          | 4, _ => exact ⟨_, (hcl 4).trans (by rw [hW2]; go_simp), g11.keepS hkk (fun _ h => .inr h) HtD.out.i64⟩⟩⟩
        refine Does.val (w' := W2) (v := .slice (some ⟨W.heap.size, 0, none⟩) 5 5) ?_ ⟨hx2, ⟨(W.heap.size, 5), rfl⟩, hrows⟩
        clear h0 ht hf hrows g3 g7 g9 g11 e3 e7 e9 e11 hx2
        rw [hW2]
        go_simp
      · intro V τ W hC hf ht h0
        have g12 : (∃ c : Nat × Nat, (V 12) = .slice (some ⟨c.1, 0, none⟩) 5 c.2) ∧ ∀ W', Keep (fun j => j < w8.heap.size ∨ w1.heap.size ≤ j) W W' → SRows W' (V 12) [ds, b, p, s, t] := hf 12 (by simp [RS.at_, RS.q, RS.ow, RS.p])
        have s25 : τ 25 = V 12 := ht 12 (by simp [RS.at_, RS.q, RS.ow, RS.p]) 25 rfl
        obtain ⟨⟨c12, e12⟩, -⟩ := g12
        rw [e12] at s25
        refine Does.val (w' := W) (v := .int .i64 5) ?_ ⟨Ext.refl W, rfl⟩
        clear h0 ht hf e12
        go_simp
      · intro V τ W hC hf ht h0
        refine Does.val (w' := W) (v := .int .i64 0) ?_ ⟨Ext.refl W, rfl⟩
        clear h0 ht hf
        go_simp
    case ends =>
      intro V W hC hf
      have g12 : (∃ c : Nat × Nat, (V 12) = .slice (some ⟨c.1, 0, none⟩) 5 c.2) ∧ ∀ W', Keep (fun j => j < w8.heap.size ∨ w1.heap.size ≤ j) W W' → SRows W' (V 12) [ds, b, p, s, t] := hf 12 (by omega)
      obtain ⟨⟨c12, f12⟩, g12⟩ := g12
      have f0 : V 0 = .pointer (some ⟨w.heap.size, 0, none⟩) := hf 0 (by omega)
      have f1 : V 1 = .slice Ad ds.length cd := hf 1 (by omega)
      have f2 : V 2 = .agg #[.slice Ad ds.length cd, .slice Ac cs.length cc] := hf 2 (by omega)
      obtain ⟨A3, c3, f3⟩ := (show OwnRes b w1 (.returned (V 3)) W from hf 3 (by omega)).form
      have f4 : V 4 = .agg #[.slice Ad ds.length cd, .slice Ac cs.length cc] := hf 4 (by omega)
      have f5 : V 5 = .pointer (some ⟨w.heap.size, 0, none⟩) := hf 5 (by omega)
      have f6 : V 6 = .slice Ad ds.length cd := hf 6 (by omega)
      obtain ⟨A7, c7, f7⟩ := (show OwnRes p w1 (.returned (V 7)) W from hf 7 (by omega)).form
      have f8 : V 8 = .agg #[.slice Ad ds.length cd, .slice Ac cs.length cc] := hf 8 (by omega)
      obtain ⟨A9, c9, f9⟩ := (show OwnRes s w1 (.returned (V 9)) W from hf 9 (by omega)).form
      have f10 : V 10 = .agg #[.slice Ad ds.length cd, .slice Ac cs.length cc] := hf 10 (by omega)
      obtain ⟨A11, c11, f11⟩ := (show OwnRes t w1 (.returned (V 11)) W from hf 11 (by omega)).form
      have f13 : V 13 = .int .i64 5 := hf 13 (by omega)
      have f14 : V 14 = .int .i64 0 := hf 14 (by omega)
      rw [f12] at g12
      have HROWS := hide g12
      clear g12
      skip
      clear hf
      simp only [List.take_succ_cons, List.take_zero, putAll, Act.put, List.setIfInBounds_toArray, List.set_cons_succ, List.set_cons_zero, Nat.reduceAdd, f0, f1, f2, f3, f4, f5, f6, f7, f8, f9, f10, f11, f12, f13, f14]
      simp only [nths]
      clear f0 f1 f2 f3 f4 f5 f6 f7 f8 f9 f10 f11 f12 f13 f14
      obtain ⟨rs, hrs⟩ : ∃ rs, rs = [ds, b, p, s, t] := ⟨_, rfl⟩
      have HRS := hide hrs
      have hrl : rs.length = 5 := by rw [hrs]; rfl
      rw [← hrs] at HROWS
      have HX2 := hide (HX1.out.trans hC)
      have HXW1 := hide hC
      have HA2 := hide (HA1.out.ext hC)
      have HSZ := hide (HX18.out.trans hC).size
      have HRD := hide (show ∀ k, k < 5 → DomL (rw0 rs k) ∧ (rw0 rs k).length ≤ 4 from fun k hk => by
        rw [hrs]
        match k, hk with
        | 0, _ => exact ⟨HdsD.out, by have := HdsL.out; exact h4⟩
        | 1, _ => exact ⟨HbD.out, by have := HbL.out; show b.length ≤ 4; omega⟩
        | 2, _ => exact ⟨HpD.out, by have := HpL.out; show p.length ≤ 4; omega⟩
        | 3, _ => exact ⟨HsD.out, by have := HsL.out; show s.length ≤ 4; omega⟩
        | 4, _ => exact ⟨HtD.out, by have := HtL.out; show t.length ≤ 4; omega⟩)
      obtain ⟨Wr, rfl⟩ : ∃ Wr, Wr = W := ⟨W, rfl⟩
      clear hC hrs
      have HRL := hide hrl
      clear hrl
      go_wp2_with fail
      go_loopw [3, 27] (fun o i wr => ∃ k : Nat, i = .int .i64 k ∧ k ≤ 5 ∧ Keep (fun j => j < w8.heap.size ∨ w1.heap.size ≤ j) Wr wr ∧ AppI w8.heap.size wr o ((rs.map fun x => tsK x x.length).take k) ∧ ∀ g, o.ownBlock = some g → (w8.heap.size ≤ g ∧ g < w1.heap.size) ∨ Wr.heap.size ≤ g) (fun _ i _ => 5 - (intOf i).toNat)
      case atStart => exact ⟨0, rfl, Nat.zero_le _, Keep.refl _ _, HA2.out, fun g hg => .inl (World.ownsRow.lt HA1.out g hg)⟩
      case round =>
        obtain ⟨k, rfl, hk, hx, hA, hob⟩ := hrel
        have HOB := hide hob
        clear hob
        have HX := hide hx
        have HA := hide hA
        obtain ⟨Ao, co, rfl, -⟩ := hA.form
        clear hA
        have htk : ((rs.map fun x => tsK x x.length).take k).length = k := by rw [List.length_take, List.length_map, HRL.out]; omega
        have HTK := hide htk
        obtain ⟨Y, hY⟩ : ∃ Y, Y = (rs.map fun x => tsK x x.length).take k := ⟨_, rfl⟩
        have HY := hide hY
        rw [← hY] at HA HTK HOB ⊢
        clear htk hY
        by_cases hlt : k < 5
        · have hkI : (k : Int) < 5 := by omega
          obtain ⟨bz, oz, A', c', hbz, hbl, f1, hr⟩ := (HROWS.out _ hx).at_ (k := k) (by rw [HRL.out]; exact hlt)
          injection hbz with hbz
          injection hbz with e1 e2
          subst e1 e2
          rw [Nat.zero_add] at f1
          obtain ⟨hxd, hxl⟩ := HRD.out k hlt
          have HNX := hide (show (rs.map fun x => tsK x x.length).take (k + 1) = Y ++ [tsK (rw0 rs k) (rw0 rs k).length] by
            rw [List.take_add_one, HY.out]
            simp [rw0, List.getElem?_eq_getElem (show k < rs.length by rw [HRL.out]; exact hlt)])
          obtain ⟨x, hx9⟩ : ∃ x, x = rw0 rs k := ⟨_, rfl⟩
          rw [← hx9] at f1 hr hxd hxl HNX
          have HXD := hide hxd
          have HR := hide hr
          clear hx9 hxd hr hx
          obtain ⟨wo, rfl⟩ : ∃ wo, wo = wr := ⟨wr, rfl⟩
          go_wp2_with fail
          go_loopw [6, 33] (fun z i wr2 => ∃ t : Nat, i = .int .i64 t ∧ t ≤ x.length ∧ z = .int .i64 (tsK x t) ∧ Ext wo wr2) (fun _ i _ => x.length - (intOf i).toNat)
          case atStart => exact ⟨0, rfl, Nat.zero_le _, rfl, Ext.refl _⟩
          case round =>
            obtain ⟨u, rfl, hu, rfl, hx2⟩ := hrel
            have HX2' := hide hx2
            clear hx2
            by_cases hul : u < x.length
            · have huI : (u : Int) < x.length := by omega
              obtain ⟨by9, oy, rfl, hby, fy⟩ := (HR.out.ext HX2'.out).at_ hul
              have hdb := HXD.out u hul
              have hsb := tsK_bd x u
              have hl6 := domL_len (at0 x u)
              have HN2 := hide (show tsK x (u + 1) = tsK x u + ((domL (at0 x u)).length : Int) from rfl)
              obtain ⟨d, hd⟩ : ∃ d : Nat, at0 x u = d := ⟨(at0 x u).toNat, by omega⟩
              obtain ⟨z, hz⟩ : ∃ z, z = tsK x u := ⟨_, rfl⟩
              rw [hd] at fy hdb hl6 HN2
              rw [← hz] at hsb HN2 ⊢
              obtain ⟨L, hL⟩ : ∃ L, L = (domL (d : Int)).length := ⟨_, rfl⟩
              have HL9 := hide hL
              rw [← hL] at hl6 HN2
              have kz : IntKind.i64.wrap (z + (L : Int)) = z + L := IntWalk.i64_in _ (by omega)
              clear hd hz hL f1
              go_wp2_with fail
              refine ((size_any d (by omega) _).mono fun e w2 h => (by rw [← HL9.out] at h; exact h : e = .returned (.int .i64 (L : Nat)) ∧ _ = w2)).mono ?_
              rintro e w2 ⟨rfl, rfl⟩
              go_wp2_with fail
              go_roundw
              case rel => exact ⟨u + 1, by go_num, by omega, by rw [HN2.out], HX2'.out⟩
              case measure => simp [intOf]; omega
            · obtain rfl : u = x.length := by omega
              have huI : ¬ ((x.length : Int) < x.length) := by omega
              have HXX := hide (HX.out.ext HX2'.out)
              have HAX := hide (HA.out.ext HX2'.out)
              have hsz := HXX.out.size
              have hsz2 := HSZ.out
              clear f1
              have HQ8 := hide HX18.out.size
              go_wp2_with (at_builtin; go_must (refine wpList_appIO _ rfl _ _ rfl w8.heap.size _ Y (tsK x x.length) _ 1 rfl rfl (HAX.out.ext ((Ext.refl _).alloc _)) (by go_simp) (by have := HTK.out; omega) (by rw [World.size_alloc]; omega) ?_); intro v' w6 hA6 hg6 ho6)
              have HX6 := hide ((HXX.out.alloc _).then (Keep.of_grown hg6) (fun j hj hs e => by
                rcases HOB.out j e with ⟨q1, q2⟩ | q3
                · rcases hs with h | h <;> omega
                · omega))
              have HO6 := hide (show ∀ g, v'.ownBlock = some g → (w8.heap.size ≤ g ∧ g < w1.heap.size) ∨ Wr.heap.size ≤ g from fun g hg => by
                rcases ho6 g hg with h | h
                · exact HOB.out g h
                · rw [World.size_alloc] at h; exact .inr (by omega))
              rw [← HNX.out] at hA6
              have HA6 := hide hA6
              obtain ⟨A6, c6, rfl, -⟩ := hA6.form
              clear hA6 hg6 ho6
              go_wp2_with fail
              go_roundw
              case rel => exact ⟨k + 1, by go_num, by omega, HX6.out, HA6.out, HO6.out⟩
              case measure => simp [intOf]; omega
        · obtain rfl : k = 5 := by omega
          have HE := hide (show OwnRes (csV ds cs) w (.returned (.slice Ao Y.length co)) wr by
            have e : Y = csV ds cs := by
              rw [HY.out, HV.out, HXS.out, HRS.out]; rfl
            have h := (HA.out.res (Below.trans (HX18.out.trans HXW1.out) (HX.out.below (HX18.out.trans HXW1.out).size (fun j hj => .inl hj))) (by have := HTK.out; omega)).from HX8.out
            rw [e] at h ⊢; exact h)
          clear hx
          go_wp2
          go_ret
          exact HE.out
end Go.Proofs.YtkjbefokgmiehaaGreatDoor
