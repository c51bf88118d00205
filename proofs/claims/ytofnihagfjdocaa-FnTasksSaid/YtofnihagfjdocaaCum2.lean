/- The walk of the law's own cumulative. -/
import Derived.Test.YtofnihagfjdocaaCum
namespace Go.Proofs.Ytofnihagfjdocaa
open Go.RowKit

def upS (ts : List Tk) (k : Nat) : List Int := (List.range k).map (fun i => tkS ts i)
def upD (ts : List Tk) (k : Nat) : List Int := (List.range k).map (fun i => tkD ts i)
def upM (ts : List Tk) (k : Nat) : List Int := (List.range k).map (fun i => tkM ts i)
def upI (k : Nat) : List Int := (List.range k).map (fun (i : Nat) => (i : Int))
theorem upS_succ (ts : List Tk) (k : Nat) : upS ts k ++ [tkS ts k] = upS ts (k + 1) := by unfold upS; rw [List.range_succ, List.map_append]; rfl
theorem upD_succ (ts : List Tk) (k : Nat) : upD ts k ++ [tkD ts k] = upD ts (k + 1) := by unfold upD; rw [List.range_succ, List.map_append]; rfl
theorem upM_succ (ts : List Tk) (us : List Int) (k : Nat) : (us ++ upM ts k) ++ [tkM ts k] = us ++ upM ts (k + 1) := by unfold upM; rw [List.range_succ, List.map_append, List.append_assoc]; rfl
theorem upI_succ (k : Nat) : upI k ++ [(k : Int)] = upI (k + 1) := by unfold upI; rw [List.range_succ, List.map_append]; rfl
def upA (ts : List Tk) (k : Nat) : List Int := upD ts ts.length ++ upM ts k
theorem upA_succ (ts : List Tk) (k : Nat) : upA ts k ++ [tkM ts k] = upA ts (k + 1) := by unfold upA; exact upM_succ ts _ k
theorem upA_len (ts : List Tk) (k : Nat) : (upA ts k).length = ts.length + k := by simp [upA, upD, upM]
theorem upA_zero (ts : List Tk) : upA ts 0 = upD ts ts.length := by simp [upA, upM]
theorem upS_len (ts : List Tk) (k : Nat) : (upS ts k).length = k := by simp [upS]
theorem upD_len (ts : List Tk) (k : Nat) : (upD ts k).length = k := by simp [upD]
theorem upM_len (ts : List Tk) (k : Nat) : (upM ts k).length = k := by simp [upM]
theorem upI_len (k : Nat) : (upI k).length = k := by simp [upI]
theorem upS_at (ts : List Tk) {k i : Nat} (h : i < k) : at0 (upS ts k) i = tkS ts i := by unfold at0; rw [getD_lt _ _ (by rw [upS_len]; exact h)]; simp [upS]
theorem upI_at {k i : Nat} (h : i < k) : at0 (upI k) i = i := by unfold at0; rw [getD_lt _ _ (by rw [upI_len]; exact h)]; simp [upI]
theorem upA_at (ts : List Tk) {i : Nat} (h : i < ts.length + ts.length) : ∃ j, j < ts.length ∧ (at0 (upA ts ts.length) i = tkD ts j ∨ at0 (upA ts ts.length) i = tkM ts j) := by
  unfold at0
  rw [getD_lt _ _ (by rw [upA_len]; exact h)]
  unfold upA
  by_cases hi : i < ts.length
  · exact ⟨i, hi, .inl (by rw [List.getElem_append_left (by rw [upD_len]; exact hi)]; simp [upD])⟩
  · exact ⟨i - ts.length, by omega, .inr (by rw [List.getElem_append_right (by rw [upD_len]; omega)]; simp [upM, upD_len])⟩
/-- The law's constraint for tasks. -/
def cumC (ts : List Tk) (cap : Int) : Con := ⟨7, upI ts.length, upA ts ts.length, cap, []⟩
/-- A model with this one constraint came. -/
def CumRes (ts : List Tk) (cap : Int) (w : World) (e : Ending) (w' : World) : Prop :=
  ∃ vd vc, e = .returned (.agg #[vd, vc]) ∧ SInts w' vd (upS ts ts.length) ∧ SCons w' vc [cumC ts cap] ∧ Ext w w'
set_option maxRecDepth 100000 in
set_option maxHeartbeats 8000000 in
theorem cumulative_any (v : Value) (ts : List Tk) (cap : Int) (w : World) (hS : STasks w v ts) (hl : ts.length ≤ 1000) :
    Calls Try.prog 22 #[v, .int .i64 cap] w (CumRes ts cap w) := by
  have hS0 := hide (hS.ext ((Ext.refl w).alloc (.cells #[.slice none 0 0, .slice none 0 0] 41)))
  obtain ⟨A, c, rfl, -, -⟩ := hS.form
  clear hS
  go_enter Try.func22, Try.ntmps22
  go_wp2
  go_loopw [7] (fun i W => ∃ k : Nat, k ≤ ts.length ∧ i = .int .i64 k ∧ ∃ vd vv va, CumSt (w.alloc (.cells #[.slice none 0 0, .slice none 0 0] 41)) (w.heap.size + 1) (w.heap.size + 1 + 1) cap vd vv va (upS ts k) (upI k) (upD ts k) W) (fun i _ => ts.length - (intOf i).toNat)
  case atStart =>
    refine ⟨0, Nat.zero_le _, rfl, .slice none 0 0, .slice none 0 0, .slice none 0 0, AppI.nil_ _ _, AppI.nil_ _ _, AppI.nil_ _ _, fun g h => (by cases h), fun g h => (by cases h), fun g h => (by cases h), ?_, ?_, ?_, ?_, ?_, ?_, ?_, ?_, ?_, ?_, ?_, ?_, ?_, by simp, by simp, by omega, ?_⟩
    all_goals go_simp
    exact ((Ext.refl _).alloc _).alloc _
  case round =>
    obtain ⟨k, hk, rfl, vd, vv, va, hC⟩ := hrel
    by_cases hlt : k < ts.length
    · obtain ⟨b, off, rfl, hbl0, g1, g2, -⟩ := hS0.out.at_ hlt
      have hkI : (k : Int) < ts.length := by omega
      have f1 := (hC.ext.cells b (off + k * 3) hbl0).trans g1
      obtain ⟨Ad, cd, rfl, -⟩ := hC.d.form
      have m0 := hC.m0
      have HG := hide (hC.grow (((Ext.refl _).drew).alloc (.cells #[.int .i64 (tkS ts k)] 3)))
      have hlm := hC.lm
      have hbl := Nat.lt_of_lt_of_le hbl0 hC.ext.size
      clear hC g1
      go_wp2_with fail
      apply wp_merge (fun A' c' W' => CumSt (w.alloc (.cells #[.slice none 0 0, .slice none 0 0] 41)) (w.heap.size + 1) (w.heap.size + 1 + 1) cap (.slice A' (upS ts (k + 1)).length c') vv va (upS ts (k + 1)) (upI k) (upD ts k) W')
      case h =>
        refine wp_region_any (by kernel_rfl) ?_
        change wpAny _ _ _ _ _ _ _ (World.drew _)
        refine wpAny_take (i := 0) (v := ?_) rfl (by kernel_rfl) (by kernel_rfl) (by kernel_rfl) (by rintro _ _ _ ⟨h, _⟩; cases h) (Or.inl ⟨by rfl, ?hy0⟩) ?_
        case hy0 => intro w; go_simp; with_reducible rfl
        refine wpAny_take (i := 2) (v := ?_) rfl (by kernel_rfl) (by kernel_rfl) (by kernel_rfl) (by rintro _ _ _ ⟨h, _⟩; cases h) (Or.inl ⟨by rfl, ?hy2⟩) ?_
        case hy2 => intro w; go_simp; with_reducible rfl
        refine wpAny_take (i := 3) (v := ?_) rfl (by kernel_rfl) (by kernel_rfl) (by kernel_rfl) (by rintro _ _ _ ⟨h, _⟩; cases h) (Or.inl ⟨by rfl, ?hy3⟩) ?_
        case hy3 => intro w; go_simp; with_reducible rfl
        refine wpAny_take (i := 4) (v := ?_) rfl (by kernel_rfl) (by kernel_rfl) (by kernel_rfl) (by rintro _ _ _ ⟨h, _⟩; cases h) (Or.inl ⟨by rfl, ?hy4⟩) ?_
        case hy4 => intro w; go_simp; with_reducible rfl
        refine wpAny_take (i := 5) (v := ?_) rfl (by kernel_rfl) (by kernel_rfl) (by kernel_rfl) (by rintro _ _ _ ⟨h, _⟩; cases h) (Or.inl ⟨by rfl, ?hy5⟩) ?_
        case hy5 => intro w; go_simp; with_reducible rfl
        refine wpAny_ready (rs := [1, 6]) (by kernel_rfl) (by simp) ?_
        refine AllReady.cons rfl (fun K hK => ?_) (AllReady.cons rfl (fun K hK => ?_) AllReady.nil)
        · go_simp
          refine hK _ _ ?_; clear hK K
          refine wpAny_ready (rs := [6]) (by kernel_rfl) (by simp) ?_
          refine AllReady.cons rfl (fun K hK => ?_) AllReady.nil
          go_simp
          refine hK _ _ ?_; clear hK K
          refine wpAny_ready (rs := [7]) (by kernel_rfl) (by simp) ?_
          refine AllReady.cons rfl (fun K hK => ?_) AllReady.nil
          go_simp
          refine hK _ _ ?_; clear hK K
          refine wpAny_ready (rs := [8]) (by kernel_rfl) (by simp) ?_
          refine AllReady.cons rfl (fun K hK => ?_) AllReady.nil
          refine step_appIO _ rfl _ _ rfl (w.alloc (.cells #[.slice none 0 0, .slice none 0 0] 41)).heap.size (.slice Ad (upS ts k).length cd) (upS ts k) (tkS ts k) wr.heap.size 1 rfl rfl HG.out.d (by go_simp) (by rw [upS_len]; omega) (by have := HG.out.ext.size; exact this) ?_
          intro vx' W2 hA hg ho
          obtain ⟨r1, r2⟩ := HG.out.roomD hg
          have hN := HG.out.addD hA hg ho
          rw [upS_succ] at hN hA
          obtain ⟨A9, c9, rfl, -⟩ := hA.form
          have HN := hide hN
          clear hN hA hg ho
          refine hK _ _ ?_; clear hK K
          refine wpAny_ready (rs := [9]) (by kernel_rfl) (by simp) ?_
          refine AllReady.cons rfl (fun K hK => ?_) AllReady.nil
          go_simp
          refine hK _ _ ?_; clear hK K
          refine wpAny_ready (rs := [10]) (by kernel_rfl) (by simp) ?_
          refine AllReady.cons rfl (fun K hK => ?_) AllReady.nil
          go_simp
          refine hK _ _ ?_; clear hK K
          refine wpAny_done (by kernel_rfl) ?_ _
          exact ⟨rfl, A9, c9, HN.out, rfl⟩
        · go_simp
          refine hK _ _ ?_; clear hK K
          refine wpAny_ready (rs := [1, 7]) (by kernel_rfl) (by simp) ?_
          refine AllReady.cons rfl (fun K hK => ?_) (AllReady.cons rfl (fun K hK => ?_) AllReady.nil)
          · go_simp
            refine hK _ _ ?_; clear hK K
            refine wpAny_ready (rs := [7]) (by kernel_rfl) (by simp) ?_
            refine AllReady.cons rfl (fun K hK => ?_) AllReady.nil
            go_simp
            refine hK _ _ ?_; clear hK K
            refine wpAny_ready (rs := [8]) (by kernel_rfl) (by simp) ?_
            refine AllReady.cons rfl (fun K hK => ?_) AllReady.nil
            refine step_appIO _ rfl _ _ rfl (w.alloc (.cells #[.slice none 0 0, .slice none 0 0] 41)).heap.size (.slice Ad (upS ts k).length cd) (upS ts k) (tkS ts k) wr.heap.size 1 rfl rfl HG.out.d (by go_simp) (by rw [upS_len]; omega) (by have := HG.out.ext.size; exact this) ?_
            intro vx' W2 hA hg ho
            obtain ⟨r1, r2⟩ := HG.out.roomD hg
            have hN := HG.out.addD hA hg ho
            rw [upS_succ] at hN hA
            obtain ⟨A9, c9, rfl, -⟩ := hA.form
            have HN := hide hN
            clear hN hA hg ho
            refine hK _ _ ?_; clear hK K
            refine wpAny_ready (rs := [9]) (by kernel_rfl) (by simp) ?_
            refine AllReady.cons rfl (fun K hK => ?_) AllReady.nil
            go_simp
            refine hK _ _ ?_; clear hK K
            refine wpAny_ready (rs := [10]) (by kernel_rfl) (by simp) ?_
            refine AllReady.cons rfl (fun K hK => ?_) AllReady.nil
            go_simp
            refine hK _ _ ?_; clear hK K
            refine wpAny_done (by kernel_rfl) ?_ _
            exact ⟨rfl, A9, c9, HN.out, rfl⟩
          · go_simp
            refine hK _ _ ?_; clear hK K
            refine wpAny_ready (rs := [1]) (by kernel_rfl) (by simp) ?_
            refine AllReady.cons rfl (fun K hK => ?_) AllReady.nil
            go_simp
            refine hK _ _ ?_; clear hK K
            refine wpAny_ready (rs := [8]) (by kernel_rfl) (by simp) ?_
            refine AllReady.cons rfl (fun K hK => ?_) AllReady.nil
            refine step_appIO _ rfl _ _ rfl (w.alloc (.cells #[.slice none 0 0, .slice none 0 0] 41)).heap.size (.slice Ad (upS ts k).length cd) (upS ts k) (tkS ts k) wr.heap.size 1 rfl rfl HG.out.d (by go_simp) (by rw [upS_len]; omega) (by have := HG.out.ext.size; exact this) ?_
            intro vx' W2 hA hg ho
            obtain ⟨r1, r2⟩ := HG.out.roomD hg
            have hN := HG.out.addD hA hg ho
            rw [upS_succ] at hN hA
            obtain ⟨A9, c9, rfl, -⟩ := hA.form
            have HN := hide hN
            clear hN hA hg ho
            refine hK _ _ ?_; clear hK K
            refine wpAny_ready (rs := [9]) (by kernel_rfl) (by simp) ?_
            refine AllReady.cons rfl (fun K hK => ?_) AllReady.nil
            go_simp
            refine hK _ _ ?_; clear hK K
            refine wpAny_ready (rs := [10]) (by kernel_rfl) (by simp) ?_
            refine AllReady.cons rfl (fun K hK => ?_) AllReady.nil
            go_simp
            refine hK _ _ ?_; clear hK K
            refine wpAny_done (by kernel_rfl) ?_ _
            exact ⟨rfl, A9, c9, HN.out, rfl⟩
      intro A3 c3 W3 hC
      clear m0 hlm hbl HG f1
      obtain ⟨Av, cv, rfl, -⟩ := hC.v.form
      have c1 := hC.c1
      have HG2 := hide (hC.grow ((Ext.refl _).alloc (.cells #[.int .i64 (k : Int)] 3)))
      have hlm := hC.lm
      have hlc := hC.lc
      clear hC
      go_wp2_with (at_builtin; go_must (refine wpList_appIO _ rfl _ _ rfl (w.alloc (.cells #[.slice none 0 0, .slice none 0 0] 41)).heap.size (.slice Av (upI k).length cv) (upI k) k W3.heap.size 1 rfl rfl HG2.out.v (by go_simp) (by rw [upI_len]; omega) (by have := HG2.out.ext.size; exact this) ?_); intro vx' W4 hA hg ho; obtain ⟨r1, r2⟩ := HG2.out.roomV hg; have hN := HG2.out.addV hA hg ho; rw [upI_succ] at hN hA; obtain ⟨A9, c9, rfl, -⟩ := hA.form; have HN := hide hN; clear hN hA hg ho)
      have HC5 := hide HN.out
      obtain ⟨Aa, ca, rfl, -⟩ := HN.out.a.form
      have c2 := HC5.out.c2
      have f2 := (HC5.out.ext.cells b (off + k * 3 + 1) hbl0).trans g2
      have HG5 := hide (HC5.out.grow (((Ext.refl _).drew).alloc (.cells #[.int .i64 (tkD ts k)] 3)))
      have hlc5 := HC5.out.lc
      have hbl5 := Nat.lt_of_lt_of_le hbl0 HC5.out.ext.size
      clear g2 HN c1 HG2 hlm hlc
      generalize hW5 : W4.setCell ⟨w.heap.size + 1 + 1, 1, none⟩ (.slice A9 (upI (k + 1)).length c9) = W5 at *
      apply wp_merge (fun A' c' W' => CumSt (w.alloc (.cells #[.slice none 0 0, .slice none 0 0] 41)) (w.heap.size + 1) (w.heap.size + 1 + 1) cap (.slice A3 (upS ts (k + 1)).length c3) (.slice A9 (upI (k + 1)).length c9) (.slice A' (upD ts (k + 1)).length c') (upS ts (k + 1)) (upI (k + 1)) (upD ts (k + 1)) W')
      case h =>
        refine wp_region_any (by kernel_rfl) ?_
        change wpAny _ _ _ _ _ _ _ (World.drew _)
        refine wpAny_take (i := 0) (v := ?_) rfl (by kernel_rfl) (by kernel_rfl) (by kernel_rfl) (by rintro _ _ _ ⟨h, _⟩; cases h) (Or.inl ⟨by rfl, ?hy0⟩) ?_
        case hy0 => intro w; go_simp; with_reducible rfl
        refine wpAny_take (i := 2) (v := ?_) rfl (by kernel_rfl) (by kernel_rfl) (by kernel_rfl) (by rintro _ _ _ ⟨h, _⟩; cases h) (Or.inl ⟨by rfl, ?hy2⟩) ?_
        case hy2 => intro w; go_simp; with_reducible rfl
        refine wpAny_take (i := 3) (v := ?_) rfl (by kernel_rfl) (by kernel_rfl) (by kernel_rfl) (by rintro _ _ _ ⟨h, _⟩; cases h) (Or.inl ⟨by rfl, ?hy3⟩) ?_
        case hy3 => intro w; go_simp; with_reducible rfl
        refine wpAny_take (i := 4) (v := ?_) rfl (by kernel_rfl) (by kernel_rfl) (by kernel_rfl) (by rintro _ _ _ ⟨h, _⟩; cases h) (Or.inl ⟨by rfl, ?hy4⟩) ?_
        case hy4 => intro w; go_simp; with_reducible rfl
        refine wpAny_take (i := 5) (v := ?_) rfl (by kernel_rfl) (by kernel_rfl) (by kernel_rfl) (by rintro _ _ _ ⟨h, _⟩; cases h) (Or.inl ⟨by rfl, ?hy5⟩) ?_
        case hy5 => intro w; go_simp; with_reducible rfl
        refine wpAny_ready (rs := [1, 6]) (by kernel_rfl) (by simp) ?_
        refine AllReady.cons rfl (fun K hK => ?_) (AllReady.cons rfl (fun K hK => ?_) AllReady.nil)
        · go_simp
          refine hK _ _ ?_; clear hK K
          refine wpAny_ready (rs := [6]) (by kernel_rfl) (by simp) ?_
          refine AllReady.cons rfl (fun K hK => ?_) AllReady.nil
          go_simp
          refine hK _ _ ?_; clear hK K
          refine wpAny_ready (rs := [7]) (by kernel_rfl) (by simp) ?_
          refine AllReady.cons rfl (fun K hK => ?_) AllReady.nil
          go_simp
          refine hK _ _ ?_; clear hK K
          refine wpAny_ready (rs := [8]) (by kernel_rfl) (by simp) ?_
          refine AllReady.cons rfl (fun K hK => ?_) AllReady.nil
          refine step_appIO _ rfl _ _ rfl (w.alloc (.cells #[.slice none 0 0, .slice none 0 0] 41)).heap.size (.slice Aa (upD ts k).length ca) (upD ts k) (tkD ts k) W5.heap.size 1 rfl rfl HG5.out.a (by go_simp) (by rw [upD_len]; omega) (by have := HG5.out.ext.size; exact this) ?_
          intro vx' W2 hA hg ho
          obtain ⟨r1, r2⟩ := HG5.out.roomA hg
          have hN := HG5.out.addA hA hg ho
          rw [upD_succ] at hN hA
          obtain ⟨A9, c9, rfl, -⟩ := hA.form
          have HN := hide hN
          clear hN hA hg ho
          refine hK _ _ ?_; clear hK K
          refine wpAny_ready (rs := [9]) (by kernel_rfl) (by simp) ?_
          refine AllReady.cons rfl (fun K hK => ?_) AllReady.nil
          go_simp
          refine hK _ _ ?_; clear hK K
          refine wpAny_ready (rs := [10]) (by kernel_rfl) (by simp) ?_
          refine AllReady.cons rfl (fun K hK => ?_) AllReady.nil
          go_simp
          refine hK _ _ ?_; clear hK K
          refine wpAny_done (by kernel_rfl) ?_ _
          exact ⟨rfl, A9, c9, HN.out, rfl⟩
        · go_simp
          refine hK _ _ ?_; clear hK K
          refine wpAny_ready (rs := [1, 7]) (by kernel_rfl) (by simp) ?_
          refine AllReady.cons rfl (fun K hK => ?_) (AllReady.cons rfl (fun K hK => ?_) AllReady.nil)
          · go_simp
            refine hK _ _ ?_; clear hK K
            refine wpAny_ready (rs := [7]) (by kernel_rfl) (by simp) ?_
            refine AllReady.cons rfl (fun K hK => ?_) AllReady.nil
            go_simp
            refine hK _ _ ?_; clear hK K
            refine wpAny_ready (rs := [8]) (by kernel_rfl) (by simp) ?_
            refine AllReady.cons rfl (fun K hK => ?_) AllReady.nil
            refine step_appIO _ rfl _ _ rfl (w.alloc (.cells #[.slice none 0 0, .slice none 0 0] 41)).heap.size (.slice Aa (upD ts k).length ca) (upD ts k) (tkD ts k) W5.heap.size 1 rfl rfl HG5.out.a (by go_simp) (by rw [upD_len]; omega) (by have := HG5.out.ext.size; exact this) ?_
            intro vx' W2 hA hg ho
            obtain ⟨r1, r2⟩ := HG5.out.roomA hg
            have hN := HG5.out.addA hA hg ho
            rw [upD_succ] at hN hA
            obtain ⟨A9, c9, rfl, -⟩ := hA.form
            have HN := hide hN
            clear hN hA hg ho
            refine hK _ _ ?_; clear hK K
            refine wpAny_ready (rs := [9]) (by kernel_rfl) (by simp) ?_
            refine AllReady.cons rfl (fun K hK => ?_) AllReady.nil
            go_simp
            refine hK _ _ ?_; clear hK K
            refine wpAny_ready (rs := [10]) (by kernel_rfl) (by simp) ?_
            refine AllReady.cons rfl (fun K hK => ?_) AllReady.nil
            go_simp
            refine hK _ _ ?_; clear hK K
            refine wpAny_done (by kernel_rfl) ?_ _
            exact ⟨rfl, A9, c9, HN.out, rfl⟩
          · go_simp
            refine hK _ _ ?_; clear hK K
            refine wpAny_ready (rs := [1]) (by kernel_rfl) (by simp) ?_
            refine AllReady.cons rfl (fun K hK => ?_) AllReady.nil
            go_simp
            refine hK _ _ ?_; clear hK K
            refine wpAny_ready (rs := [8]) (by kernel_rfl) (by simp) ?_
            refine AllReady.cons rfl (fun K hK => ?_) AllReady.nil
            refine step_appIO _ rfl _ _ rfl (w.alloc (.cells #[.slice none 0 0, .slice none 0 0] 41)).heap.size (.slice Aa (upD ts k).length ca) (upD ts k) (tkD ts k) W5.heap.size 1 rfl rfl HG5.out.a (by go_simp) (by rw [upD_len]; omega) (by have := HG5.out.ext.size; exact this) ?_
            intro vx' W2 hA hg ho
            obtain ⟨r1, r2⟩ := HG5.out.roomA hg
            have hN := HG5.out.addA hA hg ho
            rw [upD_succ] at hN hA
            obtain ⟨A9, c9, rfl, -⟩ := hA.form
            have HN := hide hN
            clear hN hA hg ho
            refine hK _ _ ?_; clear hK K
            refine wpAny_ready (rs := [9]) (by kernel_rfl) (by simp) ?_
            refine AllReady.cons rfl (fun K hK => ?_) AllReady.nil
            go_simp
            refine hK _ _ ?_; clear hK K
            refine wpAny_ready (rs := [10]) (by kernel_rfl) (by simp) ?_
            refine AllReady.cons rfl (fun K hK => ?_) AllReady.nil
            go_simp
            refine hK _ _ ?_; clear hK K
            refine wpAny_done (by kernel_rfl) ?_ _
            exact ⟨rfl, A9, c9, HN.out, rfl⟩
      intro A6 c6 W6 hC
      clear c2 hlc5 hbl5 HG5 f2
      have HC6 := hide hC
      clear hC
      go_wp2
      go_roundw
      case rel => exact ⟨k + 1, by omega, by go_num, _, _, _, HC6.out⟩
      case measure => simp [intOf]; omega
    · obtain rfl : k = ts.length := by omega
      have HC0 := hide hC
      clear hC hlt
      have HL0 := hide hk
      clear hk
      go_wp2
      go_loopw [8] (fun i W => ∃ k : Nat, k ≤ ts.length ∧ i = .int .i64 k ∧ ∃ va, CumSt (w.alloc (.cells #[.slice none 0 0, .slice none 0 0] 41)) (w.heap.size + 1) (w.heap.size + 1 + 1) cap vd vv va (upS ts ts.length) (upI ts.length) (upA ts k) W) (fun i _ => ts.length - (intOf i).toNat)
      case atStart => exact ⟨0, Nat.zero_le _, rfl, va, by rw [upA_zero]; exact HC0.out⟩
      case round =>
        obtain ⟨k, hk, rfl, vb, hC⟩ := hrel
        by_cases hlt : k < ts.length
        · obtain ⟨b, off, rfl, hbl0, -, -, g3⟩ := hS0.out.at_ hlt
          have hkI : (k : Int) < ts.length := by omega
          have f3 := (hC.ext.cells b (off + k * 3 + 2) hbl0).trans g3
          obtain ⟨Aa, ca, rfl, -⟩ := hC.a.form
          have c2 := hC.c2
          have HG := hide (hC.grow (((Ext.refl _).drew).alloc (.cells #[.int .i64 (tkM ts k)] 3)))
          have hlc := hC.lc
          have hbl := Nat.lt_of_lt_of_le hbl0 hC.ext.size
          clear hC g3
          go_wp2_with fail
          apply wp_merge (fun A' c' W' => CumSt (w.alloc (.cells #[.slice none 0 0, .slice none 0 0] 41)) (w.heap.size + 1) (w.heap.size + 1 + 1) cap vd vv (.slice A' (upA ts (k + 1)).length c') (upS ts ts.length) (upI ts.length) (upA ts (k + 1)) W')
          case h =>
            refine wp_region_any (by kernel_rfl) ?_
            change wpAny _ _ _ _ _ _ _ (World.drew _)
            refine wpAny_take (i := 0) (v := ?_) rfl (by kernel_rfl) (by kernel_rfl) (by kernel_rfl) (by rintro _ _ _ ⟨h, _⟩; cases h) (Or.inl ⟨by rfl, ?hy0⟩) ?_
            case hy0 => intro w; go_simp; with_reducible rfl
            refine wpAny_take (i := 2) (v := ?_) rfl (by kernel_rfl) (by kernel_rfl) (by kernel_rfl) (by rintro _ _ _ ⟨h, _⟩; cases h) (Or.inl ⟨by rfl, ?hy2⟩) ?_
            case hy2 => intro w; go_simp; with_reducible rfl
            refine wpAny_take (i := 3) (v := ?_) rfl (by kernel_rfl) (by kernel_rfl) (by kernel_rfl) (by rintro _ _ _ ⟨h, _⟩; cases h) (Or.inl ⟨by rfl, ?hy3⟩) ?_
            case hy3 => intro w; go_simp; with_reducible rfl
            refine wpAny_take (i := 4) (v := ?_) rfl (by kernel_rfl) (by kernel_rfl) (by kernel_rfl) (by rintro _ _ _ ⟨h, _⟩; cases h) (Or.inl ⟨by rfl, ?hy4⟩) ?_
            case hy4 => intro w; go_simp; with_reducible rfl
            refine wpAny_take (i := 5) (v := ?_) rfl (by kernel_rfl) (by kernel_rfl) (by kernel_rfl) (by rintro _ _ _ ⟨h, _⟩; cases h) (Or.inl ⟨by rfl, ?hy5⟩) ?_
            case hy5 => intro w; go_simp; with_reducible rfl
            refine wpAny_ready (rs := [1, 6]) (by kernel_rfl) (by simp) ?_
            refine AllReady.cons rfl (fun K hK => ?_) (AllReady.cons rfl (fun K hK => ?_) AllReady.nil)
            · go_simp
              refine hK _ _ ?_; clear hK K
              refine wpAny_ready (rs := [6]) (by kernel_rfl) (by simp) ?_
              refine AllReady.cons rfl (fun K hK => ?_) AllReady.nil
              go_simp
              refine hK _ _ ?_; clear hK K
              refine wpAny_ready (rs := [7]) (by kernel_rfl) (by simp) ?_
              refine AllReady.cons rfl (fun K hK => ?_) AllReady.nil
              go_simp
              refine hK _ _ ?_; clear hK K
              refine wpAny_ready (rs := [8]) (by kernel_rfl) (by simp) ?_
              refine AllReady.cons rfl (fun K hK => ?_) AllReady.nil
              refine step_appIO _ rfl _ _ rfl (w.alloc (.cells #[.slice none 0 0, .slice none 0 0] 41)).heap.size (.slice Aa (upA ts k).length ca) (upA ts k) (tkM ts k) wr.heap.size 1 rfl rfl HG.out.a (by go_simp) (by rw [upA_len]; omega) (by have := HG.out.ext.size; exact this) ?_
              intro vx' W2 hA hg ho
              obtain ⟨r1, r2⟩ := HG.out.roomA hg
              have hN := HG.out.addA hA hg ho
              rw [upA_succ] at hN hA
              obtain ⟨A9, c9, rfl, -⟩ := hA.form
              have HN := hide hN
              clear hN hA hg ho
              refine hK _ _ ?_; clear hK K
              refine wpAny_ready (rs := [9]) (by kernel_rfl) (by simp) ?_
              refine AllReady.cons rfl (fun K hK => ?_) AllReady.nil
              go_simp
              refine hK _ _ ?_; clear hK K
              refine wpAny_ready (rs := [10]) (by kernel_rfl) (by simp) ?_
              refine AllReady.cons rfl (fun K hK => ?_) AllReady.nil
              go_simp
              refine hK _ _ ?_; clear hK K
              refine wpAny_done (by kernel_rfl) ?_ _
              exact ⟨rfl, A9, c9, HN.out, rfl⟩
            · go_simp
              refine hK _ _ ?_; clear hK K
              refine wpAny_ready (rs := [1, 7]) (by kernel_rfl) (by simp) ?_
              refine AllReady.cons rfl (fun K hK => ?_) (AllReady.cons rfl (fun K hK => ?_) AllReady.nil)
              · go_simp
                refine hK _ _ ?_; clear hK K
                refine wpAny_ready (rs := [7]) (by kernel_rfl) (by simp) ?_
                refine AllReady.cons rfl (fun K hK => ?_) AllReady.nil
                go_simp
                refine hK _ _ ?_; clear hK K
                refine wpAny_ready (rs := [8]) (by kernel_rfl) (by simp) ?_
                refine AllReady.cons rfl (fun K hK => ?_) AllReady.nil
                refine step_appIO _ rfl _ _ rfl (w.alloc (.cells #[.slice none 0 0, .slice none 0 0] 41)).heap.size (.slice Aa (upA ts k).length ca) (upA ts k) (tkM ts k) wr.heap.size 1 rfl rfl HG.out.a (by go_simp) (by rw [upA_len]; omega) (by have := HG.out.ext.size; exact this) ?_
                intro vx' W2 hA hg ho
                obtain ⟨r1, r2⟩ := HG.out.roomA hg
                have hN := HG.out.addA hA hg ho
                rw [upA_succ] at hN hA
                obtain ⟨A9, c9, rfl, -⟩ := hA.form
                have HN := hide hN
                clear hN hA hg ho
                refine hK _ _ ?_; clear hK K
                refine wpAny_ready (rs := [9]) (by kernel_rfl) (by simp) ?_
                refine AllReady.cons rfl (fun K hK => ?_) AllReady.nil
                go_simp
                refine hK _ _ ?_; clear hK K
                refine wpAny_ready (rs := [10]) (by kernel_rfl) (by simp) ?_
                refine AllReady.cons rfl (fun K hK => ?_) AllReady.nil
                go_simp
                refine hK _ _ ?_; clear hK K
                refine wpAny_done (by kernel_rfl) ?_ _
                exact ⟨rfl, A9, c9, HN.out, rfl⟩
              · go_simp
                refine hK _ _ ?_; clear hK K
                refine wpAny_ready (rs := [1]) (by kernel_rfl) (by simp) ?_
                refine AllReady.cons rfl (fun K hK => ?_) AllReady.nil
                go_simp
                refine hK _ _ ?_; clear hK K
                refine wpAny_ready (rs := [8]) (by kernel_rfl) (by simp) ?_
                refine AllReady.cons rfl (fun K hK => ?_) AllReady.nil
                refine step_appIO _ rfl _ _ rfl (w.alloc (.cells #[.slice none 0 0, .slice none 0 0] 41)).heap.size (.slice Aa (upA ts k).length ca) (upA ts k) (tkM ts k) wr.heap.size 1 rfl rfl HG.out.a (by go_simp) (by rw [upA_len]; omega) (by have := HG.out.ext.size; exact this) ?_
                intro vx' W2 hA hg ho
                obtain ⟨r1, r2⟩ := HG.out.roomA hg
                have hN := HG.out.addA hA hg ho
                rw [upA_succ] at hN hA
                obtain ⟨A9, c9, rfl, -⟩ := hA.form
                have HN := hide hN
                clear hN hA hg ho
                refine hK _ _ ?_; clear hK K
                refine wpAny_ready (rs := [9]) (by kernel_rfl) (by simp) ?_
                refine AllReady.cons rfl (fun K hK => ?_) AllReady.nil
                go_simp
                refine hK _ _ ?_; clear hK K
                refine wpAny_ready (rs := [10]) (by kernel_rfl) (by simp) ?_
                refine AllReady.cons rfl (fun K hK => ?_) AllReady.nil
                go_simp
                refine hK _ _ ?_; clear hK K
                refine wpAny_done (by kernel_rfl) ?_ _
                exact ⟨rfl, A9, c9, HN.out, rfl⟩
          intro A3 c3 W3 hC
          have HC6 := hide hC
          clear hC
          go_wp2
          go_roundw
          case rel => exact ⟨k + 1, by omega, by go_num, _, HC6.out⟩
          case measure => simp [intOf]; omega
        · obtain rfl : k = ts.length := by omega
          have HC9 := hide hC
          have m0 := hC.m0
          have m1 := hC.m1
          have zn := hC.zn
          have c0 := hC.c0
          have c1 := hC.c1
          have c2 := hC.c2
          have c3 := hC.c3
          have c4 := hC.c4
          have hlm := hC.lm
          have hlc := hC.lc
          obtain ⟨Ad, cd, rfl, -⟩ := hC.d.form
          obtain ⟨Av, cv, rfl, -⟩ := hC.v.form
          obtain ⟨Aa, ca, rfl, -⟩ := hC.a.form
          have HCA := hide (hC.grow ((Ext.refl _).alloc (.cells #[.int .i64 7, .slice Av (upI ts.length).length cv, .slice Aa (upA ts ts.length).length ca, .int .i64 cap, .slice none 0 0] 80)))
          clear hC hlt hk HC0
          go_wp2_with (at_builtin; go_must (refine wpList_appC1 _ rfl _ _ rfl wr.heap.size 1 (.int .i64 7) (.slice Av (upI ts.length).length cv) (.slice Aa (upA ts ts.length).length ca) (.int .i64 cap) (.slice none 0 0) rfl rfl (by go_simp) (by go_simp) (by go_simp) (by go_simp) (by go_simp) (by simp [Value.oneCell']) ?_); intro g cap' W8 hx hcap hge hg d0 d1 d2 d3 d4; have hC8 := HCA.out.grow hx; have m0' := hC8.m0; have m1' := hC8.m1; have zm' := hC8.zm; have zn' := hC8.zn; have r0 := (hC8.ext.cells w.heap.size 0 (by simp)).trans (show (w.alloc (.cells #[.slice none 0 0, .slice none 0 0] 41)).cell? ⟨w.heap.size, 0, none⟩ = some (.slice none 0 0) by go_simp); have r1 := (hC8.ext.cells w.heap.size 1 (by simp)).trans (show (w.alloc (.cells #[.slice none 0 0, .slice none 0 0] 41)).cell? ⟨w.heap.size, 1, none⟩ = some (.slice none 0 0) by go_simp); have s0 := (hC8.ext.frz w.heap.size 0 (by simp)).trans (show (w.alloc (.cells #[.slice none 0 0, .slice none 0 0] 41)).frozen? ⟨w.heap.size, 0, none⟩ = false by go_simp); have s1 := (hC8.ext.frz w.heap.size 1 (by simp)).trans (show (w.alloc (.cells #[.slice none 0 0, .slice none 0 0] 41)).frozen? ⟨w.heap.size, 1, none⟩ = false by go_simp); have HC8 := hide hC8; have HD := hide (show W8.cell? ⟨g, 0, none⟩ = some (.int .i64 7) ∧ W8.cell? ⟨g, 1, none⟩ = some (.slice Av (upI ts.length).length cv) ∧ W8.cell? ⟨g, 2, none⟩ = some (.slice Aa (upA ts ts.length).length ca) ∧ W8.cell? ⟨g, 3, none⟩ = some (.int .i64 cap) ∧ W8.cell? ⟨g, 4, none⟩ = some (.slice none 0 0) from ⟨d0, d1, d2, d3, d4⟩); clear d0 d1 d2 d3 d4 hx hC8 m0 m1 zn c0 c1 c2 c3 c4 hlm hlc)
          refine bodyPost_ret (v := .agg #[.slice Ad (upS ts ts.length).length cd, .slice (some ⟨g, 0, none⟩) 1 cap']) ?res rfl ?_
          case res =>
            unfold results
            simp only [Try.f22]
            go_simp
          have hwr := HC9.out.ext.size
          simp only [World.size_alloc] at hge hwr
          have hK : Keep (fun k => k ≠ w.heap.size + 1 ∧ k ≠ w.heap.size) W8 (((W8.setCell ⟨w.heap.size + 1, 1, none⟩ (.slice (some ⟨g, 0, none⟩) 1 cap')).setCell ⟨w.heap.size, 0, none⟩ (.slice Ad (upS ts ts.length).length cd)).setCell ⟨w.heap.size, 1, none⟩ (.slice (some ⟨g, 0, none⟩) 1 cap')) :=
            (((Keep.refl _ W8).set (fun _ t => t.1 rfl) _).set (fun _ t => t.2 rfl) _).set (fun _ t => t.2 rfl) _
          have hb : ∀ {v xs}, AppI (w.alloc (.cells #[.slice none 0 0, .slice none 0 0] 41)).heap.size W8 v xs → ∀ k, v.ownBlock = some k → k ≠ w.heap.size := fun h k e => by
            have := (World.ownsRow.lt h k e).1
            simp only [World.size_alloc] at this
            omega
          obtain ⟨d0, d1, d2, d3, d4⟩ := HD.out
          have hgs : g ≠ w.heap.size + 1 ∧ g ≠ w.heap.size := by omega
          have hI := hS0.out.i64
          refine ⟨_, _, rfl, (HC8.out.d.keep hK (fun k e => ⟨(HC8.out.dv k e).1, hb HC8.out.d k e⟩)).sints (by rw [upS_len]; omega) (fun i hi => ?_), ⟨some ⟨g, 0, none⟩, cap', rfl, hcap, by simp, fun _ => ⟨g, 0, rfl, Nat.lt_of_lt_of_le hg hK.size, fun i hi => ?_⟩⟩, ?_⟩
          · rw [upS_len] at hi
            rw [upS_at ts hi]
            exact (hI i hi).1
          · obtain rfl : i = 0 := by simp at hi; omega
            refine ⟨.slice Av (upI ts.length).length cv, .slice Aa (upA ts ts.length).length ca, .slice none 0 0, (hK.cell (p := ⟨g, 0, none⟩) hg hgs).trans d0, (hK.cell (p := ⟨g, 1, none⟩) hg hgs).trans d1, (hK.cell (p := ⟨g, 2, none⟩) hg hgs).trans d2, (hK.cell (p := ⟨g, 3, none⟩) hg hgs).trans d3, (hK.cell (p := ⟨g, 4, none⟩) hg hgs).trans d4,
              (HC8.out.v.keep hK (fun k e => ⟨(HC8.out.vo k e).1, hb HC8.out.v k e⟩)).sints (by rw [upI_len]; omega) (fun i hi => ?_), (HC8.out.a.keep hK (fun k e => ⟨(HC8.out.ao k e).1, hb HC8.out.a k e⟩)).sints (by rw [upA_len]; omega) (fun i hi => ?_), ⟨none, 0, rfl, by simp [con0, cumC], by simp [con0, cumC], fun hp => absurd hp (by simp [con0, cumC])⟩⟩
            · rw [upI_len] at hi
              rw [upI_at hi]
              constructor <;> omega
            · rw [upA_len] at hi
              rcases upA_at ts hi with ⟨j, hj, e | e⟩
              · rw [e]; exact (hI j hj).2.1
              · rw [e]; exact (hI j hj).2.2
          · exact Below.trans (Below.trans ((Ext.refl w).alloc _) (HC8.out.ext.keep (fun _ => True) |>.below (by simp) (fun _ _ => trivial))) (hK.below (by have := HC8.out.ext.size; simp at this; omega) (fun k hk => by omega))
end Go.Proofs.Ytofnihagfjdocaa
