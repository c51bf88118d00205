/- Clauses and constraints: what propagation with clauses leaves, in plain Lean. -/
import Derived.Test.YtgpbmggfpbebmaaGreatRfP
import Derived.Test.YtgpbmggfpbebmaaGreatPclV
import Derived.Test.YtgpbmggfpbebmaaGreatShrL
import Derived.Test.YtgpbmggfpbebmaaGreatNgW
import Derived.Test.YtgpbmggfpbebmaaGreatFitK
namespace Go.Proofs.YtgpbmggfpbebmaaGreat
open Go.RowKit

section
variable {cs : List Con} {n : Nat}
/-- A true literal leaves its value in its variable's domain. -/
theorem andL_keeps {ds : List Int} (h : GoodD cs n ds) {ls : List Lt} (hc : okCl ls n = true) {x : List Int} (hx : x ∈ tups ds) {k : Nat} (hk : k < ls.length) (hT : ltT x ls k = true) :
    opB ds ls k = true ∧ x ∈ tups (ds.set (ltX ls k).toNat (andL (at0 ds (ltX ls k).toNat) (lt0 ls k))) := by
  obtain ⟨X, V, hX, hV, hXn, hV6⟩ := okCl_lt hc (i := k) hk
  obtain ⟨h1, h2⟩ := (tups_in _ _).1 hx
  have hl := ltT_iff hT
  rw [hX, Int.toNat_natCast] at hl ⊢
  have hlv : (lt0 ls k).v.toNat = V := by show (ltV ls k).toNat = V; omega
  have hXd : X < ds.length := by rw [h.1]; exact hXn
  have key : ∀ v : Nat, v < 6 → at0 x X = v → hasB (at0 ds X) v = true → hasB (andL (at0 ds X) (lt0 ls k)) v = true := by
    intro v v6 hv hb
    obtain ⟨d0, d1⟩ := h.2.1 X hXd
    unfold andL
    cases hn : (lt0 ls k).n with
    | true =>
      rw [if_pos rfl, hlv, delV_has d0 d1 hV6 v6, hb]
      have := hl.2 hn
      rw [hv, hV] at this
      simp; omega
    | false =>
      rw [if_neg (by simp), hlv, andV_has d0 d1 hV6 v6, hb]
      have := hl.1 hn
      rw [hv, hV] at this
      simp; omega
  refine ⟨?_, (tups_in _ _).2 ⟨by rw [List.length_set]; exact h1, fun i hi => ?_⟩⟩
  · obtain ⟨v, v6, hv, hb⟩ := h2 X hXd
    have hk2 := key v v6 hv hb
    unfold opB
    rw [hX, Int.toNat_natCast]
    cases he : (andL (at0 ds X) (lt0 ls k) == 0) with
    | false => rfl
    | true =>
      rw [beq_iff_eq.1 he, hasB_zero] at hk2
      cases hk2
  · rw [List.length_set] at hi
    obtain ⟨v, v6, hv, hb⟩ := h2 i hi
    refine ⟨v, v6, hv, ?_⟩
    by_cases hiX : i = X
    · subst hiX
      rw [show at0 (ds.set i (andL (at0 ds i) (lt0 ls k))) i = andL (at0 ds i) (lt0 ls k) by simp [at0, hi]]
      exact key v v6 hv hb
    · rw [show at0 (ds.set X (andL (at0 ds X) (lt0 ls k))) i = at0 ds i by simp [at0, List.getD_eq_getElem?_getD, List.getElem?_set_ne (Ne.symm hiX)]]
      exact hb
theorem cntO_pos {ds : List Int} {ls : List Lt} {i : Nat} (ho : opB ds ls i = true) : ∀ k, i < k → 0 < cntO ds ls k
  | 0, h => absurd h (by omega)
  | k + 1, h => by
    rw [cntO]
    by_cases hik : i = k
    · rw [← hik, if_pos ho]; omega
    · have := cntO_pos ho k (by omega)
      split <;> omega
theorem lastO_is {ds : List Int} {ls : List Lt} {i : Nat} (ho : opB ds ls i = true) : ∀ k, i < k → cntO ds ls k = 1 → lastO ds ls k = i
  | 0, h, _ => absurd h (by omega)
  | k + 1, h, h1 => by
    rw [cntO] at h1
    rw [lastO]
    by_cases hik : i = k
    · rw [← hik, if_pos ho]
    · have hp := cntO_pos ho k (by omega)
      split at h1
      · omega
      · rename_i hk
        rw [if_neg hk]
        exact lastO_is ho k (by omega) h1
/-- A literal of the clause is true. -/
def anyT (x : List Int) (ls : List Lt) : Bool := anyB (fun i => ltT x ls i) ls.length
/-- A clause that holds takes the list of values nothing. -/
theorem unit_keeps {ds : List Int} (h : GoodD cs n ds) {ls : List Lt} (hc : okCl ls n = true) {x : List Int} (hx : x ∈ tups ds) (ha : anyT x ls = true) : x ∈ tups (unitL ds ls) := by
  obtain ⟨i, hi, hT⟩ := anyB_iff.1 ha
  obtain ⟨ho, hk⟩ := andL_keeps h hc hx hi hT
  have hp := cntO_pos ho ls.length hi
  unfold unitL
  rw [if_neg (by omega)]
  split
  · rename_i h1
    rw [lastO_is ho _ hi h1]
    exact hk
  · exact hx
theorem clK_keeps {ds : List Int} (h : GoodD cs n ds) {cls : List (List Lt)} (hc : ∀ i, i < cls.length → okCl (cl0 cls i) n = true) {x : List Int} (hx : x ∈ tups ds) (ha : ∀ i, i < cls.length → anyT x (cl0 cls i) = true) : ∀ k, k ≤ cls.length → x ∈ tups (clK cls ds k)
  | 0, _ => hx
  | k + 1, hk => unit_keeps (clK_good h hc k (by omega)).1 (hc k (by omega)) (clK_keeps h hc hx ha k (by omega)) (ha k (by omega))
theorem prop_keeps {ds : List Int} (h : GoodD cs n ds) {x : List Int} (hx : x ∈ tups ds) (ho : okAll cs x = true) : x ∈ tups (propL cs ds) := fixL_keeps ho 300 ds h hx
theorem fixC_keeps (h4 : n ≤ 4) {cls : List (List Lt)} (hc : ∀ i, i < cls.length → okCl (cl0 cls i) n = true) {x : List Int} (ho : okAll cs x = true) (ha : ∀ i, i < cls.length → anyT x (cl0 cls i) = true) : ∀ (k : Nat) (ds : List Int), GoodD cs n ds → x ∈ tups ds → x ∈ tups (fixL (stC cs cls) k ds)
  | 0, ds, _, hx => hx
  | k + 1, ds, h, hx => by
    rw [fixL]
    cases h0 : hasI ds 0 with
    | true => rw [tups_empty h0] at hx; cases hx
    | false =>
      rw [if_neg (by simp)]
      by_cases he : stC cs cls ds = ds
      · rw [if_pos he]; exact hx
      · rw [if_neg he]
        exact fixC_keeps h4 hc ho ha k _ ((stC_ok h4 hc).stay ds h) (clK_keeps (propL_R h h4).good hc (prop_keeps h hx ho) ha _ (Nat.le_refl _))
/-- A solution that all clauses hold at stays. -/
theorem clu_keeps {ds : List Int} (h : GoodD cs n ds) (h4 : n ≤ 4) {cls : List (List Lt)} (hc : ∀ i, i < cls.length → okCl (cl0 cls i) n = true) {x : List Int} (hx : x ∈ tups ds) (ho : okAll cs x = true) (ha : ∀ i, i < cls.length → anyT x (cl0 cls i) = true) :
    x ∈ tups (cluL cs cls ds) := fixC_keeps h4 hc ho ha 300 ds h hx
theorem fixL_sub {st : List Int → List Int} (hst : StOK st (GoodD cs n) n) : ∀ (k : Nat) (ds : List Int), GoodD cs n ds → SubD (fixL st k ds) ds
  | 0, ds, _ => SubD.refl ds
  | k + 1, ds, h => by
    rw [fixL]
    split
    · exact zer_sub rfl
    · split
      · exact SubD.refl ds
      · exact (fixL_sub hst k _ (hst.stay ds h)).trans (hst.sub ds h)
/-- Clauses leave no more than propagation does. -/
theorem clu_prop {ds : List Int} (h : GoodD cs n ds) (h4 : n ≤ 4) {cls : List (List Lt)} (hc : ∀ i, i < cls.length → okCl (cl0 cls i) n = true) : SubD (cluL cs cls ds) (propL cs ds) := by
  have hr := propL_R h h4
  have hs : SubD (stC cs cls ds) (propL cs ds) := (clK_good hr.good hc _ (Nat.le_refl _)).2
  have hst := stC_ok (cs := cs) h4 hc
  rw [cluL, show 300 = 299 + 1 from rfl, fixL]
  split
  · exact zer_sub (by rw [hr.good.1, h.1])
  · split
    · rename_i he; rw [he] at hs; exact hs
    · exact (fixL_sub hst 299 _ (hst.stay ds h)).trans hs
end
end Go.Proofs.YtgpbmggfpbebmaaGreat
/- Reverse propagation of the empty clause; whether a clause holds. -/
namespace Go.Proofs.YtgpbmggfpbebmaaGreat
open Go.RowKit
attribute [local go_sem] evalOf

/-- An empty slice came. -/
def Nil9 (w : World) (e : Ending) (w' : World) : Prop := ∃ A c, e = .returned (.slice A 0 c) ∧ c ≤ 1000000 ∧ Ext w w'
set_option maxRecDepth 100000 in
theorem Len64_nil (w : World) : Calls Tryz.prog 144 #[.int .u64 0] w fun e w' => (∃ l, e = .returned (.int .i64 l)) ∧ w = w' := by
  go_enter Tryz.func144, Tryz.ntmps144
  go_wp2
  go_ret
  exact ⟨⟨_, rfl⟩, rfl⟩
set_option maxRecDepth 100000 in
theorem Len_nil (w : World) : Calls Tryz.prog 128 #[.int .u64 0] w fun e w' => (∃ l, e = .returned (.int .i64 l)) ∧ w = w' := by
  go_enter Tryz.func128, Tryz.ntmps128
  go_wp2_with (go_at_call 144; refine (Len64_nil _).mono ?_; rintro e w' ⟨⟨l, rfl⟩, rfl⟩)
  go_ret
  exact ⟨⟨_, rfl⟩, rfl⟩
set_option maxRecDepth 100000 in
theorem isort_nil (A : Option Addr) (c : Nat) (f : Value) (w : World) : Calls Tryz.prog 135 #[.slice A 0 c, .int .i64 0, .int .i64 0, f] w fun e w' => e = .returned (.tuple #[]) ∧ w = w' := by
  go_enter Tryz.func135, Tryz.ntmps135
  go_wp2
  go_loopw [8] (fun i wr => i = .int .i64 1 ∧ wr = w) (fun _ _ => 0)
  case atStart => exact ⟨rfl, rfl⟩
  case round =>
    obtain ⟨rfl, rfl⟩ := hrel
    go_wp2
    go_end0
    exact ⟨rfl, rfl⟩
set_option maxRecDepth 100000 in
theorem pdq_nil (A : Option Addr) (c : Nat) (l : Int) (f : Value) (w : World) : Calls Tryz.prog 127 #[.slice A 0 c, .int .i64 0, .int .i64 0, .int .i64 l, f] w fun e w' => e = .returned (.tuple #[]) ∧ w = w' := by
  go_enter Tryz.func127, Tryz.ntmps127
  go_wp2
  go_loopw [1, 2] (fun i j wr => i = .int .i64 0 ∧ j = .int .i64 0 ∧ wr = w) (fun _ _ _ => 0)
  case atStart => exact ⟨rfl, rfl, rfl⟩
  case round =>
    obtain ⟨rfl, rfl, rfl⟩ := hrel
    go_wp2_with (go_at_call 135; refine (isort_nil _ _ _ _).mono ?_; rintro e w' ⟨rfl, rfl⟩)
    refine bodyPost_ret (v := .tuple #[]) (results_none rfl _ _ _) rfl ?_
    exact ⟨rfl, rfl⟩
set_option maxRecDepth 100000 in
theorem sort_nil (A : Option Addr) (c : Nat) (f : Value) (w : World) : Calls Tryz.prog 113 #[.slice A 0 c, f] w fun e w' => e = .returned (.tuple #[]) ∧ w = w' := by
  go_enter Tryz.func113, Tryz.ntmps113
  go_wp2_with (first | (go_at_call 128; refine (Len_nil _).mono ?_; rintro e w' ⟨⟨l, rfl⟩, rfl⟩) | (go_at_call 127; refine (pdq_nil _ _ _ _ _).mono ?_; rintro e w' ⟨rfl, rfl⟩))
  go_end0
  exact ⟨rfl, rfl⟩
theorem compact_nil (A : Option Addr) (c : Nat) (w : World) : Calls Tryz.prog 115 #[.slice A 0 c] w fun e w' => e = .returned (.slice A 0 c) ∧ w = w' := by
  go_enter Tryz.func115, Tryz.ntmps115
  go_wp2
  go_ret
  exact ⟨rfl, rfl⟩
theorem clip_nil (A : Option Addr) (c : Nat) (_hc : c ≤ 9223372036854775807) (w : World) : Calls Tryz.prog 114 #[.slice A 0 c] w fun e w' => e = .returned (.slice A 0 0) ∧ w = w' := by
  go_enter Tryz.func114, Tryz.ntmps114
  go_wp2
  go_ret
  exact ⟨rfl, rfl⟩
set_option maxRecDepth 100000 in
theorem sorted_nil (A : Option Addr) (c : Nat) (w : World) : Calls Tryz.prog 99 #[.slice A 0 c] w (Nil9 w) := by
  go_enter Tryz.func99, Tryz.ntmps99
  go_wp2_with fail
  refine (CloneL_any _ [] w ⟨A, c, rfl, Nat.zero_le _, by simp, fun h => absurd h (by simp)⟩ (by simp)).mono ?_
  rintro e w1 ⟨v, rfl, hA, hx1⟩
  obtain ⟨A1, c1, rfl, -, hc1⟩ := LayApp.form hA
  have HX1 := hide hx1
  clear hA hx1
  simp only [List.length_nil]
  go_wp2_with (first
    | (go_at_call 113; refine (sort_nil _ _ _ _).mono ?_; rintro e w' ⟨rfl, rfl⟩)
    | (go_at_call 115; refine (compact_nil _ _ _).mono ?_; rintro e w' ⟨rfl, rfl⟩)
    | (go_at_call 114; refine (clip_nil _ _ hc1 _).mono ?_; rintro e w' ⟨rfl, rfl⟩))
  go_ret
  exact ⟨_, _, rfl, by omega, HX1.out⟩
set_option maxRecDepth 100000 in
theorem negations_nil (A : Option Addr) (c : Nat) (w : World) : Calls Tryz.prog 69 #[.slice A 0 c] w (Nil9 w) := by
  go_enter Tryz.func69, Tryz.ntmps69
  go_wp2_with (at_make; go_must (refine wpList_mkG layLtOk _ rfl _ _ rfl 0 rfl rfl (by simp) (by omega) ?_); intro v1 w1 hA1 hx1; obtain ⟨A1, c1, rfl, -⟩ := LayApp.form hA1; rw [List.length_nil]; have HX1 := hide hx1; clear hA1 hx1)
  go_loopw [3, 11] (fun x i wr => x = .slice A1 0 c1 ∧ i = .int .i64 0 ∧ Ext w wr) (fun _ _ _ => 0)
  case atStart => exact ⟨rfl, rfl, HX1.out⟩
  case round =>
    obtain ⟨rfl, rfl, hx⟩ := hrel
    have HX := hide hx
    clear hx
    go_wp2_with fail
    refine (sorted_nil _ _ _).mono ?_
    rintro e w2 ⟨A2, c2, rfl, hc2, hx2⟩
    have HX2 := hide (HX.out.trans hx2)
    clear hx2
    go_wp2
    go_ret
    exact ⟨_, _, rfl, hc2, HX2.out⟩
def RS.nl9 (D : List Nat) : RS := ⟨D, fun _ v _ => ∃ A c, v = .slice A 0 c ∧ c ≤ 1000000, fun _ _ _ _ h _ => h⟩
theorem clu_len {cs : List Con} {ds : List Int} (hG : GoodD cs ds.length ds) (h4 : ds.length ≤ 4) {cls : List (List Lt)} (hok : ∀ i, i < cls.length → okCl (cl0 cls i) ds.length = true) : (cluL cs cls ds).length = ds.length := (fixL_cas h4 (stC_ok h4 hok) hG).1.1
set_option maxRecDepth 100000 in
set_option maxHeartbeats 8000000 in
theorem impliedN_any (v vcl : Value) (A : Option Addr) (c : Nat) (ds : List Int) (cs : List Con) (cls : List (List Lt)) (w : World) (hM : SMod w v ds cs) (hL : SCls w vcl cls) (hok : ∀ i, i < cls.length → okCl (cl0 cls i) ds.length = true) (hG : GoodD cs ds.length ds) (h4 : ds.length ≤ 4) (h1 : 0 < ds.length) :
    Calls Tryz.prog 35 #[v, vcl, .slice A 0 c] w (Ret (.bool (at0 (cluL cs cls ds) 0 == 0)) w) := by
  have hM0 := hide hM
  have hL0 := hide hL
  have HG := hide hG
  have HOK := hide hok
  obtain ⟨vd, vc, rfl, hD, hC⟩ := hM
  have hD0 := hide hD
  obtain ⟨Ad, cd, rfl, -, hld⟩ := hD.form
  obtain ⟨Ac, cc, rfl, -, hlc⟩ := hC.form
  obtain ⟨Al, cl, rfl, -, hll⟩ := hL.form
  obtain ⟨w0, hw0⟩ : ∃ w0, w0 = w.alloc (.cells #[.slice Ad ds.length cd, .slice Ac cs.length cc] 26) := ⟨_, rfl⟩
  have hx0 : Ext w w0 := by rw [hw0]; exact (Ext.refl w).alloc _
  have k0 : w0.cell? ⟨w.heap.size, 0, none⟩ = some (.slice Ad ds.length cd) := by rw [hw0]; go_simp
  have k1 : w0.cell? ⟨w.heap.size, 1, none⟩ = some (.slice Ac cs.length cc) := by rw [hw0]; go_simp
  have ks : w.heap.size < w0.heap.size := by rw [hw0]; simp
  have HX0 := hide hx0
  have K0 := hide k0
  have K1 := hide k1
  have hcl : (cluL cs cls ds).length = ds.length := clu_len hG h4 hok
  clear hD hC hL hG hok hx0 k0 k1
  go_enter Tryz.func35, Tryz.ntmps35
  go_wp2_with fail
  rw [← hw0]
  clear hw0
  refine wp_region_relT (n := 11) (ts := [11]) (sp := [RS.q [] (fun _ => .agg #[.slice Ad ds.length cd, .slice Ac cs.length cc]), RS.q [] (fun _ => .slice Al cls.length cl), RS.q [] (fun _ => .pointer (some ⟨w.heap.size, 0, none⟩)), RS.q [2] (fun _ => .slice Ad ds.length cd), RS.q [] (fun _ => .slice A 0 c), RS.nl9 [4], RS.ow [3, 5] ds w0, RS.ow [0, 1, 6] (cluL cs cls ds) w0, RS.ixl [7] (cluL cs cls ds) 0, RS.q [8] (fun _ => .int .i64 (at0 (cluL cs cls ds) 0)), RS.q [9] (fun _ => .bool (at0 (cluL cs cls ds) 0 == 0))])
    (fun W => Ext w0 W) (by kernel_rfl) (relOK (D := [[], [], [], [2], [], [4], [3, 5], [0, 1, 6], [7], [8], [9]]) rfl (by kernel_rfl) rfl) (by kernel_rfl) ((fun W W' h hx => h.trans hx)) (Ext.refl w0).drew ?steps ?ends
  case steps =>
    refine ⟨?_, ?_, ?_, ?_, ?_, ?_, ?_, ?_, ?_, ?_, ?_, trivial⟩
    · intro V τ W hC hf ht h0
      have s3 : τ 3 = .pointer (some ⟨w.heap.size, 0, none⟩) := h0 3 (by kernel_rfl)
      have k0 := (hC.cells _ _ ks).trans K0.out
      have k1 := (hC.cells _ _ ks).trans K1.out
      refine Does.val (w' := W) (v := .agg #[.slice Ad ds.length cd, .slice Ac cs.length cc]) ?_ ⟨Ext.refl W, rfl⟩
      clear h0 ht hf
      go_simp
    · intro V τ W hC hf ht h0
      have s1 : τ 1 = .slice Al cls.length cl := h0 1 (by kernel_rfl)
      refine Does.val (w' := W) (v := .slice Al cls.length cl) ?_ ⟨Ext.refl W, rfl⟩
      go_simp
    · intro V τ W hC hf ht h0
      have s3 : τ 3 = .pointer (some ⟨w.heap.size, 0, none⟩) := h0 3 (by kernel_rfl)
      refine Does.val (w' := W) (v := .pointer (some ⟨w.heap.size, 0, none⟩)) ?_ ⟨Ext.refl W, rfl⟩
      go_simp
    · intro V τ W hC hf ht h0
      have f2 : V 2 = .pointer (some ⟨w.heap.size, 0, none⟩) := hf 2 (by simp [RS.at_, RS.q, RS.ow, RS.ixl, RS.nl9])
      have s9 := (ht 2 (by simp [RS.at_, RS.q, RS.ow, RS.ixl, RS.nl9]) 9 rfl).trans f2
      have k0 := (hC.cells _ _ ks).trans K0.out
      refine Does.val (w' := W) (v := .slice Ad ds.length cd) ?_ ⟨Ext.refl W, rfl⟩
      go_simp
    · intro V τ W hC hf ht h0
      have s2 : τ 2 = .slice A 0 c := h0 2 (by kernel_rfl)
      refine Does.val (w' := W) (v := .slice A 0 c) ?_ ⟨Ext.refl W, rfl⟩
      go_simp
    · intro V τ W hC hf ht h0
      have f4 : V 4 = .slice A 0 c := hf 4 (by simp [RS.at_, RS.q, RS.ow, RS.ixl, RS.nl9])
      have s11 := (ht 4 (by simp [RS.at_, RS.q, RS.ow, RS.ixl, RS.nl9]) 11 rfl).trans f4
      refine Does.call (w' := W) (f := 69) (args := #[.slice A 0 c]) (by go_simp; all_goals (first | exact rfl | (apply And.intro <;> exact rfl))) ?_
      refine (negations_nil _ _ _).mono ?_
      rintro e wa ⟨A3, c3, rfl, hc3, hxa⟩
      exact ⟨_, rfl, hxa, A3, c3, rfl, hc3⟩
    · intro V τ W hC hf ht h0
      have f3 : V 3 = .slice Ad ds.length cd := hf 3 (by simp [RS.at_, RS.q, RS.ow, RS.ixl, RS.nl9])
      obtain ⟨A5, c5, f5, hc5⟩ := (show ∃ A c, V 5 = .slice A 0 c ∧ c ≤ 1000000 from hf 5 (by simp [RS.at_, RS.q, RS.ow, RS.ixl, RS.nl9]))
      have s10 := (ht 3 (by simp [RS.at_, RS.q, RS.ow, RS.ixl, RS.nl9]) 10 rfl).trans f3
      have s12 := (ht 5 (by simp [RS.at_, RS.q, RS.ow, RS.ixl, RS.nl9]) 12 rfl).trans f5
      refine Does.call (w' := W) (f := 68) (args := #[.slice Ad ds.length cd, .slice A5 0 c5]) (by go_simp; all_goals (first | exact rfl | (apply And.intro <;> exact rfl))) ?_
      refine (restricted_any _ _ ds [] ds.length _ (hD0.out.ext (HX0.out.trans hC)) ⟨A5, c5, rfl, Nat.zero_le _, by simp, fun h => absurd h (by simp)⟩ HG.out.dom (by simp [okCl, anyB]) h1 h4).mono ?_
      rintro e wa hres
      have hr2 : OwnRes ds w0 e wa := OwnRes.from hres hC
      obtain ⟨A3, c3, b3, m3, f3, rfl, -, -, -, -, hxa⟩ := hres
      exact ⟨_, rfl, hxa, hr2⟩
    · intro V τ W hC hf ht h0
      have f0 : V 0 = .agg #[.slice Ad ds.length cd, .slice Ac cs.length cc] := hf 0 (by simp [RS.at_, RS.q, RS.ow, RS.ixl, RS.nl9])
      have f1 : V 1 = .slice Al cls.length cl := hf 1 (by simp [RS.at_, RS.q, RS.ow, RS.ixl, RS.nl9])
      have f6 : OwnRes ds w0 (.returned (V 6)) W := hf 6 (by simp [RS.at_, RS.q, RS.ow, RS.ixl, RS.nl9])
      have s7 := (ht 0 (by simp [RS.at_, RS.q, RS.ow, RS.ixl, RS.nl9]) 7 rfl).trans f0
      have s8 := (ht 1 (by simp [RS.at_, RS.q, RS.ow, RS.ixl, RS.nl9]) 8 rfl).trans f1
      have s13 : τ 13 = V 6 := ht 6 (by simp [RS.at_, RS.q, RS.ow, RS.ixl, RS.nl9]) 13 rfl
      refine Does.call (w' := W) (f := 19) (args := #[.agg #[.slice Ad ds.length cd, .slice Ac cs.length cc], .slice Al cls.length cl, V 6]) (by go_simp; all_goals (first | exact rfl | (apply And.intro <;> exact rfl))) ?_
      refine (withC_any _ _ _ ds ds cs cls _ (hM0.out.ext (HX0.out.trans hC)) (hL0.out.ext (HX0.out.trans hC)) HOK.out (f6.ints (fun i hi => by have := HG.out.2.1 i hi; unfold I64; omega)) HG.out h4 h1).mono ?_
      rintro e wa hres
      have hr2 := OwnRes.from hres hC
      obtain ⟨A3, c3, b3, m3, f3, rfl, -, -, -, -, hxa⟩ := hres
      exact ⟨_, rfl, hxa, hr2⟩
    · intro V τ W hC hf ht h0
      have f7 : OwnRes (cluL cs cls ds) w0 (.returned (V 7)) W := hf 7 (by simp [RS.at_, RS.q, RS.ow, RS.ixl, RS.nl9])
      obtain ⟨A2, c2, b2, m2, g2, he, -, -, -, ho2, -⟩ := f7
      injection he with he
      rw [hcl] at he
      have s14 := (ht 7 (by simp [RS.at_, RS.q, RS.ow, RS.ixl, RS.nl9]) 14 rfl).trans he
      obtain ⟨rfl, hr2, hm2, hg2⟩ := ho2 (by omega)
      have hcl2 := hr2.cell (i := 0) (by omega)
      rw [hg2 0 (by omega)] at hcl2
      have h1I : (0 : Int) < ds.length := by omega
      refine Does.val (w' := W) (v := .pointer (some ⟨b2, 0, none⟩)) ?_ ⟨Ext.refl W, b2, rfl, hr2.lt, hcl2⟩
      clear hcl2 hr2 hg2 h0 ht hf
      go_simp
    · intro V τ W hC hf ht h0
      obtain ⟨b5, f8, hb5, hcc⟩ := (show ∃ b, V 8 = .pointer (some ⟨b, 0, none⟩) ∧ _ ∧ W.cell? ⟨b, 0, none⟩ = some (.int .i64 (at0 (cluL cs cls ds) 0)) from hf 8 (by simp [RS.at_, RS.q, RS.ow, RS.ixl, RS.nl9]))
      have s15 := (ht 8 (by simp [RS.at_, RS.q, RS.ow, RS.ixl, RS.nl9]) 15 rfl).trans f8
      refine Does.val (w' := W) (v := .int .i64 (at0 (cluL cs cls ds) 0)) ?_ ⟨Ext.refl W, rfl⟩
      go_simp
    · intro V τ W hC hf ht h0
      have f9 : V 9 = .int .i64 (at0 (cluL cs cls ds) 0) := hf 9 (by simp [RS.at_, RS.q, RS.ow, RS.ixl, RS.nl9])
      have s16 := (ht 9 (by simp [RS.at_, RS.q, RS.ow, RS.ixl, RS.nl9]) 16 rfl).trans f9
      refine Does.val (w' := W) (v := .bool (at0 (cluL cs cls ds) 0 == 0)) ?_ ⟨Ext.refl W, rfl⟩
      go_simp
  case ends =>
    intro V W hC hf
    have f0 : V 0 = .agg #[.slice Ad ds.length cd, .slice Ac cs.length cc] := hf 0 (by omega)
    have f1 : V 1 = .slice Al cls.length cl := hf 1 (by omega)
    have f2 : V 2 = .pointer (some ⟨w.heap.size, 0, none⟩) := hf 2 (by omega)
    have f3 : V 3 = .slice Ad ds.length cd := hf 3 (by omega)
    have f4 : V 4 = .slice A 0 c := hf 4 (by omega)
    obtain ⟨A5, c5, f5, -⟩ := (show ∃ A c, V 5 = .slice A 0 c ∧ c ≤ 1000000 from hf 5 (by omega))
    obtain ⟨A6, c6, f6⟩ := (show OwnRes ds w0 (.returned (V 6)) W from hf 6 (by omega)).form
    obtain ⟨A7, c7, f7⟩ := (show OwnRes (cluL cs cls ds) w0 (.returned (V 7)) W from hf 7 (by omega)).form
    obtain ⟨b8, f8, -, -⟩ := (show ∃ b, V 8 = .pointer (some ⟨b, 0, none⟩) ∧ _ ∧ W.cell? ⟨b, 0, none⟩ = some (.int .i64 (at0 (cluL cs cls ds) 0)) from hf 8 (by omega))
    have f9 : V 9 = .int .i64 (at0 (cluL cs cls ds) 0) := hf 9 (by omega)
    have f10 : V 10 = .bool (at0 (cluL cs cls ds) 0 == 0) := hf 10 (by omega)
    rw [hcl] at f7
    clear hf
    simp only [List.take_succ_cons, List.take_zero, putAll, Act.put, List.setIfInBounds_toArray, List.set_cons_succ, List.set_cons_zero, Nat.reduceAdd, f0, f1, f2, f3, f4, f5, f6, f7, f8, f9, f10]
    simp only [nths, nth1]
    clear f0 f1 f2 f3 f4 f5 f6 f7 f8 f9 f10
    have HXE := hide (HX0.out.trans hC)
    clear hC
    go_wp2
    go_ret
    exact Ret.mk rfl HXE.out
set_option maxRecDepth 100000 in
set_option maxHeartbeats 4000000 in
theorem IsImpliedN_any (vd vc vcl : Value) (A : Option Addr) (c : Nat) (ds : List Int) (cs : List Con) (cls : List (List Lt)) (w : World) (hD : SInts w vd ds) (hC : SCons w vc cs) (hL : SCls w vcl cls) :
    Calls Tryz.prog 13 #[.agg #[vd, vc], vcl, .slice A 0 c] w (Ret (.bool (pclOk ds cs cls && (at0 (cluL cs cls ds) 0 == 0))) w) := by
  have hD0 := hide hD
  have hC0 := hide hC
  have hL0 := hide hL
  have hbd := hD.bytes
  obtain ⟨Ad, cd, rfl, -, hld⟩ := hD.form
  obtain ⟨Ac, cc, rfl, -, hlc⟩ := hC.form
  obtain ⟨Al, cl, rfl, -, hll⟩ := hL.form
  obtain ⟨w0, hw0⟩ : ∃ w0, w0 = w.alloc (.cells #[.slice Ad ds.length cd, .slice Ac cs.length cc] 26) := ⟨_, rfl⟩
  have HX0 := hide (show Ext w w0 by rw [hw0]; exact (Ext.refl w).alloc _)
  have k0 : w0.cell? ⟨w.heap.size, 0, none⟩ = some (.slice Ad ds.length cd) := by rw [hw0]; go_simp
  have k1 : w0.cell? ⟨w.heap.size, 1, none⟩ = some (.slice Ac cs.length cc) := by rw [hw0]; go_simp
  have ks : w.heap.size < w0.heap.size := by rw [hw0]; simp
  clear hD hC hL
  go_enter Tryz.func13, Tryz.ntmps13
  go_wp2_with fail
  rw [← hw0]
  clear hw0
  refine (ValidModelI_any _ _ ds cs _ (hD0.out.ext HX0.out) (hC0.out.ext HX0.out) (fun i _ => fits_all (con0 cs i))).mono ?_
  rintro e w1 ⟨rfl, hx1⟩
  have k0 := (hx1.cells _ _ ks).trans k0
  have k1 := (hx1.cells _ _ ks).trans k1
  have ks := Nat.lt_of_lt_of_le ks hx1.size
  have HX1 := hide (HX0.out.trans hx1)
  clear hx1
  cases hq : vMod ds cs with
  | false =>
    have HP := hide (show (pclOk ds cs cls && (at0 (cluL cs cls ds) 0 == 0)) = false by rw [pclOk, hq]; rfl)
    clear hq
    go_wp2
    go_ret
    exact Ret.mk (ret_b HP.out.symm) HX1.out
  | true =>
    have HQ := hide hq
    have HG := hide (vMod_good hq)
    have HIN := hide (show inR ds.length 1 4 = true by have := HG.out.2; simp [inR]; omega)
    clear hq
    go_wp2_with fail
    refine (proofOk_any _ cls ds.length _ (hL0.out.ext HX1.out) (by omega) (by omega)).mono ?_
    rintro e w2 ⟨rfl, hx2⟩
    rw [proof_same HIN.out]
    have k0 := (hx2.cells _ _ ks).trans k0
    have k1 := (hx2.cells _ _ ks).trans k1
    have ks := Nat.lt_of_lt_of_le ks hx2.size
    have HX2 := hide (HX1.out.trans hx2)
    clear hx2
    cases hq2 : okCls cls ds.length with
    | false =>
      have HP := hide (show (pclOk ds cs cls && (at0 (cluL cs cls ds) 0 == 0)) = false by rw [pclOk, hq2, Bool.and_false]; rfl)
      clear hq2
      go_wp2
      go_ret
      exact Ret.mk (ret_b HP.out.symm) HX2.out
    | true =>
      have HP := hide (show (pclOk ds cs cls && (at0 (cluL cs cls ds) 0 == 0)) = (at0 (cluL cs cls ds) 0 == 0) by rw [pclOk, hq2, HQ.out]; rfl)
      have HOK := hide hq2
      clear hq2
      go_wp2_with fail
      refine (ValidClauseI_any _ [] ds.length _ ⟨A, c, rfl, Nat.zero_le _, by simp, fun h => absurd h (by simp)⟩ (by omega) (by omega)).mono ?_
      rintro e w3 ⟨rfl, hx3⟩
      rw [HIN.out, show okCl [] (ds.length : Int) = true by simp [okCl, anyB], Bool.true_and]
      have k0 := (hx3.cells _ _ ks).trans k0
      have k1 := (hx3.cells _ _ ks).trans k1
      have ks := Nat.lt_of_lt_of_le ks hx3.size
      have HX3 := hide (HX2.out.trans hx3)
      clear hx3
      go_wp2_with fail
      refine (impliedN_any _ _ A c ds cs cls _ ⟨_, _, rfl, hD0.out.ext HX3.out, hC0.out.ext HX3.out⟩ (hL0.out.ext HX3.out) (fun i hi => okCls_at HOK.out hi) HG.out.1 HG.out.2.2 HG.out.2.1).mono ?_
      rintro e w4 ⟨rfl, hx4⟩
      have HX4 := hide (HX3.out.trans hx4)
      clear hx4
      rw [← HP.out]
      go_wp2
      go_ret
      exact Ret.mk rfl HX4.out
/-- A clause holds at a list of values. -/
def chV (ls : List Lt) (x : List Int) : Bool := (inR x.length 1 4 && (allR x 0 5 && okCl ls x.length)) && anyT x ls
set_option maxRecDepth 100000 in
set_option maxHeartbeats 4000000 in
theorem ClHolds1_any (vx : Value) (x : List Int) (ls : List Lt) (k bx : Nat) (w : World) (hk : k < ls.length) (hm : w.cell? ⟨bx, 0, none⟩ = some vx) (hbx : bx < w.heap.size) (hS : SInts w vx x) (hok : okCl ls x.length = true) (hv : ∀ j, j < x.length → 0 ≤ at0 x j ∧ at0 x j ≤ 5) :
    Calls Tryz.prog 29 #[.agg #[.int .i64 (ltX ls k), .int .i64 (ltV ls k), .bool (ltN ls k)], .pointer (some ⟨bx, 0, none⟩)] w (Ret (.bool (ltT x ls k)) w) := by
  have hS0 := hide hS
  obtain ⟨Ax, cx, rfl, -, hlx⟩ := hS.form
  obtain ⟨u, hu, hun, hv0, hv5⟩ := lt_nat hok hk
  have huI : (u : Int) < x.length := by omega
  have hub := hv u hun
  obtain ⟨y, hy⟩ : ∃ y : Nat, at0 x u = y := ⟨(at0 x u).toNat, by omega⟩
  have hy5 : y ≤ 5 := by omega
  have HT := hide (show hasB (litD (lt0 ls k)) y = ltT x ls k by rw [litD_has hv0 hv5 (by omega), ltT, hu, Int.toNat_natCast, hy]; rfl)
  have hlb := litD_bd (l := lt0 ls k) (by omega)
  obtain ⟨z, hz⟩ : ∃ z, z = litD (lt0 ls k) := ⟨_, rfl⟩
  have HZ := hide hz
  rw [← hz] at HT hlb
  have HV := hide (And.intro hv0 hv5)
  have HY := hide hy
  obtain ⟨w0, hw0⟩ : ∃ w0, w0 = w.alloc (.cells #[.int .i64 u, .int .i64 (ltV ls k), .bool (ltN ls k)] 56) := ⟨_, rfl⟩
  have hx0 : Ext w w0 := by rw [hw0]; exact (Ext.refl w).alloc _
  have z0 : w0.cell? ⟨w.heap.size, 0, none⟩ = some (.int .i64 u) := by rw [hw0]; go_simp
  have z1 : w0.cell? ⟨w.heap.size, 1, none⟩ = some (.int .i64 (ltV ls k)) := by rw [hw0]; go_simp
  have z2 : w0.cell? ⟨w.heap.size, 2, none⟩ = some (.bool (ltN ls k)) := by rw [hw0]; go_simp
  have zs : w.heap.size < w0.heap.size := by rw [hw0]; simp
  have hm0 := (hx0.cells _ _ hbx).trans hm
  have hbx0 := Nat.lt_of_lt_of_le hbx hx0.size
  have HX0 := hide hx0
  obtain ⟨b, off, rfl, hbl, fx⟩ := (hS0.out.ext hx0).at_ hun
  rw [hy] at fx
  rw [hu]
  clear hS hok hv hub hy hz hv0 hv5 hx0 hm hu
  go_enter Tryz.func29, Tryz.ntmps29
  go_wp2_with fail
  rw [← hw0]
  clear hw0
  refine wp_region_ext (by kernel_rfl) (by kernel_rfl) ?_
  (apply quiet_val; (focus rfl); (focus (intro w' hw'; have hk' := hw'.cells; go_simp; all_goals exact rfl)); simp only [Act.put, List.setIfInBounds_toArray, List.set_cons_succ, List.set_cons_zero])
  apply quiet_call; (focus rfl); (focus (intro w' hw'; go_simp; all_goals (first | exact rfl | (apply And.intro <;> exact rfl))))
  · exact fun w' hw' => Ret.quiet ((trues_any ⟨u, ltV ls k, ltN ls k⟩ w' HV.out.1 HV.out.2).mono fun e w2 h => by rw [show litD ⟨u, ltV ls k, ltN ls k⟩ = z from HZ.out.symm] at h; exact h) hw'
  (simp only [Act.put, List.setIfInBounds_toArray, List.set_cons_succ, List.set_cons_zero])
  iterate 5 (apply quiet_val; (focus rfl); (focus (intro w' hw'; have hk' := hw'.cells; go_simp; all_goals exact rfl)); simp only [Act.put, List.setIfInBounds_toArray, List.set_cons_succ, List.set_cons_zero])
  apply quiet_call; (focus rfl); (focus (intro w' hw'; go_simp; all_goals (first | exact rfl | (apply And.intro <;> exact rfl))))
  · exact fun w' hw' => same_quiet (has_any z y w' hlb.1 (by omega) hy5) hw'
  (simp only [Act.put, List.setIfInBounds_toArray, List.set_cons_succ, List.set_cons_zero])
  (apply quiet_val; (focus rfl); (focus (intro w' hw'; have hk' := hw'.cells; go_simp; all_goals exact rfl)); simp only [Act.put, List.setIfInBounds_toArray, List.set_cons_succ, List.set_cons_zero])
  refine wpQuiet_nil ?_
  intro w2 hx2
  have HX2 := hide (HX0.out.trans hx2)
  clear hx2
  go_wp2
  go_ret
  exact Ret.mk (ret_b (by rw [HT.out])) HX2.out
set_option maxRecDepth 100000 in
set_option maxHeartbeats 4000000 in
theorem ClauseHoldsI_any (v vl : Value) (x : List Int) (ls : List Lt) (w : World) (hS : SInts w v x) (hL : SLt w vl ls) :
    Calls Tryz.prog 9 #[vl, v] w (Ret (.bool (chV ls x)) w) := by
  have hS0 := hide hS
  have hL0 := hide hL
  have hbx := hS.bytes
  obtain ⟨Ax, cx, rfl, -, hlx⟩ := hS.form
  obtain ⟨Al, cl, rfl, -, hll⟩ := hL.form
  obtain ⟨w0, hw0⟩ : ∃ w0, w0 = w.alloc (.cells #[.slice Ax x.length cx] 23) := ⟨_, rfl⟩
  have HX0 := hide (show Ext w w0 by rw [hw0]; exact (Ext.refl w).alloc _)
  have k0 : w0.cell? ⟨w.heap.size, 0, none⟩ = some (.slice Ax x.length cx) := by rw [hw0]; go_simp
  have ks : w.heap.size < w0.heap.size := by rw [hw0]; simp
  clear hS hL
  go_enter Tryz.func9, Tryz.ntmps9
  go_wp2_with fail
  rw [← hw0]
  clear hw0
  refine (within_any _ _ _ _).mono ?_
  rintro e w' ⟨rfl, rfl⟩
  cases h1 : inR x.length 1 4 with
  | false =>
    have HV := hide (show chV ls x = false by rw [chV, h1]; rfl)
    clear h1
    go_wp2
    go_ret
    exact Ret.mk (ret_b HV.out.symm) HX0.out
  | true =>
    have H1 := hide h1
    clear h1
    go_wp2_with fail
    refine (allIn_any _ x _ _ _ (hS0.out.ext HX0.out)).mono ?_
    rintro e w1 ⟨rfl, hx1⟩
    have k0 := (hx1.cells _ _ ks).trans k0
    have ks := Nat.lt_of_lt_of_le ks hx1.size
    have HX1 := hide (HX0.out.trans hx1)
    clear hx1
    cases h2 : allR x 0 5 with
    | false =>
      have HV := hide (show chV ls x = false by rw [chV, h2, Bool.false_and, Bool.and_false]; rfl)
      clear h2
      go_wp2
      go_ret
      exact Ret.mk (ret_b HV.out.symm) HX1.out
    | true =>
      have H2 := hide h2
      clear h2
      go_wp2_with fail
      refine (ValidClauseI_any _ ls x.length _ (hL0.out.ext HX1.out) (by omega) (by omega)).mono ?_
      rintro e w2 ⟨rfl, hx2⟩
      rw [H1.out, Bool.true_and]
      have k0 := (hx2.cells _ _ ks).trans k0
      have ks := Nat.lt_of_lt_of_le ks hx2.size
      have HX2 := hide (HX1.out.trans hx2)
      clear hx2
      cases h3 : okCl ls x.length with
      | false =>
        have HV := hide (show chV ls x = false by rw [chV, h3, Bool.and_false, Bool.and_false]; rfl)
        clear h3
        go_wp2
        go_ret
        exact Ret.mk (ret_b HV.out.symm) HX2.out
      | true =>
        have HV := hide (show chV ls x = anyT x ls by rw [chV, h3, H2.out, H1.out]; rfl)
        have HOK := hide h3
        have HVX := hide (fun j (hj : j < x.length) => allR_at H2.out hj)
        have K0 := hide k0
        clear h3
        go_wp2_with fail
        refine (ContainsFuncT_any _ ls 29 #[.pointer (some ⟨w.heap.size, 0, none⟩)] (fun i => ltT x ls i) _ (hL0.out.ext HX2.out) (callFunc_body Tryz.func29 (by decide) rfl)
          (hide fun i hi W hW => ClHolds1_any _ x ls i w.heap.size W hi ((hW.cells _ _ ks).trans K0.out) (Nat.lt_of_lt_of_le ks hW.size) (hS0.out.ext (HX2.out.trans hW)) HOK.out HVX.out)).mono ?_
        rintro e w3 ⟨rfl, hx3⟩
        have HX3 := hide (HX2.out.trans hx3)
        clear hx3
        go_wp2
        go_ret
        exact Ret.mk (ret_b HV.out.symm) HX3.out
end Go.Proofs.YtgpbmggfpbebmaaGreat
