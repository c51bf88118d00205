/- Removals: slices.Clone, Grow, Concat and Clip, and shrunk of the program. -/
import Derived.Test.YtmfbdaocnijnpaaGenS
import Derived.Test.YtmfbdaocnijnpaaExpl
import Derived.Test.YtmfbdaocnijnpaaFltZ
import Derived.Lib.AppendZerosOnto
import Derived.Lib.Walk
import Derived.Lib.SliceRun
namespace Go.Proofs.Ytmfbdaocnijnpaa
open Go.RowKit
attribute [local go_sem] evalOf

def layRm : Lay Rm := ⟨29, 27, 2, 16, .agg #[.int .i64 0, .int .i64 0], fun r => [.int .i64 r.x, .int .i64 r.v]⟩
theorem layRmOk : LayOk layRm Try.prog := by
  refine ⟨by show 0 < 2; omega, fun x => rfl, fun x u hu => ?_, Try.underlying27, ?_, rfl⟩
  · simp [layRm] at hu
    rcases hu with rfl | rfl <;> rfl
  · have h : (Try.prog.info? 29).map (fun i => (i.zero, i.size, i.bytes)) = some (some (.agg #[.int .i64 0, .int .i64 0]), 2, 16) := by kernel_rfl
    obtain ⟨i, h1, h2⟩ := Option.map_eq_some_iff.1 h
    simp only [Prod.mk.injEq] at h2
    exact ⟨i, h1, h2.1, h2.2.1, h2.2.2⟩
set_option maxRecDepth 100000 in
theorem CloneR_any (v : Value) (xs : List Rm) (w : World) (hS : layRm.S w v xs) (hl : xs.length ≤ 1000000000) :
    Calls Try.prog 63 #[v] w (layRm.Res xs w) := by
  have hS0 := hide hS
  obtain ⟨A, cp, rfl, hlc⟩ := LayS.form hS
  cases A with
  | none =>
    have h0 : xs.length = 0 := by
      rcases Nat.eq_zero_or_pos xs.length with h | h
      · exact h
      · obtain ⟨b, off, e, -, -⟩ := LayS.at_ hS h
        cases e
    obtain rfl := List.length_eq_zero_iff.1 h0
    clear hS
    have hnil := fun (W : World) => Lib.run_eql_slice_nil (P := Try.prog) W 27 29 none 0 cp 0 0 Try.underlying27
    go_enter Try.func63, Try.ntmps63
    go_wp2
    go_ret
    exact ⟨_, rfl, LayApp.nil_ _ _, Ext.refl _⟩
  | some ad =>
    clear hS
    have hnil := fun (W : World) => Lib.run_eql_slice_nil (P := Try.prog) W 27 29 (some ad) xs.length cp 0 0 Try.underlying27
    go_enter Try.func63, Try.ntmps63
    go_wp2_with (at_builtin; go_must (refine wpList_appG (L := layRm) layRmOk _ rfl _ _ rfl w.heap.size _ _ [] xs rfl rfl (LayApp.empty w rfl) (LayS.ext hS0.out ((Ext.refl _).alloc _)) (by intro n c h; cases h) (by simp; omega) (by rw [List.length_nil, Nat.zero_add]; exact LayS.bytes hS0.out) (by simp) ?_); intro v' w2 hA2 hb2)
    go_ret
    exact ⟨_, rfl, hA2, ((Ext.refl _).alloc _).below hb2⟩
set_option maxRecDepth 100000 in
set_option maxHeartbeats 1000000 in
theorem GrowR_any (n : Nat) (w : World) (hn : n ≤ 1000000) :
    Calls Try.prog 88 #[.slice none 0 0, .int .i64 n] w (layRm.Res [] w) := by
  have h1 : ¬ ((n : Int) < 0) := by omega
  by_cases h0 : n = 0
  · subst h0
    go_enter Try.func88, Try.ntmps88
    go_wp2
    go_ret
    exact ⟨_, rfl, LayApp.nil_ _ _, Ext.refl _⟩
  · have h2 : (n : Int) > 0 := by omega
    have h3 : (0 : Int) < n := by omega
    obtain ⟨i, hi, hz, hsz, hby⟩ := layRmOk.info
    have hsz' : i.size = 2 := hsz
    have hby' : i.bytes = 16 := hby
    obtain ⟨G, hG⟩ : ∃ G, G = grownCap w n 0 29 := ⟨_, rfl⟩
    have hG1 : n ≤ G := by rw [hG]; exact grownCap_ge w n 0 _
    have hG2 : G ≤ maxLen := by rw [hG]; exact grownCap_le_maxLen w n 0 _ (by unfold maxLen; omega)
    have hG3 : G ≤ 9223372036854775807 := by unfold maxLen at hG2; omega
    have hrz : ∀ ty, (Builtin.append_ #[27, 3] ty #[.slice none 0 0, .int .i64 n]).run Try.prog w = .ok (.slice (some ⟨w.heap.size, 0, none⟩) n G) (w.drew.alloc (.cells (#[] ++ Builtin.zeroCells (.agg #[.int .i64 0, .int .i64 0] : Value).cells n ++ Builtin.zeroCells (.agg #[.int .i64 0, .int .i64 0] : Value).cells (G - n)) 29)) := fun ty => by
      have h := Lib.run_append_grow_zeros (P := Try.prog) w 27 3 ty 29 i (.agg #[.int .i64 0, .int .i64 0]) .i64 .i64 Try.underlying27 Try.underlying3 hi hz none 0 0 [] (run_firstCells_none w.drew i.size 0 0 0) n (by omega) (by omega) (by omega) (by omega) (by rw [hby']; omega) (by rw [hby']; simp [Builtin.nextslicecap]; split <;> omega)
      rw [Nat.zero_add, ← hG] at h
      exact h
    clear hi hz hsz hby hsz' hby' hG
    have HG2 := hide hG2
    clear hG2
    go_enter Try.func88, Try.ntmps88
    go_wp2_with (at_builtin; refine Lib.wpList_append_run _ rfl _ _ _ _ rfl _ _ rfl rfl _ _ (hrz _) ?_)
    go_ret
    refine ⟨_, rfl, ?_, ((Ext.refl _).drew).alloc _⟩
    refine World.ownsRow_made (size := 2) (e := 29) w.drew _ G (Nat.le_refl _) HG2.out ?_
    simp [Builtin.zeroCells]
    omega
theorem ClipR_any (A : Option Addr) (m c : Nat) (w : World) (hle : m ≤ c) (_hc : c ≤ 9223372036854775807) : Calls Try.prog 65 #[.slice A m c] w fun e w' => e = .returned (.slice A m m) ∧ w = w' := by
  go_enter Try.func65, Try.ntmps65
  go_wp2
  go_ret
  exact ⟨rfl, rfl⟩
set_option maxRecDepth 100000 in
set_option maxHeartbeats 4000000 in
theorem ConcatR_any (b c : Nat) (va vb : Value) (xs ys : List Rm) (w : World) (hb : b < w.heap.size) (h0 : w.cell? ⟨b, 0, none⟩ = some va) (h1 : w.cell? ⟨b, 1, none⟩ = some vb)
    (hX : layRm.S w va xs) (hY : layRm.S w vb ys) (hnx : ∀ n c, va = .slice none n c → c = 0) (hny : ∀ n c, vb = .slice none n c → c = 0) (hl : xs.length + ys.length ≤ 1000) (_hc : 2 ≤ c) :
    Calls Try.prog 64 #[.slice (some ⟨b, 0, none⟩) 2 c] w (layRm.Res (xs ++ ys) w) := by
  have hX0 := hide hX
  have hY0 := hide hY
  have HNX := hide hnx
  have HNY := hide hny
  have hby : layRm.bytes = 16 := rfl
  obtain ⟨A, cp, rfl, hxc⟩ := LayS.form hX
  obtain ⟨B, cq, rfl, hyc⟩ := LayS.form hY
  clear hX hY hnx hny
  have HBY := hide hby
  clear hby
  go_enter Try.func64, Try.ntmps64
  go_wp2
  go_loop [3, 11] (fun s i => (i = .int .i64 0 ∧ s = .int .i64 0) ∨ (i = .int .i64 1 ∧ s = .int .i64 xs.length) ∨ (i = .int .i64 2 ∧ s = .int .i64 (xs.length + ys.length))) (fun _ i => 2 - (intOf i).toNat)
  case atStart => exact .inl ⟨rfl, rfl⟩
  case round =>
    rcases hrel with ⟨rfl, rfl⟩ | ⟨rfl, rfl⟩ | ⟨rfl, rfl⟩
    · have hn0 : ¬ ((xs.length : Int) < 0) := by omega
      go_wp2
      go_round
      case rel => exact .inr (.inl ⟨by go_num, by go_num⟩)
      case measure => simp [intOf]
    · have hn0 : ¬ ((xs.length : Int) + ys.length < 0) := by omega
      go_wp2
      go_round
      case rel => exact .inr (.inr ⟨by go_num, by go_num⟩)
      case measure => simp [intOf]
    · obtain ⟨t, ht⟩ : ∃ t : Nat, t = xs.length + ys.length := ⟨_, rfl⟩
      have ht2 : t ≤ 1000000 := by omega
      rw [show ((xs.length : Int) + ys.length) = (t : Int) by omega]
      clear ht
      go_wp2_with fail
      refine (GrowR_any t _ ht2).mono ?_
      rintro e w1 ⟨v1, rfl, hA1, hx1⟩
      have HA1 := hide hA1
      have HX1 := hide hx1
      obtain ⟨A1, c1, hv1, -, -⟩ := LayApp.form hA1
      rw [List.length_nil] at hv1
      subst hv1
      have HC0 := hide h0
      have HC1 := hide h1
      clear hA1 hx1 h0 h1
      go_wp2
      go_loopw [6, 27] (fun v i wr => Ext w wr ∧ ((i = .int .i64 0 ∧ layRm.App w.heap.size wr v []) ∨ (i = .int .i64 1 ∧ layRm.App w.heap.size wr v xs) ∨ (i = .int .i64 2 ∧ layRm.App w.heap.size wr v (xs ++ ys)))) (fun _ i _ => 2 - (intOf i).toNat)
      case atStart => exact ⟨HX1.out, .inl ⟨rfl, HA1.out⟩⟩
      case round =>
        obtain ⟨hx, hr⟩ := hrel
        have HX := hide hx
        have h0 := (hx.cells _ _ hb).trans HC0.out
        have h1 := (hx.cells _ _ hb).trans HC1.out
        have hs := hx.size
        clear hx
        rcases hr with ⟨rfl, hA⟩ | ⟨rfl, hA⟩ | ⟨rfl, hA⟩
        · have HA := hide hA
          obtain ⟨A2, c2, hv2, -, -⟩ := LayApp.form hA
          rw [List.length_nil] at hv2
          subst hv2
          clear hA
          go_wp2_with (at_builtin; go_must (refine wpList_appG (L := layRm) layRmOk _ rfl _ _ rfl w.heap.size _ _ [] xs rfl rfl HA.out (LayS.ext hX0.out HX.out) HNX.out (by simp; omega) (by rw [HBY.out]; simp; omega) hs ?_); intro v' w2 hA2 hb2)
          go_roundw
          case rel => exact ⟨HX.out.below hb2, .inr (.inl ⟨by go_num, hA2⟩)⟩
          case measure => simp [intOf]
        · have HA := hide hA
          obtain ⟨A2, c2, hv2, -, -⟩ := LayApp.form hA
          subst hv2
          clear hA
          go_wp2_with (at_builtin; go_must (refine wpList_appG (L := layRm) layRmOk _ rfl _ _ rfl w.heap.size _ _ xs ys rfl rfl HA.out (LayS.ext hY0.out HX.out) HNY.out (by omega) (by rw [HBY.out]; omega) hs ?_); intro v' w2 hA2 hb2)
          go_roundw
          case rel => exact ⟨HX.out.below hb2, .inr (.inr ⟨by go_num, hA2⟩)⟩
          case measure => simp [intOf]
        · have HA := hide hA
          obtain ⟨A2, c2, hv2, -, -⟩ := LayApp.form hA
          obtain ⟨N, hN⟩ : ∃ N, N = (xs ++ ys).length := ⟨_, rfl⟩
          rw [← hN] at hv2
          subst hv2
          have HR := hide (show layRm.Res (xs ++ ys) w (.returned (.slice A2 N c2)) wr from ⟨_, rfl, HA.out, HX.out⟩)
          clear hA hN
          go_wp2
          go_ret
          exact HR.out
/-- A new slice of two things. -/
def RS.twoR (D : List Nat) (va vb : Value) : RS := ⟨D, fun _ v W => ∃ b, v = .slice (some ⟨b, 0, none⟩) 2 2 ∧ b < W.heap.size ∧ W.cell? ⟨b, 0, none⟩ = some va ∧ W.cell? ⟨b, 1, none⟩ = some vb,
  fun _ _ _ _ ⟨b, h1, h2, h3, h4⟩ hx => ⟨b, h1, Nat.lt_of_lt_of_le h2 hx.size, (hx.cells _ _ h2).trans h3, (hx.cells _ _ h2).trans h4⟩⟩
/-- A slice of the call's own. -/
def RS.appR (D : List Nat) (base : Nat) (xs : List Rm) : RS := ⟨D, fun _ v W => layRm.App base W v xs, fun _ _ _ _ h hx => LayApp.ext h hx⟩
set_option maxRecDepth 100000 in
set_option maxHeartbeats 8000000 in
theorem shrunkR_any (v : Value) (xs : List Rm) (g : Nat) (caps : Array Value) (p : List Rm → Bool) (G : List Rm → Prop) (w : World) (hS : layRm.S w v xs) (hl : xs.length ≤ 24)
    (hg : ∀ args W, (callFunc g args).run Try.prog W = .ok (.enter g args) W) (hG : Hid (∀ l i, G l → G (l.eraseIdx i))) (hx0 : Hid (G xs))
    (hp : Hid (∀ l v W, G l → l.length ≤ 24 → Ext w W → layRm.S W v l → Calls Try.prog g (#[v] ++ caps) W (Ret (.bool (p l)) W))) :
    Calls Try.prog 38 #[v, .func (.func g) #[] caps] w (layRm.Clip (shr p xs.length 0 xs) w) := by
  have hby : layRm.bytes = 16 := rfl
  have HBY := hide hby
  clear hby
  go_enter Try.func38, Try.ntmps38
  obtain ⟨A0, c0, rfl, hc0⟩ := LayS.form hS
  go_wp2_with fail
  refine (CloneR_any _ xs _ hS (by omega)).mono ?_
  rintro e w1 ⟨v1, rfl, hA1, hx1⟩
  have HA1 := hide hA1
  have HX1 := hide hx1
  obtain ⟨A1, c1, rfl, -, -⟩ := LayApp.form hA1
  clear hA1 hx1 hS
  go_wp2
  go_loopw [5, 6] (fun o i wr => ∃ (k : Nat) (l : List Rm), i = .int .i64 k ∧ k ≤ l.length ∧ l.length ≤ 24 ∧ Ext w wr ∧ layRm.App w.heap.size wr o l ∧ Hid (G l) ∧ Hid (shr p (l.length - k) k l = shr p xs.length 0 xs)) (fun o i _ => 2 * lenOf o - (intOf i).toNat)
  case atStart => exact ⟨0, xs, rfl, Nat.zero_le _, hl, HX1.out, HA1.out, hx0, hide rfl⟩
  case round =>
    obtain ⟨k, l, rfl, hk, hl24, hx, hA, HG0, HSH⟩ := hrel
    have HX := hide hx
    have HA := hide hA
    have hsz := hx.size
    obtain ⟨A, c, rfl, hlc, hc63⟩ := LayApp.form hA
    by_cases hlt : k < l.length
    · have hkI : (k : Int) < l.length := by omega
      have hne : l.length ≠ 0 := by omega
      rcases hA.2 with ⟨-, h2⟩ | ⟨g0, cap, cur, h1, hg0, hh, -⟩
      · exact absurd h2 hne
      injection h1 with e1 e2 e3
      subst e1
      have hgl : g0 < wr.heap.size := (Array.getElem?_eq_some_iff.1 hh).1
      have HS := hide (LayApp.S hA (by rw [HBY.out]; omega))
      have HLE := hide (show (l.eraseIdx k).length + 1 = l.length by rw [List.length_eraseIdx, if_pos hlt]; omega)
      have HER := hide (show l.take k ++ l.drop (k + 1) = l.eraseIdx k by rw [List.eraseIdx_eq_take_drop_succ])
      have hSt := hide (LayS.take HS.out (i := k) (c' := c) (by omega) (by omega))
      obtain ⟨D, hD⟩ : ∃ D : Option Addr, D = (if c = k + 1 then some ⟨g0, 0, none⟩ else some ⟨g0, (k + 1) * 2, none⟩) := ⟨_, rfl⟩
      have HD := hide hD
      have hSd := hide (LayS.drop layRmOk HS.out (A2 := D) (n2 := l.length - (k + 1)) (c2 := c - (k + 1)) (i := k + 1) (by omega) rfl (by omega) (by intro hkl b off e; injection e with e; injection e with e1 e2; subst e1; subst e2; rw [hD, if_neg (by omega)]; simp; rfl))
      have hkc : k ≤ c := by omega
      have hck : ¬ (c < k) := by omega
      have hkw : IntKind.i64.wrap ((k : Int) + 1) = k + 1 := IntWalk.i64_in _ (by omega)
      have hk01 : (0 : Int) ≤ k + 1 := by omega
      have hk02 : (k : Int) + 1 ≤ l.length := by omega
      clear hA hx e2 e3 hh hD
      go_wp2_with fail
      refine wp_region_relT (n := 10) (ts := []) (sp := [RS.q [] (fun _ => .slice (some ⟨g0, 0, none⟩) l.length c), RS.q [] (fun _ => .int .i64 k), RS.q [0, 1] (fun _ => .slice (some ⟨g0, 0, none⟩) k c), RS.q [] (fun _ => .slice (some ⟨g0, 0, none⟩) l.length c), RS.q [] (fun _ => .int .i64 k), RS.q [4] (fun _ => .int .i64 (k + 1)), RS.q [3, 5] (fun _ => .slice D (l.length - (k + 1)) (c - (k + 1))), RS.twoR [2, 6] (.slice (some ⟨g0, 0, none⟩) k c) (.slice D (l.length - (k + 1)) (c - (k + 1))), RS.appR [7] w.heap.size (l.eraseIdx k), RS.q [8] (fun vs => vs.getD 0 undef)])
        (fun W => Ext wr W) (by kernel_rfl) (relOK (D := [[], [], [0, 1], [], [], [4], [3, 5], [2, 6], [7], [8]]) rfl (by kernel_rfl) rfl) (by kernel_rfl) (fun W W' h hx => h.trans hx) (Ext.refl wr).drew ?steps ?ends
      case steps =>
        refine ⟨?_, ?_, ?_, ?_, ?_, ?_, ?_, ?_, ?_, ?_, trivial⟩
        · intro V τ W hC hf ht h0
          have s : τ 5 = .slice (some ⟨g0, 0, none⟩) l.length c := h0 5 (by kernel_rfl)
          refine Does.val (w' := W) (v := .slice (some ⟨g0, 0, none⟩) l.length c) ?_ ⟨Ext.refl W, rfl⟩
          go_simp
        · intro V τ W hC hf ht h0
          have s : τ 6 = .int .i64 k := h0 6 (by kernel_rfl)
          refine Does.val (w' := W) (v := .int .i64 k) ?_ ⟨Ext.refl W, rfl⟩
          go_simp
        · intro V τ W hC hf ht h0
          have f0 : V 0 = .slice (some ⟨g0, 0, none⟩) l.length c := hf 0 (show 0 ∈ [0, 1] by decide)
          have s14 := (ht 0 (show 0 ∈ [0, 1] by decide) 14 rfl).trans f0
          have f1 : V 1 = .int .i64 k := hf 1 (show 1 ∈ [0, 1] by decide)
          have s15 := (ht 1 (show 1 ∈ [0, 1] by decide) 15 rfl).trans f1
          refine Does.val (w' := W) (v := .slice (some ⟨g0, 0, none⟩) k c) ?_ ⟨Ext.refl W, rfl⟩
          go_simp
        · intro V τ W hC hf ht h0
          have s : τ 5 = .slice (some ⟨g0, 0, none⟩) l.length c := h0 5 (by kernel_rfl)
          refine Does.val (w' := W) (v := .slice (some ⟨g0, 0, none⟩) l.length c) ?_ ⟨Ext.refl W, rfl⟩
          go_simp
        · intro V τ W hC hf ht h0
          have s : τ 6 = .int .i64 k := h0 6 (by kernel_rfl)
          refine Does.val (w' := W) (v := .int .i64 k) ?_ ⟨Ext.refl W, rfl⟩
          go_simp
        · intro V τ W hC hf ht h0
          have f4 : V 4 = .int .i64 k := hf 4 (show 4 ∈ [4] by decide)
          have s18 := (ht 4 (show 4 ∈ [4] by decide) 18 rfl).trans f4
          refine Does.val (w' := W) (v := .int .i64 (k + 1)) ?_ ⟨Ext.refl W, rfl⟩
          go_simp
        · intro V τ W hC hf ht h0
          have f3 : V 3 = .slice (some ⟨g0, 0, none⟩) l.length c := hf 3 (show 3 ∈ [3, 5] by decide)
          have s17 := (ht 3 (show 3 ∈ [3, 5] by decide) 17 rfl).trans f3
          have f5 : V 5 = .int .i64 (k + 1) := hf 5 (show 5 ∈ [3, 5] by decide)
          have s19 := (ht 5 (show 5 ∈ [3, 5] by decide) 19 rfl).trans f5
          refine Does.val (w' := W) (v := .slice D (l.length - (k + 1)) (c - (k + 1))) ?_ ⟨Ext.refl W, rfl⟩
          rw [HD.out]
          go_simp
        · intro V τ W hC hf ht h0
          have f2 : V 2 = .slice (some ⟨g0, 0, none⟩) k c := hf 2 (show 2 ∈ [2, 6] by decide)
          have s16 := (ht 2 (show 2 ∈ [2, 6] by decide) 16 rfl).trans f2
          have f6 : V 6 = .slice D (l.length - (k + 1)) (c - (k + 1)) := hf 6 (show 6 ∈ [2, 6] by decide)
          have s20 := (ht 6 (show 6 ∈ [2, 6] by decide) 20 rfl).trans f6
          refine Does.val (w' := W.alloc (.cells #[.slice (some ⟨g0, 0, none⟩) k c, .slice D (l.length - (k + 1)) (c - (k + 1))] 27)) (v := .slice (some ⟨W.heap.size, 0, none⟩) 2 2) (by go_simp) ⟨(Ext.refl W).alloc _, W.heap.size, rfl, by simp, by go_simp, by go_simp⟩
        · intro V τ W hC hf ht h0
          obtain ⟨b, f7, hb, e0, e1⟩ := (show ∃ b, V 7 = _ ∧ _ ∧ _ ∧ _ from hf 7 (show 7 ∈ [7] by decide))
          have s21 := (ht 7 (show 7 ∈ [7] by decide) 21 rfl).trans f7
          refine Does.call (w' := W) (f := 64) (args := #[.slice (some ⟨b, 0, none⟩) 2 2]) (by go_simp; all_goals (first | exact rfl | (apply And.intro <;> exact rfl))) ?_
          refine (ConcatR_any b 2 _ _ (l.take k) (l.drop (k + 1)) _ hb e0 e1 (LayS.ext hSt.out hC) (LayS.ext hSd.out hC) (by intro n c h; cases h) (by intro n c' h; injection h with h; rw [HD.out] at h; split at h <;> cases h) (by simp; omega) (by omega)).mono ?_
          rintro e wa ⟨va, rfl, hAa, hxa⟩
          exact ⟨_, rfl, hxa, LayApp.mono (by rw [← HER.out]; exact hAa) (Nat.le_trans HX.out.size hC.size)⟩
        · intro V τ W hC hf ht h0
          have f8 : layRm.App _ W (V 8) (l.eraseIdx k) := hf 8 (show 8 ∈ [8] by decide)
          obtain ⟨A2, c2, f8, -, -⟩ := LayApp.form f8
          have s22 := ht 8 (show 8 ∈ [8] by decide) 22 rfl
          refine Does.val (w' := W) (v := V 8) ?_ ⟨Ext.refl W, rfl⟩
          go_simp
      intro V w2 hC hf
      have f0 : V 0 = .slice (some ⟨g0, 0, none⟩) l.length c := hf 0 (by omega)
      have f1 : V 1 = .int .i64 k := hf 1 (by omega)
      have f2 : V 2 = .slice (some ⟨g0, 0, none⟩) k c := hf 2 (by omega)
      have f3 : V 3 = .slice (some ⟨g0, 0, none⟩) l.length c := hf 3 (by omega)
      have f4 : V 4 = .int .i64 k := hf 4 (by omega)
      have f5 : V 5 = .int .i64 (k + 1) := hf 5 (by omega)
      have f6 : V 6 = .slice D (l.length - (k + 1)) (c - (k + 1)) := hf 6 (by omega)
      obtain ⟨b, f7, -⟩ := (show ∃ b, V 7 = _ ∧ _ from hf 7 (by omega))
      have h8 : layRm.App w.heap.size w2 (V 8) (l.eraseIdx k) := hf 8 (by omega)
      have f9 : V 9 = V 8 := hf 9 (by omega)
      clear hf
      obtain ⟨N, hN⟩ : ∃ N, N = (l.eraseIdx k).length := ⟨_, rfl⟩
      obtain ⟨A2, c2, f8, -, hc2⟩ := LayApp.form h8
      rw [← hN] at f8
      rw [f8] at h8 f9
      simp only [List.take_succ_cons, List.take_zero, putAll, Act.put, List.setIfInBounds_toArray, List.set_cons_succ, List.set_cons_zero, Nat.reduceAdd, f0, f1, f2, f3, f4, f5, f6, f7, f8, f9]
      simp only [nths]
      clear f0 f1 f2 f3 f4 f5 f6 f7 f8 f9
      have H8 := hide h8
      have HX2 := hide (HX.out.trans hC)
      have HC := hide hC
      have HN := hide hN
      have hNl : N + 1 = l.length := by have := HLE.out; omega
      have HGE := hide (hG.out l k HG0.out)
      have HS2 := hide (LayApp.S h8 (by rw [HBY.out]; omega))
      clear h8 hC hN
      cases hpe : p (l.eraseIdx k) with
      | true =>
        have HPE := hide hpe
        clear hpe
        go_wp2_with fail
        refine (hp.out _ _ _ HGE.out (by have := HN.out; omega) HX2.out HS2.out).mono ?_
        rintro e w3 ⟨rfl, hx3⟩
        have HX3 := hide (HX2.out.trans hx3)
        have H83 := hide (LayApp.ext H8.out hx3)
        rw [HPE.out]
        clear hx3
        go_wp2
        go_roundw
        case rel =>
          refine ⟨k, l.eraseIdx k, rfl, by have := HN.out; omega, by have := HN.out; omega, HX3.out, H83.out, HGE, hide ?_⟩
          rw [← HSH.out, show l.length - k = ((l.eraseIdx k).length - k) + 1 by have := HN.out; omega, shr, if_pos HPE.out]
        case measure => simp [intOf, lenOf]; omega
      | false =>
        have HPE := hide hpe
        clear hpe
        go_wp2_with fail
        refine (hp.out _ _ _ HGE.out (by have := HN.out; omega) HX2.out HS2.out).mono ?_
        rintro e w3 ⟨rfl, hx3⟩
        have HX3 := hide (HX2.out.trans hx3)
        have HA3 := hide (LayApp.ext HA.out (HC.out.trans hx3))
        rw [HPE.out]
        clear hx3
        go_wp2
        go_roundw
        case rel =>
          refine ⟨k + 1, l, by go_num, by omega, hl24, HX3.out, HA3.out, HG0, hide ?_⟩
          rw [← HSH.out, show l.length - k = (l.length - (k + 1)) + 1 by omega, shr, HPE.out, if_neg (by simp)]
        case measure => simp [intOf, lenOf]; omega
    · obtain rfl : k = l.length := by omega
      have hkI : ¬ ((l.length : Int) < l.length) := by omega
      have HE := hide (show shr p xs.length 0 xs = l by rw [← HSH.out, Nat.sub_self, shr])
      clear hA hx
      go_wp2_with fail
      refine (ClipR_any A l.length c _ hlc hc63).mono ?_
      rintro e w3 ⟨rfl, rfl⟩
      go_wp2
      go_ret
      rw [HE.out]
      exact LayApp.clip HA.out HX.out
end Go.Proofs.Ytmfbdaocnijnpaa
