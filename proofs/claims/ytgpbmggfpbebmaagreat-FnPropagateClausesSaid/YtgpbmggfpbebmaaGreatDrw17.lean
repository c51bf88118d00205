/- Draws of the generator: literals; the reference's union of clauses. -/
import Derived.Test.YtgpbmggfpbebmaaGreatDrwE
import Derived.Test.YtgpbmggfpbebmaaGreatFltZ
import Derived.Test.YtgpbmggfpbebmaaGreatShrL
import Derived.Test.YtgpbmggfpbebmaaGreatClsV
import Derived.Deep.CutBlock
import Derived.Deep.DeepCutAuto
namespace Go.Proofs.YtgpbmggfpbebmaaGreat
open Go.RowKit

/-- A literal of small numbers. -/
def smLt (l : Lt) : Prop := -10 ≤ l.x ∧ l.x ≤ 10 ∧ -10 ≤ l.v ∧ l.v ≤ 10
/-- Literals came. -/
def LGot (w0 : World) (br N K : Nat) (W : World) (e : Ending) (W' : World) : Prop :=
  ∃ v xs, e = .returned v ∧ layLt.App W.heap.size W' v xs ∧ xs.length ≤ K ∧ (∀ l ∈ xs, smLt l) ∧ RdSt w0 br N W' ∧ Keep (fun k => k ≠ br) W W'
theorem LayApp.keepT {α : Type} {L : Lay α} {base : Nat} {T : Nat → Prop} {w w' : World} {v : Value} {xs : List α} (h : L.App base w v xs) (hk : Keep T w w') (hT : ∀ k, base ≤ k → T k) : L.App base w' v xs := by
  refine ⟨h.1, ?_⟩
  rcases h.2 with hn | ⟨g, cap, cur, e, hg, hh, rest⟩
  · exact .inl hn
  · exact .inr ⟨g, cap, cur, e, hg, (hk.block g (Array.getElem?_eq_some_iff.1 hh).1 (hT g hg)).trans hh, rest⟩
/-- One literal in a new block. -/
theorem lt_one (w : World) (l : Lt) : layLt.S (w.alloc (.cells #[.int .i64 l.x, .int .i64 l.v, .bool l.n] 56)) (.slice (some ⟨w.heap.size, 0, none⟩) 1 1) [l] := by
  refine ⟨_, 1, rfl, Nat.le_refl _, by show 1 * 24 ≤ _; omega, fun _ => ⟨w.heap.size, 0, rfl, by simp, fun j u hj => ?_⟩⟩
  rw [Nat.zero_add]
  match j with
  | 0 => injection hj with hj; subst hj; exact World.cell?_alloc_at _ _ _ _ rfl
  | 1 => injection hj with hj; subst hj; exact World.cell?_alloc_at _ _ _ _ rfl
  | 2 => injection hj with hj; subst hj; exact World.cell?_alloc_at _ _ _ _ rfl
  | j + 3 => exact absurd hj (by simp [layLt, Lay.flat])
theorem ltS_at {w : World} {A : Option Addr} {n c : Nat} {ys : List Lt} (h : layLt.S w (.slice A n c) ys) {j : Nat} (hj : j < ys.length) :
    ∃ b off, A = some ⟨b, off, none⟩ ∧ b < w.heap.size ∧ w.cell? ⟨b, off + j * 3, none⟩ = some (.int .i64 (ltX ys j)) ∧ w.cell? ⟨b, off + j * 3 + 1, none⟩ = some (.int .i64 (ltV ys j)) ∧ w.cell? ⟨b, off + j * 3 + 2, none⟩ = some (.bool (ltN ys j)) := by
  obtain ⟨A', c', h1, -, -, h5⟩ := h
  injection h1 with e1 e2 e3
  subst e1
  obtain ⟨b, off, e, hb, hc⟩ := h5 (by omega)
  have hl : lt0 ys j = ys[j] := by simp [lt0, hj]
  have hf : ∀ t, t < 3 → (layLt.flat ys)[j * 3 + t]? = (layLt.enc ys[j])[t]? := fun t ht => LayOk.flat_at layLtOk ys j t hj ht
  refine ⟨b, off, e, hb, ?_, ?_, ?_⟩
  · exact hc (j * 3 + 0) _ ((hf 0 (by omega)).trans (by rw [← hl]; rfl))
  · have := hc (j * 3 + 1) _ ((hf 1 (by omega)).trans (by rw [← hl]; rfl)); rw [← Nat.add_assoc] at this; exact this
  · have := hc (j * 3 + 2) _ ((hf 2 (by omega)).trans (by rw [← hl]; rfl)); rw [← Nat.add_assoc] at this; exact this
theorem lt_app1 (w : World) (l : Lt) : layLt.App w.heap.size (w.alloc (.cells #[.int .i64 l.x, .int .i64 l.v, .bool l.n] 56)) (.slice (some ⟨w.heap.size, 0, none⟩) 1 1) [l] :=
  ⟨rfl, .inr ⟨w.heap.size, 1, #[.int .i64 l.x, .int .i64 l.v, .bool l.n], rfl, Nat.le_refl _, World.alloc_heap_new w _, Nat.le_refl _, by unfold maxLen; omega, rfl, rfl⟩⟩
theorem lt0_mem {ys : List Lt} {j : Nat} (hj : j < ys.length) : lt0 ys j ∈ ys := by
  rw [show lt0 ys j = ys[j] by simp [lt0, hj]]
  exact List.getElem_mem hj
theorem wpAny_sq17 {P : Program} {Q : Exit → Act → World → Prop} {a : Act} {w : World} {f : Nat} {l : List Oper} {S0 : Array Bool} (ts : List Nat)
    (hB : ((ts.all fun k => decide (k < l.length)) && seqIx .any l.toArray ts S0) = true) (hf : f = ts.length) (h : wpList P l.toArray Q (nths l ts) a w) : wpAny P .any l.toArray Q f S0 a w := by
  subst hf
  simp only [Bool.and_eq_true] at hB
  exact wpAny_of_seqIx ts (nths l ts) S0 a w (nths_eq l ts hB.1) hB.2 h
theorem lt_own {base : Nat} {w : World} {v : Value} {zs : List Lt} (h : layLt.App base w v zs) (hp : 0 < zs.length) : ∃ gz cz, v = .slice (some ⟨gz, 0, none⟩) zs.length cz := by
  rcases h.2 with ⟨-, e2⟩ | ⟨g0, cap, cur, e1, -⟩
  · omega
  · exact ⟨g0, cap, e1⟩
/-- append to a slice that is not nil. -/
theorem wpList_appG9 {α : Type} {L : Lay α} {P : Program} (hL : LayOk L P) (w : World) {ops : Array Oper} {rest : List Oper} {o : Oper} {a : Act} {Q : Exit → Act → World → Prop} (hgd : o.guard = none) (s x : Operand)
    (ho : o.op = .call { callee := .builtin .append, args := #[s, x], argTypes := #[L.st, L.st] })
    (base : Nat) (v va : Value) (xs ys : List α) (hs : a.eval s = v) (hx : a.eval x = va) (hown : L.App base w v xs) (hy : L.S w va ys) (hnil : ∀ n c, va = .slice none n c → c = 0)
    (hl : xs.length + ys.length ≤ 1000000000000) (hb : (xs.length + ys.length) * L.bytes ≤ 140737488355328) (hbase : base ≤ w.heap.size) (hv : v ≠ .slice none 0 0)
    (h : ∀ v' w', L.App base w' v' (xs ++ ys) → Below base w w' → (∃ gz cz, v' = .slice (some ⟨gz, 0, none⟩) (xs ++ ys).length cz) → wpList P ops Q rest (a.put o.dst v') w') : wpList P ops Q (o :: rest) a w := by
  obtain ⟨v', w', hrun, h1, h2⟩ := run_appG hL w o.type base v va xs ys hown hy hnil hl hb hbase
  have hne : v' ≠ .slice none 0 0 := by
    obtain ⟨i, hi, hz, hsz, hby⟩ := hL.info
    obtain ⟨A, c, rfl, hlc, -, hc⟩ := hy
    cases A with
    | none =>
      have h0 : ys.length = 0 := by
        rcases Nat.eq_zero_or_pos ys.length with h | h
        · exact h
        · obtain ⟨b, off, e, -⟩ := hc h
          cases e
      obtain rfl := List.length_eq_zero_iff.1 h0
      obtain rfl := hnil _ _ rfl
      have e1 := run_append_owned_none (P := P) w base L.st o.type L.e i L.size hL.und hi v xs.length (L.flat xs) hown
      have e3 := e1.symm.trans hrun
      injection e3 with e2 _
      rw [← e2]
      exact hv
    | some ad =>
      obtain ⟨v2, w2, e1, -, -, e4⟩ := run_append_own (P := P) w base L.st o.type L.e i L.z L.size L.bytes hL.und hi hz hsz hby hL.zs hL.pos v xs.length (L.flat xs) hown ad ys.length c (L.flat ys) (hL.flen ys) (by
        intro j u hj
        have hp : 0 < ys.length := by
          rcases Nat.eq_zero_or_pos ys.length with h | h
          · obtain rfl := List.length_eq_zero_iff.1 h
            simp [Lay.flat] at hj
          · exact h
        obtain ⟨b, off, e, hb', hcc⟩ := hc hp
        have e := Option.some.inj e
        subst e
        have hadd : (⟨b, off, none⟩ : Addr).add j = ⟨b, off + j, none⟩ := by unfold Addr.add; split <;> simp_all
        rw [hadd]
        exact hcc j u hj) (hL.flat_one ys) (by unfold maxLen; omega) hb hbase
      rw [e1] at hrun
      injection hrun with e2 _
      rw [← e2]
      exact fun e => hv (e4.1 e).1
  have hf : ∃ gz cz, v' = .slice (some ⟨gz, 0, none⟩) (xs ++ ys).length cz := by
    rcases h1.2 with ⟨e1, -⟩ | ⟨g0, cap, cur, e1, -⟩
    · exact absurd e1 hne
    · exact ⟨g0, cap, e1⟩
  refine wpList_plain hgd fun K hK => ?_
  unfold Oper.wp
  simp [execOp, ho, resolve, invoke, builtin, hs, hx, hrun, Result.andThen]
  exact hK _ _ (h v' w' h1 h2 hf)
/-- The union of two clauses: what is in it. -/
def MgGot (xs ys : List Lt) (W : World) (e : Ending) (W' : World) : Prop := ∃ v zs, e = .returned v ∧ layLt.App W.heap.size W' v zs ∧ zs.length ≤ xs.length + ys.length ∧ (∀ l ∈ zs, l ∈ xs ∨ l ∈ ys) ∧ Ext W W'
set_option maxRecDepth 100000 in
set_option maxHeartbeats 8000000 in
theorem mergeClauses_any (va vb : Value) (xs ys : List Lt) (W : World) (ha : layLt.S W va xs) (hna : ∀ n c, va = .slice none n c → c = 0) (hb : layLt.S W vb ys) (h1 : xs.length ≤ 100) (h2 : ys.length ≤ 100) :
    Calls Tryz.prog 72 #[va, vb] W (MgGot xs ys W) := by
  have HA := hide ha
  have HBy := hide hb
  obtain ⟨Aa, ca, rfl, hca⟩ := LayS.form ha
  obtain ⟨Ab, cb, rfl, hcb⟩ := LayS.form hb
  clear ha hb
  go_enter Tryz.func72, Tryz.ntmps72
  go_wp2_with (at_builtin; go_must (refine wpList_appG9 layLtOk _ rfl _ _ rfl W.heap.size (.slice (some ⟨W.heap.size, 0, none⟩) 0 0) (.slice Aa xs.length ca) [] xs rfl rfl (LayApp.empty W rfl) (LayS.ext HA.out ((Ext.refl W).alloc _)) hna (by simp; omega) (by show _ * 24 ≤ _; simp; omega) (by simp) (by simp) ?_); intro v1 W1 hA1 hb1 ho1; have HO1 := hide ho1; have HA1 := hide hA1; have HX1 := hide (((Ext.refl W).alloc _).below hb1); clear hA1 hb1)
  go_loopw [5, 6] (fun o i wr => ∃ (j : Nat) (zs : List Lt), i = .int .i64 j ∧ j ≤ ys.length ∧ layLt.App W.heap.size wr o zs ∧ (∃ gz cz, o = .slice (some ⟨gz, 0, none⟩) zs.length cz) ∧ zs.length ≤ xs.length + j ∧ (∀ l ∈ zs, l ∈ xs ∨ l ∈ ys) ∧ Ext W wr) (fun _ i _ => ys.length - (intOf i).toNat)
  case atStart => exact ⟨0, xs, rfl, Nat.zero_le _, HA1.out, HO1.out, Nat.le_refl _, (fun _ h => .inl h), HX1.out⟩
  case round =>
    obtain ⟨j, zs, rfl, hj, hA, ⟨gz, cz, rfl⟩, hzl, hmem, hx⟩ := hrel
    have HAz := hide hA
    have HM := hide hmem
    have HX := hide hx
    have HSz := hide (LayApp.S hA (by show _ * 24 ≤ _; omega))
    have hcz : zs.length ≤ cz := by
      obtain ⟨A', c', h1, h2, -⟩ := LayApp.form hA
      injection h1 with _ _ h3
      omega
    have HSb := hide (LayS.ext HBy.out hx)
    clear hA hmem hx
    by_cases hjn : j < ys.length
    · have hjI : (j : Int) < ys.length := by omega
      obtain ⟨bb, ob, rfl, hbb, b0, b1, b2⟩ := ltS_at HSb.out hjn
      obtain ⟨wo, hwo⟩ : ∃ wo, wo = wr := ⟨wr, rfl⟩
      subst hwo
      go_wp2_with fail
      go_loopw [7] (fun k wr2 => ∃ kk : Nat, k = .int .i64 kk ∧ kk ≤ zs.length ∧ Ext wo wr2) (fun k _ => zs.length - (intOf k).toNat)
      case atStart => exact ⟨0, rfl, Nat.zero_le _, Ext.refl _⟩
      case round =>
        obtain ⟨kk, rfl, hkk, hx2⟩ := hrel
        have HX2 := hide hx2
        have b0' := (hx2.cells _ _ hbb).trans b0
        have b1' := (hx2.cells _ _ hbb).trans b1
        have b2' := (hx2.cells _ _ hbb).trans b2
        go_upto_region 6 with fail
        go_cut [32] from 18 to 34 (fun s wx => ∃ q : Bool, s = .bool q ∧ (q = true → kk < zs.length) ∧ Ext wo wx)
        case first =>
          by_cases hkz : kk < zs.length
          · have hkI : (kk : Int) < zs.length := by omega
            obtain ⟨bz, oz, hz, hbz, z0, z1, z2⟩ := ltS_at (LayS.ext HSz.out hx2) hkz
            injection hz with hz
            injection hz with hz1 hz2 _
            subst hz1
            subst hz2
            simp only [Nat.zero_add] at z0 z1 z2
            have hbb2 := Nat.lt_of_lt_of_le hbb hx2.size
            clear hx2 b0 b1 b2
            refine wp_region_ext (by kernel_rfl) (by kernel_rfl) ?_
            iterate 5 (apply quiet_val; (focus rfl); (focus (intro w' hw'; have hk' := hw'.cells; go_simp; all_goals exact rfl)); simp only [Act.put, List.setIfInBounds_toArray, List.set_cons_succ, List.set_cons_zero])
            iterate 8 (go_big_quiet_want; apply quietK_val; (focus (intro w' hw'; have hk' := hw'.cells; go_simp; all_goals exact rfl)); simp only [Act.put, List.setIfInBounds_toArray, List.set_cons_succ, List.set_cons_zero]; go_big_quiet_on)
            go_big_quiet_want; apply quietK_call; (focus (intro w' hw'; go_simp; all_goals (first | exact rfl | (apply And.intro <;> exact rfl))))
            · exact fun w' hw' => Ret.quiet (literalLess_any (lt0 zs kk) (lt0 ys j) w') hw'
            (simp only [Act.put, List.setIfInBounds_toArray, List.set_cons_succ, List.set_cons_zero]; go_big_quiet_on)
            (apply quiet_val; (focus rfl); (focus (intro w' hw'; have hk' := hw'.cells; go_simp; all_goals exact rfl)); simp only [Act.put, List.setIfInBounds_toArray, List.set_cons_succ, List.set_cons_zero])
            refine wpQuiet_nil ?_
            intro w5 hx5
            go_wp2_with fail
            go_meet
            exact ⟨_, rfl, fun _ => hkz, HX2.out.trans hx5⟩
          · have hkI : ¬ ((kk : Int) < zs.length) := by omega
            refine wp_region_ext (by kernel_rfl) (by kernel_rfl) ?_
            iterate 5 (apply quiet_val; (focus rfl); (focus (intro w' hw'; have hk' := hw'.cells; go_simp; all_goals exact rfl)); simp only [Act.put, List.setIfInBounds_toArray, List.set_cons_succ, List.set_cons_zero])
            iterate 9 go_big_quiet_skip
            (apply quiet_val; (focus rfl); (focus (intro w' hw'; have hk' := hw'.cells; go_simp; all_goals exact rfl)); simp only [Act.put, List.setIfInBounds_toArray, List.set_cons_succ, List.set_cons_zero])
            refine wpQuiet_nil ?_
            intro w5 hx5
            go_wp2_with fail
            go_meet
            exact ⟨false, rfl, (fun h => by cases h), HX2.out.trans hx5⟩
        case rest =>
          obtain ⟨q, rfl, hq, hx5⟩ := hcut
          have HX5 := hide hx5
          clear hx2 hx5 b0' b1' b2'
          cases q with
          | true =>
            have hkz := hq rfl
            have hkw : IntKind.i64.wrap ((kk : Int) + 1) = (kk : Int) + 1 := IntWalk.i64_in _ (by omega)
            go_wp2_with fail
            go_roundw
            case rel => exact ⟨kk + 1, by go_num, by omega, HX5.out⟩
            case measure => simp [intOf]; omega
          | false =>
            go_upto_region 8 with fail
            go_cut [49] from 12 to 65 (fun s wx => (∃ q : Bool, s = .bool q) ∧ Ext wo wx)
            case first =>
              by_cases hkz : kk < zs.length
              · have hkI : (kk : Int) < zs.length := by omega
                obtain ⟨bz, oz, hz, hbz, z0, z1, z2⟩ := ltS_at (LayS.ext HSz.out HX5.out) hkz
                injection hz with hz
                injection hz with hz1 hz2 _
                subst hz1
                subst hz2
                simp only [Nat.zero_add] at z0 z1 z2
                have b0' := (HX5.out.cells _ _ hbb).trans b0
                have b1' := (HX5.out.cells _ _ hbb).trans b1
                have b2' := (HX5.out.cells _ _ hbb).trans b2
                have hbb2 := Nat.lt_of_lt_of_le hbb HX5.out.size
                clear b0 b1 b2
                have hcs : ltX zs kk ≠ ltX ys j ∨ (ltX zs kk = ltX ys j ∧ ltV zs kk ≠ ltV ys j) ∨ (ltX zs kk = ltX ys j ∧ ltV zs kk = ltV ys j ∧ ltN zs kk ≠ ltN ys j) ∨ (ltX zs kk = ltX ys j ∧ ltV zs kk = ltV ys j ∧ ltN zs kk = ltN ys j) := by
                  by_cases e1 : ltX zs kk = ltX ys j
                  · by_cases e2 : ltV zs kk = ltV ys j
                    · by_cases e3 : ltN zs kk = ltN ys j
                      · exact .inr (.inr (.inr ⟨e1, e2, e3⟩))
                      · exact .inr (.inr (.inl ⟨e1, e2, e3⟩))
                    · exact .inr (.inl ⟨e1, e2⟩)
                  · exact .inl e1
                rcases hcs with e1 | ⟨e1, e2⟩ | ⟨e1, e2, e3⟩ | ⟨e1, e2, e3⟩
                all_goals
                  refine wp_region_ext (by kernel_rfl) (by kernel_rfl) ?_
                  iterate 5 (apply quiet_val; (focus rfl); (focus (intro w' hw'; have hk' := hw'.cells; go_simp; all_goals exact rfl)); simp only [Act.put, List.setIfInBounds_toArray, List.set_cons_succ, List.set_cons_zero])
                  iterate 9 (go_big_quiet_want; apply quietK_val; (focus (intro w' hw'; have hk' := hw'.cells; go_simp; all_goals exact rfl)); simp only [Act.put, List.setIfInBounds_toArray, List.set_cons_succ, List.set_cons_zero]; go_big_quiet_on)
                  (apply quiet_val; (focus rfl); (focus (intro w' hw'; have hk' := hw'.cells; go_simp; all_goals exact rfl)); simp only [Act.put, List.setIfInBounds_toArray, List.set_cons_succ, List.set_cons_zero])
                  refine wpQuiet_nil ?_
                  intro w5 hx5
                  go_wp2_with fail
                  go_meet
                  exact ⟨⟨_, rfl⟩, HX5.out.trans hx5⟩
              · have hkI : ¬ ((kk : Int) < zs.length) := by omega
                refine wp_region_ext (by kernel_rfl) (by kernel_rfl) ?_
                iterate 5 (apply quiet_val; (focus rfl); (focus (intro w' hw'; have hk' := hw'.cells; go_simp; all_goals exact rfl)); simp only [Act.put, List.setIfInBounds_toArray, List.set_cons_succ, List.set_cons_zero])
                iterate 9 go_big_quiet_skip
                (apply quiet_val; (focus rfl); (focus (intro w' hw'; have hk' := hw'.cells; go_simp; all_goals exact rfl)); simp only [Act.put, List.setIfInBounds_toArray, List.set_cons_succ, List.set_cons_zero])
                refine wpQuiet_nil ?_
                intro w5 hx5
                go_wp2_with fail
                go_meet
                exact ⟨⟨false, rfl⟩, HX5.out.trans hx5⟩
            case rest =>
              obtain ⟨⟨q, rfl⟩, hx6⟩ := hcut
              have HX6 := hide hx6
              cases q with
              | true =>
                clear hx6
                go_wp2_with fail
                go_roundw
                case rel => exact ⟨j + 1, zs, by go_num, by omega, LayApp.ext HAz.out HX6.out, ⟨gz, cz, rfl⟩, by omega, HM.out, HX.out.trans HX6.out⟩
                case measure => simp [intOf]; omega
              | false =>
                have b0' := (hx6.cells _ _ hbb).trans b0
                have b1' := (hx6.cells _ _ hbb).trans b1
                have b2' := (hx6.cells _ _ hbb).trans b2
                have hkI : (kk : Int) ≤ zs.length := by omega
                have hk0 : (0 : Int) ≤ kk := by omega
                clear hx6 b0 b1 b2
                have hkc : kk ≤ cz := by omega
                have hck : ¬ (cz < kk) := by omega
                have HSz6 := hide (LayS.ext HSz.out HX6.out)
                obtain ⟨D, hD⟩ : ∃ D : Option Addr, D = (if cz = kk then some ⟨gz, 0, none⟩ else some ⟨gz, kk * 3, none⟩) := ⟨_, rfl⟩
                have HSd : Hid (layLt.S wc (.slice D (zs.length - kk) (cz - kk)) (zs.drop kk)) := hide (LayS.drop layLtOk HSz6.out (by omega) rfl (by omega) (fun hkl b off e => by
                  injection e with e
                  injection e with e1 e2
                  subst e1
                  subst e2
                  rw [hD, if_neg (by omega)]
                  simp
                  rfl))
                have HSt := hide (LayS.take HSz6.out (i := kk) (c' := cz) (by omega) (by omega))
                have hdl : (zs.drop kk).length = zs.length - kk := by simp
                have htl : (zs.take kk).length = kk := by first | (simp; done) | (simp; omega)
                have hnD : ∀ n c, Value.slice D (zs.length - kk) (cz - kk) = .slice none n c → c = 0 := by
                  intro n c e
                  rw [hD] at e
                  split at e <;> cases e
                go_upto_region 9 with fail
                refine wp_region_any (by kernel_rfl) ?_
                change wpAny _ _ _ _ _ _ _ (World.drew _)
                refine wpAny_take (i := 0) (v := ?_) rfl (by kernel_rfl) (by kernel_rfl) (by kernel_rfl) (by first | exact fun _ _ _ h => h | (rintro _ _ _ ⟨h, _⟩; cases h)) (Or.inl ⟨by rfl, ?hy0⟩) ?_
                case hy0 => intro w; go_simp; with_reducible rfl
                simp only [Act.put, List.getElem_toArray, List.getElem_cons_zero, List.setIfInBounds_toArray, List.set_cons_succ, List.set_cons_zero]
                refine wpAny_take (i := 1) (v := ?_) rfl (by kernel_rfl) (by kernel_rfl) (by kernel_rfl) (by first | exact fun _ _ _ h => h | (rintro _ _ _ ⟨h, _⟩; cases h)) (Or.inl ⟨by rfl, ?hy1⟩) ?_
                case hy1 => intro w; go_simp; with_reducible rfl
                simp only [Act.put, List.getElem_toArray, List.getElem_cons_zero, List.getElem_cons_succ, List.setIfInBounds_toArray, List.set_cons_succ, List.set_cons_zero]
                refine wpAny_take (i := 2) (v := ?_) rfl (by kernel_rfl) (by kernel_rfl) (by kernel_rfl) (by first | exact fun _ _ _ h => h | (rintro _ _ _ ⟨h, _⟩; cases h)) (Or.inl ⟨by rfl, ?hy2⟩) ?_
                case hy2 => intro w; go_simp; with_reducible rfl
                simp only [Act.put, List.getElem_toArray, List.getElem_cons_zero, List.getElem_cons_succ, List.setIfInBounds_toArray, List.set_cons_succ, List.set_cons_zero]
                refine wpAny_take (i := 5) (v := ?_) rfl (by kernel_rfl) (by kernel_rfl) (by kernel_rfl) (by first | exact fun _ _ _ h => h | (rintro _ _ _ ⟨h, _⟩; cases h)) (Or.inl ⟨by rfl, ?hy5⟩) ?_
                case hy5 => intro w; go_simp; with_reducible rfl
                simp only [Act.put, List.getElem_toArray, List.getElem_cons_zero, List.getElem_cons_succ, List.setIfInBounds_toArray, List.set_cons_succ, List.set_cons_zero]
                refine wpAny_take (i := 6) (v := ?_) rfl (by kernel_rfl) (by kernel_rfl) (by kernel_rfl) (by first | exact fun _ _ _ h => h | (rintro _ _ _ ⟨h, _⟩; cases h)) (Or.inl ⟨by rfl, ?hy6⟩) ?_
                case hy6 => intro w; go_simp; with_reducible rfl
                simp only [Act.put, List.getElem_toArray, List.getElem_cons_zero, List.getElem_cons_succ, List.setIfInBounds_toArray, List.set_cons_succ, List.set_cons_zero]
                refine wpAny_take (i := 7) (v := .slice D (zs.length - kk) (cz - kk)) rfl (by kernel_rfl) (by kernel_rfl) (by kernel_rfl) (by first | exact fun _ _ _ h => h | (rintro _ _ _ ⟨h, _⟩; cases h)) (Or.inl ⟨by rfl, ?hy7⟩) ?_
                case hy7 => intro w; rw [hD]; go_simp
                simp only [Act.put, List.setIfInBounds_toArray]
                clear hD
                refine wpAny_sq17 [3, 4, 8, 9] (by kernel_rfl) rfl ?_
                simp only [nths, nth1]
                go_upto_region 10 with (at_builtin; go_must (refine wpList_appG layLtOk _ rfl _ _ rfl wc.heap.size (.slice (some ⟨wc.heap.size, 0, none⟩) 1 1) (.slice D (zs.length - kk) (cz - kk)) [lt0 ys j] (zs.drop kk) rfl rfl (World.ownsRow.drew (lt_app1 wc (lt0 ys j))) (LayS.ext HSd.out (((Ext.refl _).alloc _).drew)) hnD (by rw [hdl]; first | omega | (simp; done) | (simp; omega)) (by show _ * 24 ≤ _; rw [hdl]; first | omega | (simp; done) | (simp; omega)) (by show wc.heap.size ≤ (World.alloc _ _).heap.size; simp) ?_); intro v8 Wq hA8 hb8; have HA8 := hide hA8; have HX8 := hide ((((Ext.refl wc).alloc _).drew).below hb8); clear hA8 hb8; obtain ⟨A8, c8, hv8, -, -⟩ := LayApp.form HA8.out; rw [List.length_append, hdl, show [lt0 ys j].length = 1 from rfl] at hv8; subst hv8; have HS8 := hide (LayApp.S HA8.out (by show _ * 24 ≤ _; rw [List.length_append, hdl]; first | omega | (simp; done) | (simp; omega))))
                have HSt8 := hide (LayS.ext HSt.out HX8.out)
                have hAz : ∀ n c, Value.slice (some ⟨gz, 0, none⟩) kk cz = .slice none n c → c = 0 := fun n c e => by cases e
                have hn8 := LayApp.hnil HA8.out
                go_wp2_with (at_builtin; go_must (first
                  | (refine wpList_appG layLtOk _ rfl _ _ rfl Wq.heap.size (.slice (some ⟨Wq.heap.size, 0, none⟩) 0 0) (.slice (some ⟨gz, 0, none⟩) kk cz) [] (zs.take kk) rfl rfl (LayApp.empty Wq rfl) (LayS.ext HSt8.out ((Ext.refl _).alloc _)) hAz (by rw [htl, List.length_nil]; omega) (by show _ * 24 ≤ _; rw [htl, List.length_nil]; omega) (by rw [World.size_alloc]; omega) ?_; intro v9 W9 hA9 hb9; rw [List.nil_append] at hA9; have HA9 := hide hA9; have HX9 := hide (((Ext.refl Wq).alloc _).below hb9); clear hA9 hb9; obtain ⟨A9, c9, hv9, -, -⟩ := LayApp.form HA9.out; rw [htl] at hv9; subst hv9; have HS9 := hide (LayS.ext HS8.out HX9.out))
                  | (refine wpList_appG layLtOk _ rfl _ _ rfl Wq.heap.size (.slice A9 kk c9) (.slice A8 (1 + (zs.length - kk)) c8) (zs.take kk) ([lt0 ys j] ++ zs.drop kk) rfl rfl HA9.out HS9.out hn8 (by rw [htl, List.length_append, hdl]; first | omega | (simp; done) | (simp; omega)) (by show _ * 24 ≤ _; rw [htl, List.length_append, hdl]; first | omega | (simp; done) | (simp; omega)) HX9.out.size ?_; intro v10 W10 hA10 hb10; have HA10 := hide hA10; have HX10 := hide (HX9.out.below hb10); clear hA10 hb10)))
                go_roundw
                case rel =>
                  obtain ⟨g10, c10', hv10⟩ := lt_own HA10.out (by simp only [List.length_append, List.length_cons, List.length_nil]; omega)
                  refine ⟨j + 1, _, by go_num, by omega, LayApp.mono HA10.out (by have := HX.out.size; have := HX6.out.size; have := HX8.out.size; omega), ⟨g10, c10', hv10⟩, ?_, fun l hl => ?_, ((HX.out.trans HX6.out).trans HX8.out).trans HX10.out⟩
                  · rw [List.length_append, htl, List.length_append, hdl]; simp only [List.length_cons, List.length_nil]; omega
                  · rcases List.mem_append.1 hl with hl | hl
                    · exact HM.out l (List.mem_of_mem_take hl)
                    · rcases List.mem_append.1 hl with hl | hl
                      · simp at hl; subst hl; exact .inr (lt0_mem hjn)
                      · exact HM.out l (List.mem_of_mem_drop hl)
                case measure => simp [intOf]; omega
    · obtain rfl : j = ys.length := by omega
      have hjI : ¬ ((ys.length : Int) < ys.length) := by omega
      go_wp2_with fail
      go_ret
      exact ⟨_, zs, rfl, HAz.out, hzl, HM.out, HX.out⟩
end Go.Proofs.YtgpbmggfpbebmaaGreat
