/- When a constraint is satisfied: the walks of the reference's helpers. -/
import Derived.Test.YtjpdebgejlfeaaaDoorSatZ
import Derived.Test.YtjpdebgejlfeaaaDoorFilt
import Derived.Test.YtjpdebgejlfeaaaDoorRelZ
import Derived.Test.YtjpdebgejlfeaaaDoorCpA
import Derived.Test.YtjpdebgejlfeaaaDoorPrpZ
namespace Go.Proofs.YtjpdebgejlfeaaaDoor
open Go.RowKit

end Go.Proofs.YtjpdebgejlfeaaaDoor
/- When a constraint is satisfied: the reference's walks of an automaton and of a circuit. -/
namespace Go.Proofs.YtjpdebgejlfeaaaDoor
open Go.RowKit

end Go.Proofs.YtjpdebgejlfeaaaDoor
/- When a constraint is satisfied: satisfies of the reference, kind by kind. -/
namespace Go.Proofs.YtjpdebgejlfeaaaDoor
open Go.RowKit

end Go.Proofs.YtjpdebgejlfeaaaDoor
/- The reference's walk over all tuples of a constraint. -/
namespace Go.Proofs.YtjpdebgejlfeaaaDoor
open Go.RowKit

/-- The enumerator: its struct at block bs, the tuple at block gx, the support at block gs. -/
structure WkSt (c : Con) (vv va vr vd : Value) (gx gs bs : Nat) (p l : List Int) (W : World) : Prop where
  c0 : W.cell? ⟨bs, 0, none⟩ = some (.int .i64 c.kk)
  c1 : W.cell? ⟨bs, 1, none⟩ = some vv
  c2 : W.cell? ⟨bs, 2, none⟩ = some va
  c3 : W.cell? ⟨bs, 3, none⟩ = some (.int .i64 c.bound)
  c4 : W.cell? ⟨bs, 4, none⟩ = some vr
  c5 : W.cell? ⟨bs, 5, none⟩ = some vd
  c6 : W.cell? ⟨bs, 6, none⟩ = some (.slice (some ⟨gx, 0, none⟩) c.vars.length c.vars.length)
  c7 : W.cell? ⟨bs, 7, none⟩ = some (.slice (some ⟨gs, 0, none⟩) c.vars.length c.vars.length)
  rx : ∃ f, W.rowIs gx 3 c.vars.length f ∧ ∀ j, j < p.length → f j = vI (at0 p j)
  rs : W.rowIs gs 3 c.vars.length (fun j => .int .i64 (at0 l j))
  val : ValL p
  dom : DomL l
  ll : l.length = c.vars.length
  pl : p.length ≤ c.vars.length
  n1 : gx ≠ gs
  n2 : gx ≠ bs
  n3 : gs ≠ bs
  lt : bs < W.heap.size
section
variable {c : Con} {vv va vr vd : Value} {gx gs bs : Nat} {p l : List Int} {W W' : World}
theorem WkSt.ext (h : WkSt c vv va vr vd gx gs bs p l W) (hx : Ext W W') : WkSt c vv va vr vd gx gs bs p l W' := by
  obtain ⟨f, h3, h4⟩ := h.rx
  have q := fun k => hx.cells bs k h.lt
  exact ⟨(q _).trans h.c0, (q _).trans h.c1, (q _).trans h.c2, (q _).trans h.c3, (q _).trans h.c4, (q _).trans h.c5, (q _).trans h.c6, (q _).trans h.c7, ⟨f, hx.row h3, h4⟩, hx.row h.rs, h.val, h.dom, h.ll, h.pl, h.n1, h.n2, h.n3, Nat.lt_of_lt_of_le h.lt hx.size⟩
theorem WkSt.ints (h : WkSt c vv va vr vd gx gs bs p l W) (hp : p.length = c.vars.length) (h4 : c.vars.length ≤ 4) : SInts W (.slice (some ⟨gx, 0, none⟩) c.vars.length c.vars.length) p := by
  obtain ⟨f, hr, hf⟩ := h.rx
  exact ⟨_, _, by rw [hp], by omega, by omega, fun i hi => by have := h.val i hi; unfold I64; omega, fun _ => ⟨gx, 0, rfl, hr.lt, fun i hi => by rw [Nat.zero_add, hr.cell (by omega), hf i hi]; rfl⟩⟩
/-- A value more. -/
theorem WkSt.push (h : WkSt c vv va vr vd gx gs bs p l W) (x : Int) (h0 : 0 ≤ x) (h5 : x ≤ 5) (hlt : p.length < c.vars.length) : WkSt c vv va vr vd gx gs bs (p ++ [x]) l (W.setCell ⟨gx, p.length, none⟩ (.int .i64 x)) := by
  obtain ⟨f, h3, h4⟩ := h.rx
  have hn := h.n2
  have co : ∀ k, (W.setCell ⟨gx, p.length, none⟩ (.int .i64 x)).cell? ⟨bs, k, none⟩ = W.cell? ⟨bs, k, none⟩ := fun k => cell_other _ (by simp; omega)
  refine ⟨(co _).trans h.c0, (co _).trans h.c1, (co _).trans h.c2, (co _).trans h.c3, (co _).trans h.c4, (co _).trans h.c5, (co _).trans h.c6, (co _).trans h.c7, ⟨_, h3.set p.length (.int .i64 x), fun i hi => ?_⟩, h.rs.setOther (fun e => h.n1 e.symm) _, fun i hi => ?_, h.dom, h.ll, by simp; omega, h.n1, hn, h.n3, by simpa [World.setCell] using h.lt⟩
  · show (if i = p.length then _ else _) = _
    rw [List.length_append, List.length_singleton] at hi
    by_cases hip : i = p.length
    · subst hip; rw [if_pos rfl, at0_snoc]; rfl
    · rw [if_neg hip, at0_app _ _ (by omega)]; exact h4 i (by omega)
  · rw [List.length_append, List.length_singleton] at hi
    by_cases hip : i = p.length
    · subst hip; rw [at0_snoc]; exact ⟨h0, h5⟩
    · rw [at0_app _ _ (by omega)]; exact h.val i (by omega)
theorem WkSt.pop {x : Int} (h : WkSt c vv va vr vd gx gs bs (p ++ [x]) l W) : WkSt c vv va vr vd gx gs bs p l W := by
  obtain ⟨f, h3, h4⟩ := h.rx
  have hl := h.pl
  rw [List.length_append] at hl
  refine ⟨h.c0, h.c1, h.c2, h.c3, h.c4, h.c5, h.c6, h.c7, ⟨f, h3, fun i hi => ?_⟩, h.rs, fun i hi => ?_, h.dom, h.ll, by omega, h.n1, h.n2, h.n3, h.lt⟩
  · have := h4 i (by simp; omega); rwa [at0_app _ _ hi] at this
  · have := h.val i (by simp; omega); rwa [at0_app _ _ hi] at this
/-- New support. -/
theorem WkSt.supp {m : List Int} (h : WkSt c vv va vr vd gx gs bs p l W) (hk : Keep (fun k => k ≠ gs) W W') (hr : W'.rowIs gs 3 c.vars.length (fun j => .int .i64 (at0 m j))) (hd : DomL m) (hm : m.length = c.vars.length) : WkSt c vv va vr vd gx gs bs p m W' := by
  obtain ⟨f, h3, h4⟩ := h.rx
  have co : ∀ k, W'.cell? ⟨bs, k, none⟩ = W.cell? ⟨bs, k, none⟩ := fun k => hk.cell (p := ⟨bs, k, none⟩) h.lt (fun e => h.n3 e.symm)
  exact ⟨(co _).trans h.c0, (co _).trans h.c1, (co _).trans h.c2, (co _).trans h.c3, (co _).trans h.c4, (co _).trans h.c5, (co _).trans h.c6, (co _).trans h.c7, ⟨f, hk.row h.n1 h3, h4⟩, hr, h.val, hd, hm, h.pl, h.n1, h.n2, h.n3, Nat.lt_of_lt_of_le h.lt hk.size⟩
end
theorem pow_bdW {v : Nat} (hv : v < 6) : (1 : Int) ≤ 2 ^ v ∧ (2 : Int) ^ v ≤ 32 := by
  have := fin_dv (p := fun _ v => decide ((1 : Int) ≤ 2 ^ v) && decide ((2 : Int) ^ v ≤ 32)) (by decide +kernel) (Int.le_refl 0) (by omega) hv
  simpa using this
/-- How the walk ends. -/
def WkEnd (c : Con) (vv va vr vd : Value) (gx gs bs : Nat) (p l : List Int) (W : World) (e : Ending) (W' : World) : Prop :=
  e = .returned (.tuple #[]) ∧ WkSt c vv va vr vd gx gs bs p l W' ∧ Keep (fun k => k ≠ gx ∧ k ≠ gs) W W'
theorem orK_all {l x : List Int} {j : Nat} (hj : j < l.length) : orK l x l.length j = at0 (orT l x) j := by
  rw [orK, if_pos hj, orT_at x hj]
theorem orV_has' {d : Int} {v : Nat} (h : hasB d v = true) : orV d v = d := by unfold orV; rw [Int.toNat_natCast, if_pos h]
theorem orV_no {d : Int} {v : Nat} (h : hasB d v = false) : orV d v = d + 2 ^ v := by unfold orV; rw [Int.toNat_natCast, h, if_neg (by simp)]
end Go.Proofs.YtjpdebgejlfeaaaDoor
/- The reference's walk over all tuples of a constraint: a node, and the whole. -/
namespace Go.Proofs.YtjpdebgejlfeaaaDoor
open Go.RowKit

/-- The tuples that begin with p and one of the values of d below k. -/
def partW (p : List Int) (d : Int) (rs : List Int) (k : Nat) : List (List Int) := (domK d k).flatMap fun u => (tups rs).map fun t => p ++ u :: t
theorem partW_zero (p : List Int) (d : Int) (rs : List Int) : partW p d rs 0 = [] := rfl
theorem partW_yes (p : List Int) {d : Int} (rs : List Int) {k : Nat} (h : hasB d k = true) : partW p d rs (k + 1) = partW p d rs k ++ (tups rs).map fun t => (p ++ [(k : Int)]) ++ t := by
  unfold partW
  rw [domK, if_pos h, List.flatMap_append]
  simp
theorem partW_no (p : List Int) {d : Int} (rs : List Int) {k : Nat} (h : hasB d k = false) : partW p d rs (k + 1) = partW p d rs k := by
  unfold partW
  rw [domK, h, if_neg (by simp)]
theorem partW_all (p : List Int) (d : Int) (rs : List Int) : partW p d rs 6 = (tups (d :: rs)).map fun t => p ++ t := by
  unfold partW
  simp [tups, domL, List.map_flatMap, List.map_map, Function.comp_def]
theorem leftT_app (q : List Int → Bool) (l : List Int) (A B : List (List Int)) : leftT q l (A ++ B) = leftT q (leftT q l A) B := by
  unfold leftT; rw [List.foldl_append]
theorem at0_mid (a : List Int) (d : Int) (b : List Int) {i : Nat} (h : i = a.length) : at0 (a ++ d :: b) i = d := by
  subst h
  unfold at0
  rw [getD_lt _ _ (by simp)]
  simp
end Go.Proofs.YtjpdebgejlfeaaaDoor
/- supported of the reference: what a constraint leaves of the domains. -/
namespace Go.Proofs.YtjpdebgejlfeaaaDoor
open Go.RowKit
attribute [local go_sem] evalOf

/-- A new row of n zeros. -/
def RS.zr (D : List Nat) (B n : Nat) : RS := ⟨D, fun _ v W => ∃ b, v = .slice (some ⟨b, 0, none⟩) n n ∧ B ≤ b ∧ W.rowIs b 3 n (fun _ => .int .i64 0), fun _ _ _ _ h hx => by obtain ⟨b, h1, h2, h3⟩ := h; exact ⟨b, h1, h2, hx.row h3⟩⟩
/-- A struct of which two parts are slices that have been made. -/
def RS.bd (D : List Nat) (n : Nat) (F : Nat → Nat → Array Value) : RS := ⟨D, fun vs v _ => ∃ gx gs, vs.getD 2 undef = .slice (some ⟨gx, 0, none⟩) n n ∧ vs.getD 3 undef = .slice (some ⟨gs, 0, none⟩) n n ∧ v = .agg (F gx gs), fun _ _ _ _ h _ => h⟩
theorem row_ty {W : World} {b : Nat} {t u : TypeId} {n m : Nat} {f g : Nat → Value} (h : W.rowIs b t n f) (k : W.rowIs b u m g) : t = u := by
  obtain ⟨c1, p1, -⟩ := h
  obtain ⟨c2, p2, -⟩ := k
  rw [p1] at p2
  injection p2 with p2
  injection p2 with _ p3
theorem getD_some {cs : Array Value} {i : Nat} (hi : i < cs.size) : cs[i]? = some (cs.getD i undef) := by simp [Array.getD_eq_getD_getElem?, hi]
theorem leftW {c : Con} {ds : List Int} (p : List Int → Bool) : (leftT p (zer c.vars.length) (tups (wordL c.vars ds))).length = c.vars.length := (left_spec p c.vars ds).1
end Go.Proofs.YtjpdebgejlfeaaaDoor
/- fixpoint of the reference. -/
namespace Go.Proofs.YtjpdebgejlfeaaaDoor
open Go.RowKit

set_option maxHeartbeats 1000000 in
theorem equalIntsS_any (v v' : Value) (xs ys : List Int) (w : World) (hS : SInts w v xs) (hS' : SInts w v' ys) :
    Calls Tryd.prog 22 #[v, v'] w (Ret (.bool (decide (xs = ys))) w) := by
  have hS0 := hide hS
  have hS0' := hide hS'
  obtain ⟨A, cp, rfl, hl, hlen⟩ := hS.form
  obtain ⟨A', cp', rfl, hl', -⟩ := hS'.form
  clear hS hS'
  by_cases he : xs.length = ys.length
  · have heI : ((xs.length : Int) != (ys.length : Int)) = false := by simp [he]
    have HE := hide he
    clear he
    go_enter Tryd.func22, Tryd.ntmps22
    go_wp2
    go_loopw [5] (fun i wr => ∃ k : Nat, k ≤ xs.length ∧ i = .int .i64 k ∧ Ext w wr ∧ ∀ j, j < k → at0 xs j = at0 ys j) (fun i _ => xs.length - (intOf i).toNat)
    case atStart => exact ⟨0, Nat.zero_le _, rfl, Ext.refl w, fun j hj => by omega⟩
    case round =>
      obtain ⟨k, hk, rfl, hxr, hall⟩ := hrel
      have HA := hide hall
      clear hall
      by_cases hlt : k < xs.length
      · have hlt2 : k < ys.length := by rw [← HE.out]; exact hlt
        have hltI : (k : Int) < xs.length := by omega
        have hltI2 : (k : Int) < ys.length := by omega
        obtain ⟨b, off, rfl, hbl, f1⟩ := (hS0.out.ext hxr).at_ hlt
        obtain ⟨b', off', rfl, hbl', f1'⟩ := (hS0'.out.ext hxr).at_ hlt2
        cases hd : (at0 xs k != at0 ys k) with
        | true =>
          have HD := hide (show decide (xs = ys) = false by
            rw [decide_eq_false_iff_not]; intro e; rw [e] at hd; simp at hd)
          have HX := hide hxr
          clear hxr
          go_wp2
          refine wp_region_ext (by kernel_rfl) (by kernel_rfl) ?_
          iterate 9 (apply quiet_val; (focus rfl); (focus (intro w' hw'; have hk' := hw'.cells; go_simp; all_goals exact rfl)); simp only [Act.put, List.setIfInBounds_toArray, List.set_cons_succ, List.set_cons_zero])
          refine wpQuiet_nil ?_
          intro w2 hx2
          have HX2 := hide (HX.out.trans hx2)
          clear hx2
          go_wp2
          go_ret
          exact Ret.mk (ret_b HD.out.symm) HX2.out
        | false =>
          have HD := hide (show at0 xs k = at0 ys k by simpa using hd)
          have HX := hide hxr
          clear hxr
          go_wp2
          refine wp_region_ext (by kernel_rfl) (by kernel_rfl) ?_
          iterate 9 (apply quiet_val; (focus rfl); (focus (intro w' hw'; have hk' := hw'.cells; go_simp; all_goals exact rfl)); simp only [Act.put, List.setIfInBounds_toArray, List.set_cons_succ, List.set_cons_zero])
          refine wpQuiet_nil ?_
          intro w2 hx2
          have HX2 := hide (HX.out.trans hx2)
          clear hx2
          go_wp2
          go_roundw
          case rel => exact ⟨k + 1, by omega, by go_num, HX2.out, fun j hj => by
            by_cases e : j = k
            · subst e; exact HD.out
            · exact HA.out j (by omega)⟩
          case measure => simp [intOf]; omega
      · obtain rfl : k = xs.length := by omega
        have hkI : ¬ ((xs.length : Int) < xs.length) := by omega
        have HD := hide (show decide (xs = ys) = true from decide_eq_true (at0_ext HE.out HA.out))
        go_wp2
        go_ret
        exact Ret.mk (ret_b HD.out.symm) hxr
  · have heI : ((xs.length : Int) != (ys.length : Int)) = true := by simp; omega
    have HD := hide (show decide (xs = ys) = false by
      rw [decide_eq_false_iff_not]; intro e; exact he (by rw [e]))
    clear he
    go_enter Tryd.func22, Tryd.ntmps22
    go_wp2
    go_ret
    exact Ret.mk (ret_b HD.out.symm) (Ext.refl _)
set_option maxHeartbeats 1000000 in
theorem hasEmpty_any (v : Value) (xs : List Int) (w : World) (hS : SInts w v xs) :
    Calls Tryd.prog 21 #[v] w fun e w' => e = .returned (.bool (hasI xs 0)) ∧ w = w' := by
  have hS0 := hide hS
  obtain ⟨A, c, rfl, -, hln⟩ := hS.form
  clear hS
  go_enter Tryd.func21, Tryd.ntmps21
  go_wp2
  go_loop [3] (fun i => ∃ k : Nat, k ≤ xs.length ∧ i = .int .i64 k ∧ ∀ j, j < k → ((0 : Int) == at0 xs j) = false) (fun i => xs.length - (intOf i).toNat)
  case atStart => exact ⟨0, Nat.zero_le _, rfl, fun j hj => by omega⟩
  case round =>
    obtain ⟨k, hk, rfl, hno⟩ := hrel
    have HNO := hide hno
    clear hno
    by_cases hlt : k < xs.length
    · obtain ⟨b, off, rfl, hbl, f1⟩ := hS0.out.at_ hlt
      have hkI : (k : Int) < xs.length := by omega
      cases hx : (at0 xs k == 0) with
      | true =>
        have HF := hide (show hasI xs 0 = true from anyB_iff.2 ⟨k, hlt, by rw [beq_iff_eq] at hx ⊢; exact hx.symm⟩)
        go_wp2
        go_ret
        exact ⟨ret_b HF.out.symm, rfl⟩
      | false =>
        have HX := hide (show ((0 : Int) == at0 xs k) = false by rw [beq_eq_false_iff_ne] at hx ⊢; exact fun h => hx h.symm)
        go_wp2
        go_round
        case rel => exact ⟨k + 1, by omega, by go_num, upto_succ HNO.out HX.out⟩
        case measure => simp [intOf]; omega
    · obtain rfl : k = xs.length := by omega
      have HF := hide (show hasI xs 0 = false from anyB_false.2 HNO.out)
      go_wp2
      go_ret
      exact ⟨ret_b HF.out.symm, rfl⟩
end Go.Proofs.YtjpdebgejlfeaaaDoor
/- fixpoint of the reference: the walk. -/
namespace Go.Proofs.YtjpdebgejlfeaaaDoor
open Go.RowKit

theorem fixL_empty {st : List Int → List Int} {k : Nat} {ds : List Int} (h : hasI ds 0 = true) : fixL st (k + 1) ds = zer ds.length := by rw [fixL, if_pos h]
theorem fixL_done {st : List Int → List Int} {k : Nat} {ds : List Int} (h : hasI ds 0 = false) (h2 : st ds = ds) : fixL st (k + 1) ds = ds := by rw [fixL, h, if_neg (by simp), if_pos h2]
theorem fixL_on {st : List Int → List Int} {k : Nat} {ds : List Int} (h : hasI ds 0 = false) (h2 : st ds ≠ ds) : fixL st (k + 1) ds = fixL st k (st ds) := by rw [fixL, h, if_neg (by simp), if_neg h2]
theorem GoodD.i64 {cs : List Con} {n : Nat} {ds : List Int} (h : GoodD cs n ds) : ∀ i, i < ds.length → I64 (at0 ds i) := fun i hi => by have := h.2.1 i hi; unfold I64; omega
/-- A result of its own reads. -/
theorem OwnRes.ints {xs : List Int} {w w' : World} {v : Value} (h : OwnRes xs w (.returned v) w') (hb : ∀ i, i < xs.length → I64 (at0 xs i)) : SInts w' v xs := by
  obtain ⟨A, c, b, m, f, h1, h2, h3, h4, h5, h6⟩ := h
  injection h1 with h1
  subst h1
  exact SInts.own h2 h3 h5 hb
theorem OwnRes.form {xs : List Int} {w w' : World} {v : Value} (h : OwnRes xs w (.returned v) w') : ∃ A c, v = .slice A xs.length c := by
  obtain ⟨A, c, b, m, f, h1, -⟩ := h
  injection h1 with h1
  exact ⟨A, c, h1⟩
theorem OwnRes.ext0 {xs : List Int} {w w' : World} {e : Ending} (h : OwnRes xs w e w') : Ext w w' := by
  obtain ⟨A, c, b, m, f, h1, h2, h3, h4, h5, h6⟩ := h
  exact h6
theorem OwnRes.from {xs : List Int} {w w1 w' : World} {e : Ending} (h : OwnRes xs w1 e w') (hx : Ext w w1) : OwnRes xs w e w' := by
  obtain ⟨A, c, b, m, f, h1, h2, h3, h4, h5, h6⟩ := h
  exact ⟨A, c, b, m, f, h1, h2, h3, Nat.le_trans hx.size h4, h5, hx.trans h6⟩
theorem zer_own {w w' : World} {b n : Nat} (hr : w'.rowIs b 3 n (fun _ => .int .i64 0)) (hb : w.heap.size ≤ b) (hx : Ext w w') (h4 : n ≤ 4) : OwnRes (zer n) w (.returned (.slice (some ⟨b, 0, none⟩) n n)) w' :=
  ⟨_, n, b, n, _, by rw [zer_len], by rw [zer_len]; exact Nat.le_refl _, by rw [zer_len]; omega, hb, fun _ => ⟨rfl, hr, by rw [zer_len]; exact Nat.le_refl _, fun i _ => by rw [zer_at]⟩, hx⟩
end Go.Proofs.YtjpdebgejlfeaaaDoor
