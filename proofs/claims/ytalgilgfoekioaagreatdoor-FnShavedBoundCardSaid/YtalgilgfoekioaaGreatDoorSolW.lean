/- The solutions of a model in plain Lean. -/
import Derived.Test.YtalgilgfoekioaaGreatDoorSolH
import Derived.Test.YtalgilgfoekioaaGreatDoorPrpZ
import Derived.Test.YtalgilgfoekioaaGreatDoorAppZ
import Derived.Test.YtalgilgfoekioaaGreatDoorQ11
import Derived.Test.YtalgilgfoekioaaGreatDoorTupA
import Derived.Test.YtalgilgfoekioaaGreatDoorRFR
import Derived.Test.YtalgilgfoekioaaGreatDoorCpA
namespace Go.Proofs.YtalgilgfoekioaaGreatDoor
open Go.RowKit

def solL (cs : List Con) (ds : List Int) : List (List Int) := (tups ds).filter (okAll cs)
/-- Smaller domains: fewer lists, in the same order. -/
theorem domK_filter {d e : Int} : ∀ k, (∀ v, v < k → hasB e v = true → hasB d v = true) → (domK d k).filter (fun v => hasB e v.toNat) = domK e k
  | 0, _ => rfl
  | k + 1, h => by
    have ih := domK_filter (d := d) (e := e) k (fun v hv => h v (by omega))
    rw [domK, domK]
    cases hd : hasB d k <;> cases he : hasB e k
    · simpa using ih
    · have := h k (by omega) he; rw [hd] at this; cases this
    · simp [List.filter_append, ih, he]
    · simp [List.filter_append, ih, he]
theorem memB_cons (e u : Int) (es t : List Int) : memB (e :: es) (u :: t) = (hasB e u.toNat && memB es t) := by
  have h : ∀ n, (!anyB (fun i => !hasB (at0 (e :: es) i) (at0 (u :: t) i).toNat) (n + 1)) = (hasB e u.toNat && !anyB (fun i => !hasB (at0 es i) (at0 t i).toNat) n) := by
    intro n
    rw [Bool.eq_iff_iff]
    rw [Bool.not_eq_true', anyB_false, Bool.and_eq_true, Bool.not_eq_true', anyB_false]
    constructor
    · intro h
      exact ⟨by simpa [at0] using h 0 (by omega), fun i hi => by simpa [at0] using h (i + 1) (by omega)⟩
    · rintro ⟨h0, h⟩ i hi
      cases i with
      | zero => simpa [at0] using h0
      | succ i => simpa [at0] using h i (by omega)
  exact h es.length
theorem tups_filter : ∀ (ds es : List Int), SubD es ds → (tups ds).filter (memB es) = tups es
  | [], es, h => by
    obtain rfl : es = [] := List.length_eq_zero_iff.1 h.len
    simp [tups, memB, anyB]
  | d :: ds, [], h => by have := h.len; simp at this
  | d :: ds, e :: es, h => by
    have ih := tups_filter ds es ⟨by simpa using h.len, fun u hu v hv hh => by have := h.sub (u + 1) (by simpa using hu) v hv (by simpa [at0] using hh); simpa [at0] using this⟩
    have h0 : ∀ v, v < 6 → hasB e v = true → hasB d v = true := fun v hv hh => by have := h.sub 0 (by simp) v hv (by simpa [at0] using hh); simpa [at0] using this
    have hk := domK_filter (d := d) (e := e) 6 h0
    rw [tups, tups, ← ih, show domL e = (domL d).filter (fun v => hasB e v.toNat) from hk.symm]
    generalize domL d = l
    induction l with
    | nil => simp
    | cons v l ih2 =>
      rw [List.flatMap_cons, List.filter_append, ih2, List.filter_map]
      have hc : (memB (e :: es) ∘ fun t => v :: t) = fun t => hasB e v.toNat && memB es t := funext fun t => memB_cons e v es t
      rw [hc, List.filter_cons]
      cases he : hasB e v.toNat
      · simp
      · simp
theorem memB_of {es x : List Int} (h : x ∈ tups es) : memB es x = true := by
  obtain ⟨h1, h2⟩ := (tups_in es x).1 h
  unfold memB
  rw [Bool.not_eq_true', anyB_false]
  intro i hi
  obtain ⟨v, a, b, c⟩ := h2 i hi
  rw [b, Int.toNat_natCast, c]; rfl
theorem solL_sub {cs : List Con} {ds es : List Int} (h : SubD es ds) (hk : ∀ x, x ∈ tups ds → okAll cs x = true → x ∈ tups es) : solL cs es = solL cs ds := by
  unfold solL
  rw [← tups_filter ds es h, List.filter_filter]
  refine List.filter_congr fun x hx => ?_
  cases ho : okAll cs x
  · rfl
  · rw [memB_of (hk x hx ho)]; rfl
/-- A constraint takes away no solution. -/
theorem filt_keeps {cs : List Con} {n : Nat} {ds : List Int} (h : GoodD cs n ds) {i : Nat} (hi : i < cs.length) {x : List Int} (hx : x ∈ tups ds) (ho : okAll cs x = true) : x ∈ tups (filtL (con0 cs i) ds) := by
  have hv : VarOK (con0 cs i).vars ds.length := by rw [h.1]; exact vCon_var (h.2.2 i hi)
  obtain ⟨h1, h2⟩ := (tups_in ds x).1 hx
  have hs := okAll_at ho hi
  refine (tups_in _ _).2 ⟨by rw [h1, filtL, filtP_len], fun u hu => ?_⟩
  rw [filtL, filtP_len] at hu
  obtain ⟨v, a, b, c⟩ := h2 u hu
  refine ⟨v, a, b, ?_⟩
  by_cases hk : ∃ k, k < (con0 cs i).vars.length ∧ (at0 (con0 cs i).vars k).toNat = u
  · obtain ⟨k, hk, rfl⟩ := hk
    rw [filtL, filtP_has hv hk a]
    refine ⟨wordL (con0 cs i).vars x, (tups_in _ _).2 ⟨by rw [wordL_len, wordL_len], fun j hj => ?_⟩, hs, by rw [wordL_at x hk]; exact b⟩
    rw [wordL_len] at hj
    rw [wordL_at x hj, wordL_at ds hj]
    exact h2 _ (hv.rg j hj).2
  · rw [filtL, filtP_other (fun k hk' e => hk ⟨k, hk', e⟩)]
    exact c
theorem stepK_keeps {cs : List Con} {n : Nat} {ds : List Int} (h : GoodD cs n ds) {x : List Int} (hx : x ∈ tups ds) (ho : okAll cs x = true) : ∀ k, k ≤ cs.length → x ∈ tups (stepK cs ds k)
  | 0, _ => hx
  | k + 1, hk => by
    rw [stepK]
    exact filt_keeps (h.stepK k (by omega)).1 (by omega) (stepK_keeps h hx ho k (by omega)) ho
theorem tups_empty {ds : List Int} (h : hasI ds 0 = true) : tups ds = [] := by
  obtain ⟨i, hi, he⟩ := hasI_iff.1 h
  refine List.eq_nil_iff_forall_not_mem.2 fun x hx => ?_
  obtain ⟨-, h2⟩ := (tups_in ds x).1 hx
  obtain ⟨v, -, -, c⟩ := h2 i hi
  rw [he, hasB_zero] at c; cases c
theorem fixL_keeps {cs : List Con} {n : Nat} {x : List Int} (ho : okAll cs x = true) : ∀ (k : Nat) (ds : List Int), GoodD cs n ds → x ∈ tups ds → x ∈ tups (fixL (stepL cs) k ds)
  | 0, ds, _, hx => hx
  | k + 1, ds, h, hx => by
    rw [fixL]
    cases h0 : hasI ds 0 with
    | true => rw [tups_empty h0] at hx; cases hx
    | false =>
      rw [if_neg (by simp)]
      by_cases he : stepL cs ds = ds
      · rw [if_pos he]; exact hx
      · rw [if_neg he]
        exact fixL_keeps ho k (stepL cs ds) ((stepOK cs n).stay ds h) (stepK_keeps h hx ho _ (Nat.le_refl _))
theorem solL_prop {cs : List Con} {n : Nat} {ds : List Int} (h : GoodD cs n ds) (h4 : n ≤ 4) : solL cs (propL cs ds) = solL cs ds :=
  solL_sub (propL_R h h4).sub fun _ hx ho => fixL_keeps ho 300 ds h hx
/-- All domains hold one value and nothing can be taken away. -/
theorem tups_ones : ∀ (ds : List Int), (∀ i, i < ds.length → (domL (at0 ds i)).length = 1) → tups ds = [ds.map fun d => at0 (domL d) 0]
  | [], _ => rfl
  | d :: ds, h => by
    have h0 : (domL d).length = 1 := by simpa [at0] using h 0 (by simp)
    rw [tups, tups_ones ds (fun i hi => by simpa [at0] using h (i + 1) (by simpa using hi))]
    obtain ⟨u, hu⟩ := List.length_eq_one_iff.1 h0
    rw [hu]; simp [hu, at0]
theorem sol_leaf {cs : List Con} {n : Nat} {d : List Int} (h : GoodD cs n d) (hst : stepL cs d = d) (h1 : ∀ i, i < d.length → (domL (at0 d i)).length = 1) : solL cs d = [d.map fun e => at0 (domL e) 0] := by
  have ht := tups_ones d h1
  unfold solL
  rw [ht]
  have hx : (d.map fun e => at0 (domL e) 0) ∈ tups d := by rw [ht]; simp
  obtain ⟨x, hxe⟩ : ∃ x, x = d.map fun e => at0 (domL e) 0 := ⟨_, rfl⟩
  rw [← hxe] at hx ht ⊢
  obtain ⟨h2, h3⟩ := (tups_in d x).1 hx
  have huniq : ∀ y, y ∈ tups d → y = x := fun y hy => by rw [ht] at hy; simpa using hy
  have hc := (conB_iff h).2 hst
  unfold conB at hc
  rw [Bool.not_eq_true', anyB_false] at hc
  have hok : okAll cs x = true := okAll_of fun i hi => by
    have he : filtL (con0 cs i) d = d := by simpa using hc i hi
    have hv : VarOK (con0 cs i).vars d.length := by rw [h.1]; exact vCon_var (h.2.2 i hi)
    have hl := (vCon_len (h.2.2 i hi)).1
    have hk : 0 < (con0 cs i).vars.length := by omega
    obtain ⟨v, a, b, c⟩ := h3 _ (hv.rg 0 hk).2
    rw [← he, filtL, filtP_has hv hk a] at c
    obtain ⟨y, hy, hs, -⟩ := c
    obtain ⟨q1, q2⟩ := (tups_in _ _).1 hy
    have : y = wordL (con0 cs i).vars x := by
      rw [wordL_len] at q1
      refine at0_ext (by rw [q1, wordL_len]) fun k hk' => ?_
      rw [q1] at hk'
      rw [wordL_at x hk']
      obtain ⟨v1, a1, b1, c1⟩ := q2 k (by rw [wordL_len]; exact hk')
      obtain ⟨v2, a2, b2, c2⟩ := h3 _ (hv.rg k hk').2
      rw [wordL_at d hk'] at c1
      rw [b1, b2]
      have m1 := (domL_in _ v1).2 ⟨a1, c1⟩
      have m2 := (domL_in _ v2).2 ⟨a2, c2⟩
      obtain ⟨u, hu⟩ := List.length_eq_one_iff.1 (h1 _ (hv.rg k hk').2)
      rw [hu, List.mem_singleton] at m1 m2
      rw [m1, m2]
    rw [← this]; exact hs
  simp [hok]
/-- The first domain that holds more than one value is split. -/
theorem domL_one {v : Nat} (hv : v < 6) : domL (2 ^ v) = [(v : Int)] := by
  have : (List.range 6).all (fun v => domL ((2 : Int) ^ v) == [(v : Int)]) = true := by decide +kernel
  exact eq_of_beq (List.all_eq_true.1 this v (List.mem_range.2 hv))
theorem fm_congr {α β : Type} : ∀ (l : List α) {f g : α → List β}, (∀ v ∈ l, f v = g v) → l.flatMap f = l.flatMap g
  | [], _, _, _ => rfl
  | v :: l, f, g, h => by rw [List.flatMap_cons, List.flatMap_cons, h v (by simp), fm_congr l fun u hu => h u (List.mem_cons_of_mem _ hu)]
theorem tups_split : ∀ (ds : List Int) (i : Nat), i < ds.length → (∀ j, j < i → (domL (at0 ds j)).length = 1) → tups ds = (domL (at0 ds i)).flatMap fun v => tups (ds.set i (2 ^ v.toNat))
  | [], i, hi, _ => by simp at hi
  | d :: ds, 0, _, _ => by
    rw [tups]
    show _ = (domL d).flatMap _
    refine fm_congr _ fun v hv => ?_
    have h := domK_mem d 6 v hv
    rw [List.set_cons_zero, tups]
    obtain ⟨u, rfl⟩ : ∃ u : Nat, v = u := ⟨v.toNat, by omega⟩
    rw [Int.toNat_natCast, domL_one (by omega)]
    simp
  | d :: ds, i + 1, hi, h => by
    have h0 : (domL d).length = 1 := by simpa [at0] using h 0 (by omega)
    obtain ⟨u, hu⟩ := List.length_eq_one_iff.1 h0
    rw [tups, hu, tups_split ds i (by simpa using hi) (fun j hj => by simpa [at0] using h (j + 1) (by omega))]
    show _ = (domL (at0 ds i)).flatMap _
    simp only [List.flatMap_cons, List.flatMap_nil, List.append_nil, List.map_flatMap]
    refine fm_congr _ fun v _ => ?_
    rw [List.set_cons_succ, tups, hu]
    simp
theorem sol_split {cs : List Con} {d : List Int} {i : Nat} (hi : i < d.length) (h : ∀ j, j < i → (domL (at0 d j)).length = 1) : solL cs d = (domL (at0 d i)).flatMap fun v => solL cs (d.set i (2 ^ v.toNat)) := by
  unfold solL
  rw [tups_split d i hi h, List.filter_flatMap]
theorem sum_set : ∀ (ds : List Int) (i : Nat) (x : Int), i < ds.length → sumL (ds.set i x) = sumL ds - at0 ds i + x
  | [], i, x, h => by simp at h
  | d :: ds, 0, x, _ => by simp [sumL, at0]; omega
  | d :: ds, i + 1, x, h => by
    have := sum_set ds i x (by simpa using h)
    simp only [List.set_cons_succ, sumL, this]
    show d + (sumL ds - at0 ds i + x) = d + sumL ds - at0 ds i + x
    omega
theorem pow_lt_dom {d : Int} (h0 : 0 ≤ d) (h1 : d ≤ 63) (hl : (domL d).length ≠ 1) {v : Nat} (hv : v < 6) (hh : hasB d v = true) : (2 : Int) ^ v < d := by
  have := fin_dv (p := fun d v => decide ((domL d).length = 1) || !hasB d v || decide ((2 : Int) ^ v < d)) (by decide +kernel) h0 h1 hv
  simp [hl, hh] at this
  exact this
theorem tups_smallW : ∀ ds : List Int, (tups ds).length ≤ 6 ^ ds.length
  | [] => by simp [tups]
  | d :: ds => by
    have h := tups_smallW ds
    have hd := domL_len d
    have e : (tups (d :: ds)).length = (domL d).length * (tups ds).length := by simp [tups, List.length_flatMap, List.map_const', List.sum_replicate_nat]
    rw [e, List.length_cons, Nat.pow_succ, Nat.mul_comm (6 ^ ds.length)]
    exact Nat.mul_le_mul hd h
theorem solL_small {cs : List Con} {ds : List Int} (h4 : ds.length ≤ 4) : (solL cs ds).length ≤ 1296 := by
  refine Nat.le_trans (List.length_filter_le _ _) (Nat.le_trans (tups_smallW ds) ?_)
  exact Nat.le_trans (Nat.pow_le_pow_right (by omega) h4) (by decide)
theorem solL_mem {cs : List Con} {ds x : List Int} (h : x ∈ solL cs ds) : x.length = ds.length ∧ ValL x := tups_val (List.mem_filter.1 h).1
end Go.Proofs.YtalgilgfoekioaaGreatDoor
/- The reference's search for all solutions: its state, and one node. -/
namespace Go.Proofs.YtalgilgfoekioaaGreatDoor
open Go.RowKit

theorem AppI.rowW {w0 w : World} {v : Value} {xs : List Int} (h : AppI w0.heap.size w v xs) (hx : Ext w0 w) (hb : xs.length * 8 ≤ 140737488355328) (hp : 0 < xs.length) : ∃ b c, v = .slice (some ⟨b, 0, none⟩) xs.length c ∧ RowW w v xs ∧ w0.heap.size ≤ b ∧ b < w.heap.size := by
  obtain ⟨A, c, b, m, f, h1, h2, h3, h4, h5, h6⟩ := h.res hx hb
  injection h1 with h1
  subst h1
  obtain ⟨rfl, hr⟩ := RowW.own h2 h5 hp
  exact ⟨b, c, rfl, hr, h4, (h5 hp).2.1.lt⟩
theorem AppRS.one {S : Nat → Prop} {w : World} {v : Value} {rs : List (List Int)} (h : AppRS S w v rs) : v.oneCell' = true := by
  obtain ⟨A, c, rfl, -⟩ := h.form
  rfl
/-- Where the finder's lists may lie. -/
def fnS (B bs : Nat) (k : Nat) : Prop := B ≤ k ∧ k ≠ bs
/-- The finder at block bs. -/
structure Fnd (ve vc : Value) (lim B bs : Nat) (fv : Value) (fs : List (List Int)) (W : World) : Prop where
  c0 : W.cell? ⟨bs, 0, none⟩ = some ve
  c1 : W.cell? ⟨bs, 1, none⟩ = some vc
  c2 : W.cell? ⟨bs, 2, none⟩ = some (.int .i64 lim)
  c3 : ∃ n, W.cell? ⟨bs, 3, none⟩ = some (.int .i64 n)
  c4 : W.cell? ⟨bs, 4, none⟩ = some fv
  z3 : W.frozen? ⟨bs, 3, none⟩ = false
  z4 : W.frozen? ⟨bs, 4, none⟩ = false
  app : AppRS (fnS B bs) W fv fs
  lt : bs < W.heap.size
theorem Fnd.ext {ve vc fv : Value} {lim B bs : Nat} {fs : List (List Int)} {W W' : World} (h : Fnd ve vc lim B bs fv fs W) (hx : Ext W W') : Fnd ve vc lim B bs fv fs W' := by
  obtain ⟨n, h3⟩ := h.c3
  exact ⟨(hx.cells _ _ h.lt).trans h.c0, (hx.cells _ _ h.lt).trans h.c1, (hx.cells _ _ h.lt).trans h.c2, ⟨n, (hx.cells _ _ h.lt).trans h3⟩, (hx.cells _ _ h.lt).trans h.c4, (hx.frz _ _ h.lt).trans h.z3, (hx.frz _ _ h.lt).trans h.z4, h.app.ext hx, Nat.lt_of_lt_of_le h.lt hx.size⟩
theorem Fnd.ne {ve vc fv : Value} {lim B bs : Nat} {fs : List (List Int)} {W : World} (h : Fnd ve vc lim B bs fv fs W) : fv.ownBlock ≠ some bs := fun e => by
  obtain ⟨cells, -, hv, -⟩ := h.app
  exact (hv bs e).2 rfl
theorem Fnd.blk {ve vc fv : Value} {lim B bs : Nat} {fs : List (List Int)} {W : World} (h : Fnd ve vc lim B bs fv fs W) : ∀ g, fv.ownBlock = some g → B ≤ g ∧ g < W.heap.size := fun g hg => by
  obtain ⟨cells, h1, hv, -⟩ := h.app
  exact ⟨(hv g hg).1, (World.ownsRow.lt h1 g hg).2⟩
/-- One node more. -/
theorem Fnd.node {ve vc fv : Value} {lim B bs : Nat} {fs : List (List Int)} {W : World} (h : Fnd ve vc lim B bs fv fs W) (n : Int) : Fnd ve vc lim B bs fv fs (W.setCell ⟨bs, 3, none⟩ (.int .i64 n)) := by
  obtain ⟨n0, h3⟩ := h.c3
  have co : ∀ k, k ≠ 3 → (W.setCell ⟨bs, 3, none⟩ (.int .i64 n)).cell? ⟨bs, k, none⟩ = W.cell? ⟨bs, k, none⟩ := fun k hk => World.cell?_setCell_other _ _ _ _ (by intro e; injection e with _ e; omega)
  exact ⟨(co 0 (by omega)).trans h.c0, (co 1 (by omega)).trans h.c1, (co 2 (by omega)).trans h.c2, ⟨n, World.cell?_setCell_same' _ _ _ (by rw [h3]; rfl)⟩, (co 4 (by omega)).trans h.c4,
    (World.frozen?_setCell ..).trans h.z3, (World.frozen?_setCell ..).trans h.z4, h.app.keep ((Keep.refl (fun k => k ≠ bs) W).set (fun _ hh => hh rfl) _) (fun _ hk => hk.2), by simpa [World.setCell] using h.lt⟩
/-- How a branch ends. -/
def BrEnd (ve vc : Value) (lim B bs : Nat) (fv : Value) (fs : List (List Int)) (W : World) (e : Ending) (W' : World) : Prop :=
  e = .returned (.tuple #[]) ∧ ∃ fv', Fnd ve vc lim B bs fv' fs W' ∧ Keep (fun k => k ≠ bs ∧ fv.ownBlock ≠ some k) W W' ∧ ∀ g, fv'.ownBlock = some g → fv.ownBlock = some g ∨ W.heap.size ≤ g
theorem BrEnd.same {ve vc fv : Value} {lim B bs : Nat} {fs : List (List Int)} {W W' : World} (h : Fnd ve vc lim B bs fv fs W') (hk : Keep (fun k => k ≠ bs) W W') : BrEnd ve vc lim B bs fv fs W (.returned (.tuple #[])) W' :=
  ⟨rfl, fv, h, hk.mono fun _ _ hh => hh.1, fun _ hg => .inl hg⟩
/-- One list more. -/
theorem Fnd.push {ve vc fv fv' : Value} {lim B bs : Nat} {fs : List (List Int)} {x : List Int} {W W2 W3 : World} (h : Fnd ve vc lim B bs fv fs W2) (hk : Keep (fun k => k ≠ bs) W W2)
    (ha : AppRS (fnS B bs) W3 fv' (fs ++ [x])) (hg : W2.grownBy W3 fv.ownBlock) (ho : ∀ g, fv'.ownBlock = some g → fv.ownBlock = some g ∨ W2.heap.size ≤ g) :
    BrEnd ve vc lim B bs fv (fs ++ [x]) W (.returned (.tuple #[])) (W3.setCell ⟨bs, 4, none⟩ fv') := by
  obtain ⟨n0, h3⟩ := h.c3
  have hK := Keep.of_grown hg
  have hS : fv.ownBlock ≠ some bs := h.ne
  have hlt := h.lt
  have c : ∀ k, W3.cell? ⟨bs, k, none⟩ = W2.cell? ⟨bs, k, none⟩ := fun k => hK.cell (p := ⟨bs, k, none⟩) hlt hS
  have f : ∀ k, W3.frozen? ⟨bs, k, none⟩ = W2.frozen? ⟨bs, k, none⟩ := fun k => hK.frz (p := ⟨bs, k, none⟩) hlt hS
  have co : ∀ k, k ≠ 4 → (W3.setCell ⟨bs, 4, none⟩ fv').cell? ⟨bs, k, none⟩ = W2.cell? ⟨bs, k, none⟩ := fun k hk => (World.cell?_setCell_other _ _ _ _ (by intro e; injection e with _ e; omega)).trans (c k)
  refine ⟨rfl, fv', ⟨(co 0 (by omega)).trans h.c0, (co 1 (by omega)).trans h.c1, (co 2 (by omega)).trans h.c2, ⟨n0, (co 3 (by omega)).trans h3⟩, World.cell?_setCell_same' _ _ _ (by rw [c 4, h.c4]; rfl),
    (World.frozen?_setCell ..).trans ((f 3).trans h.z3), (World.frozen?_setCell ..).trans ((f 4).trans h.z4), ha.keep ((Keep.refl (fun k => k ≠ bs) W3).set (fun _ hh => hh rfl) _) (fun k hk => hk.2), ?_⟩, ?_, ?_⟩
  · have := hK.size; simp [World.setCell]; omega
  · exact ((hk.mono fun _ _ hh => hh.1).then hK (fun _ _ hh => hh.2)).set (fun _ hh => hh.1 rfl) _
  · intro g hg'
    have := hk.size
    exact (ho g hg').imp id (fun h => by omega)
/-- The first k values of the split domain. -/
def partS (cs : List Con) (d : List Int) (i : Nat) (k : Nat) : List (List Int) := ((domL (at0 d i)).take k).flatMap fun v => solL cs (d.set i (2 ^ v.toNat))
theorem partS_succ (cs : List Con) (d : List Int) (i : Nat) {k : Nat} (hk : k < (domL (at0 d i)).length) : partS cs d i (k + 1) = partS cs d i k ++ solL cs (d.set i (2 ^ (at0 (domL (at0 d i)) k).toNat)) := by
  unfold partS
  rw [List.take_add_one, List.flatMap_append]
  generalize hL : domL (at0 d i) = L at hk
  simp [at0, List.getElem?_eq_getElem hk]
theorem take_more {α : Type} (A B : List α) {l : Nat} (h : ¬ (A.take l).length < l) : (A ++ B).take l = A.take l := by
  rw [List.length_take] at h
  rw [List.take_append_of_le_length (by omega)]
theorem take_some {α : Type} (A : List α) {l : Nat} (h : (A.take l).length < l) : A.take l = A := by
  rw [List.length_take] at h
  exact List.take_of_length_le (by omega)
theorem partS_rest (cs : List Con) {d : List Int} {i : Nat} (hi : i < d.length) (h : ∀ j, j < i → (domL (at0 d j)).length = 1) (k : Nat) : ∃ r, solL cs d = partS cs d i k ++ r := by
  refine ⟨((domL (at0 d i)).drop k).flatMap fun v => solL cs (d.set i (2 ^ v.toNat)), ?_⟩
  rw [sol_split hi h, partS, ← List.flatMap_append, List.take_append_drop]
theorem partS_all (cs : List Con) {d : List Int} {i : Nat} (hi : i < d.length) (h : ∀ j, j < i → (domL (at0 d j)).length = 1) : partS cs d i (domL (at0 d i)).length = solL cs d := by
  rw [sol_split hi h, partS, List.take_length]
theorem map_take_succ (d : List Int) (g : Int → Int) {t : Nat} (ht : t < d.length) : (d.map g).take (t + 1) = (d.map g).take t ++ [g (at0 d t)] := by
  rw [List.take_add_one]
  simp [at0, List.getElem?_eq_getElem ht]
theorem map_I64 {d : List Int} (h1 : ∀ i, i < d.length → (domL (at0 d i)).length = 1) : ∀ i, i < (d.map fun e => at0 (domL e) 0).length → I64 (at0 (d.map fun e => at0 (domL e) 0) i) := fun i hi => by
  rw [List.length_map] at hi
  have e : at0 (d.map fun e => at0 (domL e) 0) i = at0 (domL (at0 d i)) 0 := by simp [at0, List.getElem?_eq_getElem hi]
  rw [e]
  have := domL_bd (at0 d i) (i := 0) (by rw [h1 i hi]; omega)
  unfold I64; omega
/-- One domain becomes a single value. -/
theorem child_ok {cs : List Con} {n : Nat} {d : List Int} (h : GoodD cs n d) {i : Nat} (hi : i < d.length) (hl : (domL (at0 d i)).length ≠ 1) {k : Nat} (hk : k < (domL (at0 d i)).length) {a : Nat} (ha : at0 (domL (at0 d i)) k = a) (h6 : a < 6) :
    GoodD cs n (d.set i (2 ^ a)) ∧ sumL (d.set i (2 ^ a)) < sumL d := by
  have hb := pow_bd h6
  have hd := h.2.1 i hi
  have hh := domL_at (at0 d i) hk
  rw [ha, Int.toNat_natCast] at hh
  have := pow_lt_dom hd.1 hd.2 hl h6 hh
  exact ⟨h.set i ⟨by omega, by omega⟩, by rw [sum_set d i _ hi]; omega⟩
end Go.Proofs.YtalgilgfoekioaaGreatDoor
/- The reference's list of all solutions, and IsNogood. -/
namespace Go.Proofs.YtalgilgfoekioaaGreatDoor
open Go.RowKit

/-- The solutions as rows. -/
theorem sol_rows {S : Nat → Prop} {w : World} {v : Value} {cs : List Con} {D : List Int} {lim : Nat} (h : AppRS S w v ((solL cs D).take lim)) (h4 : D.length ≤ 4) : SRows w v ((solL cs D).take lim) := by
  have hl := solL_small (cs := cs) h4
  have hll : ((solL cs D).take lim).length ≤ 1296 := by rw [List.length_take]; omega
  have hm : ∀ i, i < ((solL cs D).take lim).length → (rw0 ((solL cs D).take lim) i).length = D.length ∧ ValL (rw0 ((solL cs D).take lim) i) := fun i hi => by
    have h1 : rw0 ((solL cs D).take lim) i ∈ (solL cs D).take lim := by rw [rw0, getD_lt _ _ hi]; exact List.getElem_mem hi
    exact solL_mem (List.mem_of_mem_take h1)
  exact h.rows (by omega) (fun i hi => by rw [(hm i hi).1]; omega) (fun i hi j hj => by have := (hm i hi).2 j hj; unfold I64; omega)
end Go.Proofs.YtalgilgfoekioaaGreatDoor
/- The program's list of all solutions, and IsNogood. Printed by gensolj.py. -/
namespace Go.Proofs.YtalgilgfoekioaaGreatDoor
open Go.RowKit Go.Shelf
attribute [local go_sem] Oper.semAt_some

/-- The blocks in which the list may lie. -/
def solS (B z : Nat) (k : Nat) : Prop := ((k < z ∨ z + 6 ≤ k) ∧ B ≤ k) ∧ k ≠ B + 1
/-- What holds between two rounds. -/
structure solI (p : List Int → Bool) (B : Nat) (w1 : World) (z : Nat) (pre : List (List Int)) (own : Nat → Prop) (W : World) : Prop where
  box : ∃ lv, W.cell? ⟨B + 1, 0, none⟩ = some lv ∧ AppRS (solS B z) W lv (pre.filter (p)) ∧ ∀ g, lv.ownBlock = some g → own g
  frz : W.frozen? ⟨B + 1, 0, none⟩ = false
  ownb : own (B + 1)
  ext : Ext w1 W
  own : ∀ k, own k → k < W.heap.size ∧ w1.heap.size ≤ k
theorem solI_stays {p : List Int → Bool} {B : Nat} {w1 : World} {z : Nat} (hz : B + 1 < z ∧ w1.heap.size ≤ z) : Stays z 6 (solI p B w1 z) := by
  intro s own W1 W2 h hk
  obtain ⟨lv, h1, h2, h3⟩ := h.box
  have hb : B + 1 < W1.heap.size := (h.own _ h.ownb).1
  refine ⟨⟨lv, (hk.cell (p := ⟨B + 1, 0, none⟩) hb (.inl hz.1)).trans h1, h2.keep hk (fun _ h => h.1.1), h3⟩, (hk.frz (p := ⟨B + 1, 0, none⟩) hb (.inl hz.1)).trans h.frz, h.ownb, ?_, fun k hk' => ⟨Nat.lt_of_lt_of_le (h.own k hk').1 hk.size, (h.own k hk').2⟩⟩
  exact Below.trans h.ext (hk.below h.ext.size (fun k hk' => .inl (by omega)))
theorem solI.no {p : List Int → Bool} {B : Nat} {w1 : World} {z : Nat} {pre : List (List Int)} {x : List Int} {own : Nat → Prop} {W W' : World} (h : solI p B w1 z pre own W) (hx : Ext W W') (hf : p x = false) : solI p B w1 z (pre ++ [x]) own W' := by
  obtain ⟨lv, h1, h2, h3⟩ := h.box
  have hb : B + 1 < W.heap.size := (h.own _ h.ownb).1
  refine ⟨⟨lv, (hx.cells _ _ hb).trans h1, ?_, h3⟩, (hx.frz _ _ hb).trans h.frz, h.ownb, h.ext.trans hx, fun k hk' => ⟨Nat.lt_of_lt_of_le (h.own k hk').1 hx.size, (h.own k hk').2⟩⟩
  rw [List.filter_append]
  simpa [hf] using h2.ext hx
theorem AppRS.blkW {S : Nat → Prop} {w : World} {v : Value} {rs : List (List Int)} (h : AppRS S w v rs) : ∀ g, v.ownBlock = some g → S g ∧ g < w.heap.size := by
  obtain ⟨cells, h1, hv, -⟩ := h
  exact fun g hg => ⟨hv g hg, (World.ownsRow.lt h1 g hg).2⟩
theorem solI.yes {p : List Int → Bool} {B : Nat} {w1 : World} {z : Nat} {pre : List (List Int)} {x : List Int} {own : Nat → Prop} {W W2 W3 : World} {lv lv' : Value} (h : solI p B w1 z pre own W) (hx : Ext W W2) (hf : p x = true)
    (hlo : ∀ g, lv.ownBlock = some g → own g) (hnb : lv.ownBlock ≠ some (B + 1)) (ha : AppRS (solS B z) W3 lv' (pre.filter (p) ++ [x])) (hg : W2.grownBy W3 lv.ownBlock) (ho : ∀ g, lv'.ownBlock = some g → lv.ownBlock = some g ∨ W2.heap.size ≤ g)
    (hb3 : W3.cell? ⟨B + 1, 0, none⟩ = some lv) :
    ∃ own', Go.Proofs.YtalgilgfoekioaaGreatDoor.Own own own' W (W3.setCell ⟨B + 1, 0, none⟩ lv') ∧ solI p B w1 z (pre ++ [x]) own' (W3.setCell ⟨B + 1, 0, none⟩ lv') := by
  have hbo := h.own _ h.ownb
  have hs2 := hx.size
  have hs3 := hg.size
  have hss : (W3.setCell ⟨B + 1, 0, none⟩ lv').heap.size = W3.heap.size := by simp [World.setCell]
  refine ⟨fun k => own k ∨ lv'.ownBlock = some k, ⟨?_, fun k hk => hk.elim .inl fun hk => (ho k hk).elim (fun h' => .inl (hlo k h')) (fun h' => .inr (by omega))⟩, ?_, ?_, .inl h.ownb, ?_, ?_⟩
  · exact (((hx.keep _).then (Keep.of_grown hg) (fun k _ hn e => hn (hlo k e))).set (fun _ hn => hn h.ownb) _)
  · refine ⟨lv', World.cell?_setCell_same' _ _ _ (by rw [hb3]; rfl), ?_, fun g hg' => .inr hg'⟩
    rw [List.filter_append, show [x].filter (p) = [x] by simp [hf]]
    exact ha.keep ((Keep.refl (fun k => k ≠ B + 1) W3).set (fun _ hn => hn rfl) _) (fun k hk => hk.2)
  · rw [World.frozen?_setCell, World.frozen?_of_block (w := W2) (hg.block _ (by show B + 1 < _; omega) (fun e => hnb e.symm))]
    exact (hx.frz _ _ hbo.1).trans h.frz
  · exact (Below.trans (h.ext.trans hx) (⟨hg.os, hg.tape, hg.output, hg.size, fun k hk => hg.block k (by omega) (fun e => by have := (h.own k (hlo k e.symm)).2; have := h.ext.size; omega)⟩ : Below w1.heap.size W2 W3)).setCell (by show w1.heap.size ≤ B + 1; exact hbo.2) _
  · intro k hk
    rw [hss]
    rcases hk with hk | hk
    · have := h.own k hk; exact ⟨by omega, this.2⟩
    · refine ⟨(ha.blkW k hk).2, (ho k hk).elim (fun h' => (h.own k (hlo k h')).2) (fun h' => by have := h.ext.size; omega)⟩

theorem memB_sub {D q x : List Int} (h : SubD q D) (hx : x ∈ tups q) : memB D x = true := by
  refine memB_of ((tups_in D x).2 ?_)
  obtain ⟨h1, h2⟩ := (tups_in q x).1 hx
  refine ⟨h1.trans h.len, fun i hi => ?_⟩
  obtain ⟨v, a, b, c⟩ := h2 i (by rw [h.len]; exact hi)
  exact ⟨v, a, b, h.sub i (by rw [h.len]; exact hi) v a c⟩
theorem AppRS.put {S : Nat → Prop} {W : World} {v : Value} {rs : List (List Int)} (h : AppRS S W v rs) {Z : Nat} {d : Option (List Deferred)} (hd : W.heap[Z]? = some (.deferred d)) (o : Obj) : AppRS S (W.putObj Z o) v rs := by
  obtain ⟨cells, h1, hv, h2⟩ := h
  have hz : ∀ g, v.ownBlock = some g → g ≠ Z := fun g hg e => by
    rcases h1.2 with ⟨q1, -⟩ | ⟨g', cap, cur, q1, -, q2, -⟩
    · rw [q1] at hg; cases hg
    · rw [q1] at hg
      have hg : some g' = some g := hg
      have hg := Option.some.inj hg
      subst hg
      subst e
      rw [hd] at q2; cases q2
  have h3 : AppRS (fun k => k ≠ Z ∧ S k) W v rs := ⟨cells, h1, fun g hg => ⟨hz g hg, hv g hg⟩, fun i hi => by
    obtain ⟨cv, r1, r2, r3⟩ := h2 i hi
    refine ⟨cv, r1, r2, fun g hg => ⟨fun e => ?_, r3 g hg⟩⟩
    obtain ⟨g', cap, m, f, k1, -, -, k4, -⟩ := r2
    rw [k1] at hg
    have hg : some g' = some g := hg
    have hg := Option.some.inj hg
    subst hg
    subst e
    obtain ⟨cc, p1, -⟩ := k4
    rw [p1] at hd; cases hd⟩
  obtain ⟨cells', g1, g2, g3⟩ := h3.keep ((Keep.refl (fun k => k ≠ Z) W).put (l := Z) (fun _ hh => hh rfl) o) (fun _ hk => hk.1)
  exact ⟨cells', g1, fun g hg => (g2 g hg).2, fun i hi => by
    obtain ⟨cv, r1, r2, r3⟩ := g3 i hi
    exact ⟨cv, r1, r2, fun g hg => (r3 g hg).2⟩⟩
/-- How solutions ends. -/
def SolsE (rs : List (List Int)) (w : World) (e : Ending) (w' : World) : Prop := ∃ A c, e = .returned (.slice A rs.length c) ∧ AppRS (fun k => w.heap.size ≤ k) w' (.slice A rs.length c) rs ∧ Ext w w'
set_option maxRecDepth 100000 in
set_option maxHeartbeats 8000000 in
theorem solutions_any (v : Value) (D : List Int) (cs : List Con) (w : World) (hM : SMod w v D cs) (hG : GoodD cs D.length D) (h1 : 0 < D.length) (h4 : D.length ≤ 4) :
    Calls Tryz.prog 47 #[v] w (SolsE (solL cs D) w) := by
  have hM0 := hide hM
  have HG := hide hG
  obtain ⟨ve, vc, rfl, hD, hC⟩ := hM
  have hD0 := hide hD
  obtain ⟨Ad, cd, rfl, -, hld⟩ := hD.form
  obtain ⟨Ac, cc, rfl, -, hlc⟩ := hC.form
  obtain ⟨w0, hw0⟩ : ∃ w0, w0 = w.alloc (.cells #[.slice Ad D.length cd, .slice Ac cs.length cc] 26) := ⟨_, rfl⟩
  have HX0 := hide (show Ext w w0 by rw [hw0]; exact (Ext.refl w).alloc _)
  have k0 : w0.cell? ⟨w.heap.size, 0, none⟩ = some (.slice Ad D.length cd) := by rw [hw0]; go_simp
  have k1 : w0.cell? ⟨w.heap.size, 1, none⟩ = some (.slice Ac cs.length cc) := by rw [hw0]; go_simp
  have ks : w.heap.size < w0.heap.size := by rw [hw0]; simp
  have hz0 : w0.heap.size = w.heap.size + 1 := by rw [hw0]; simp
  have HZ0 := hide hz0
  have HW0 := hide hw0
  have K0 := hide k0
  have K1 := hide k1
  have HPR := hide (propL_R hG h4)
  have HSOL := hide (solL_prop hG h4)
  clear hD hC hG hw0 k0 k1 hz0
  refine calls_marks Tryz.func47 rfl ?_
  simp only [Tryz.ntmps47, List.size_toArray, List.length_cons, List.length_nil, Nat.reduceAdd, Nat.reduceSub, Array.replicate_succ, Array.replicate_zero, List.push_toArray, List.append_toArray, List.nil_append, List.cons_append]
  go_wp2_with fail
  rw [← HW0.out, ← HZ0.out]
  have hxa := ((Ext.refl w0).alloc (.cells #[] 23)).alloc (.cells #[.slice (some ⟨w0.heap.size, 0, none⟩) 0 0] 58)
  refine (propagate_any _ _ D D cs _ (hM0.out.ext (HX0.out.trans hxa)) (hD0.out.ext (HX0.out.trans hxa)) HG.out h4 h1).mono ?_
  rintro e w2 ⟨As, cs', bs, ms, fs, rfl, hcs, hds, hbs, hos, hx2⟩
  obtain ⟨q, hq⟩ : ∃ q, q = propL cs D := ⟨_, rfl⟩
  rw [← hq] at HPR HSOL hcs hds hos ⊢
  have hql : q.length = D.length := HPR.out.good.1
  obtain ⟨rfl, hr2, hm2, hf2⟩ := hos (by omega)
  have hS2 := hide (SInts.own hcs hds (fun _ => ⟨rfl, hr2, hm2, hf2⟩) HPR.out.good.i64)
  have HSL := hide hql
  have hsl : 0 < q.length := by omega
  have hsl4 : q.length ≤ 100 := by omega
  have HDR := hide (show ∀ i, i < q.length → 0 ≤ at0 q i ∧ at0 q i ≤ 9223372036854775807 from fun i hi => by have := HPR.out.good.2.1 i hi; omega)
  clear hql hq
  go_wp2_with fail
  refine (tuples_any _ _ _ _).mono ?_
  rintro e w3 ⟨rfl, rfl⟩
  go_wp2_with fail
  have hz2 : w0.heap.size + 2 ≤ w2.heap.size := by have := hx2.size; simpa using this
  have hbs' : w0.heap.size + 2 ≤ bs := by simpa using hbs
  have hx12 := hxa.trans hx2
  have hx13 := hide (hx12.trans ((Ext.refl w2).alloc (.cells #[.slice (some ⟨bs, 0, none⟩) q.length cs'] 23)))
  have b0 : w2.cell? ⟨w0.heap.size + 1, 0, none⟩ = some (.slice (some ⟨w0.heap.size, 0, none⟩) 0 0) := (hx2.cells _ _ (by simp)).trans (by go_simp)
  have z0 : w2.frozen? ⟨w0.heap.size + 1, 0, none⟩ = false := (hx2.frz _ _ (by simp)).trans (by go_simp)
  have ha0 : AppRS (solS w0.heap.size (w2.heap.size + 1)) w2 (.slice (some ⟨w0.heap.size, 0, none⟩) 0 0) [] := ((AppRS.empty _ w0 rfl ⟨⟨by omega, by omega⟩, by omega⟩).ext ((Ext.refl _).alloc _)).ext hx2
  have HA0 := hide ha0
  clear ha0 hx12 hxa hx2 hr2 hf2
  have hstay : Stays (w2.alloc (.cells #[.slice (some ⟨bs, 0, none⟩) q.length cs'] 23)).heap.size 6 (solI (okAll cs) w0.heap.size w0 (w2.heap.size + 1)) := by rw [World.size_alloc]; exact solI_stays (by omega)
  refine wpIn_wide.1 (wpIn_tups (n := 3) (F := Fence.wide) rfl (by omega) (gf := 95) (lb := #[.pointer (some ⟨w2.heap.size, 0, none⟩)]) rfl trivial (enters_of Tryz.func95 (by kernel_rfl) rfl)
    (tuples_at 2 bs 0 cs' q w2 hsl hsl4 HDR.out hS2.out) (Ext.refl _) rfl
    (solI (okAll cs) w0.heap.size w0 (w2.heap.size + 1)) (fun _ _ _ _ => False) hstay (fun _ _ _ _ _ h _ => h) (fun _ _ _ h => fun k hk => (h.own k hk).1)
    (fun k => k = w0.heap.size ∨ k = w0.heap.size + 1) (fun k h h' => by have h1 : k = w2.heap.size ∨ k = bs := h; have h2 : k = w0.heap.size ∨ k = w0.heap.size + 1 := h'; omega) (fun k h => by have h2 : k = w0.heap.size ∨ k = w0.heap.size + 1 := h; rw [World.size_alloc]; omega) ?start (fun v => { tmps := #[.agg #[.slice Ad D.length cd, .slice Ac cs.length cc], .pointer (some ⟨w.heap.size, 0, none⟩), .slice none 0 0, .pointer (some ⟨w0.heap.size + 1, 0, none⟩), v, .slice (some ⟨w0.heap.size, 0, none⟩) 0 0, .agg #[.slice Ad D.length cd, .slice Ac cs.length cc], .pointer (some ⟨w.heap.size, 0, none⟩), .slice Ad D.length cd, .slice (some ⟨bs, 0, none⟩) q.length cs', .func (.func 95) #[] #[.pointer (some ⟨w2.heap.size, 0, none⟩)], v, undef, undef, undef, undef, undef, undef, undef, undef, undef], defers := [] }) ?assign ?body ?done ?stop)
  case start =>
    exact ⟨⟨_, (((Ext.refl w2).alloc _).cells _ _ (by omega)).trans b0, HA0.out.ext ((Ext.refl w2).alloc _), fun g hg => .inl (Option.some.inj hg).symm⟩, (((Ext.refl w2).alloc _).frz _ _ (by omega)).trans z0, .inr rfl, hx13.out,
      fun k hk => by have h2 : k = w0.heap.size ∨ k = w0.heap.size + 1 := hk; rw [World.size_alloc]; omega⟩
  case assign =>
    intro l x W K hK
    gi_wp2
    exact hK
  case body =>
    intro l pre x b own W hI hpre ht hz
    have HI := hide hI
    have HPRE := hide hpre
    have HTA := hide ht
    have g0 := (hI.ext.cells _ _ ks).trans K0.out
    have g1 := (hI.ext.cells _ _ ks).trans K1.out
    have hbW0 := Nat.lt_of_lt_of_le ks hI.ext.size
    have hxmem : x ∈ tups q := hpre.subset (by simp)
    obtain ⟨hxl, hxv⟩ := tups_val hxmem
    have HXL := hide (show x.length = D.length by rw [hxl, HSL.out])
    have HXV := hide hxv
    have HMB := hide (memB_sub HPR.out.sub hxmem)
    have hMW := hide (hM0.out.ext (HX0.out.trans hI.ext))
    have hXW := hide ht.1
    have HWZ := hide hI.ext.size
    clear hI hpre ht hxmem b0 z0 hxl hxv
    gi_wp2_with fail
    refine ⟨trivial, ?_⟩
    refine (CallsIn.inRound l (callsIn_wide.2 (isSolution_any _ _ x D cs W hMW.out hXW.out HG.out HXL.out h4 HXV.out))).mono ?_
    rintro e W1 ⟨rfl, hxw⟩
    rw [HMB.out, Bool.true_and]
    have HXW := hide hxw
    clear hxw g0 g1
    cases hfe : okAll cs x with
    | true =>
      have HFE := hide hfe
      clear hfe
      obtain ⟨lv, q1, q2, q3⟩ := HI.out.box
      have hbb : w0.heap.size + 1 < W.heap.size := (HI.out.own _ HI.out.ownb).1
      have c0 := (HXW.out.cells _ _ hbb).trans q1
      have z0 := (HXW.out.frz _ _ hbb).trans HI.out.frz
      have Q2 := hide (q2.ext HXW.out)
      have Q3 := hide q3
      have QN := hide (show lv.ownBlock ≠ some (w0.heap.size + 1) from fun e => (q2.blkW _ e).1.2 rfl)
      have hbbW := Nat.lt_of_lt_of_le hbb HXW.out.size
      have HTL := hide HTA.out.2.2.2
      have HZ7 := hide (show w2.heap.size + 1 + 6 ≤ W.heap.size by rw [World.size_alloc] at hz; exact hz)
      have HLEN := hide (show (pre.filter (okAll cs)).length ≤ 10000 from Nat.le_trans (List.length_filter_le _ _) (by
        have := HPRE.out.length_le
        have h2 := tups_smallW (q)
        have h3 := HSL.out
        have h4 : 6 ^ (q).length ≤ 6 ^ 4 := Nat.pow_le_pow_right (by omega) (by omega)
        simp at this
        omega))
      obtain ⟨Alv, clv, hlv, -⟩ := q2.form
      subst hlv
      clear q1 q2 q3
      gi_wp2
      refine wpIn_region_any (by kernel_rfl) (any_round (by kernel_rfl) (by rintro ⟨a, w, h⟩; exact h) _ _ _ _ ?_)
      change wpAny _ _ _ _ _ _ _ (World.drew _)
      refine wpAny_take (i := 1) (v := ?_) rfl (by kernel_rfl) (by kernel_rfl) (by kernel_rfl) (fun _ _ _ h => h) (Or.inl ⟨by rfl, ?hy⟩) ?_
      case hy => intro w; go_simp; with_reducible rfl
      refine wpAny_ready (rs := [0, 2]) (by kernel_rfl) (by simp) ?_
      refine AllReady.cons rfl (fun K hK => ?_) (AllReady.cons rfl (fun K hK => ?_) AllReady.nil)
      · go_simp
        refine hK _ _ ?_; clear hK K
        refine wpAny_ready (rs := [2]) (by kernel_rfl) (by simp) ?_
        refine AllReady.cons rfl (fun K hK => ?_) AllReady.nil
        go_simp
        go_at_call 64
        refine (copied_any _ x _ (hXW.out.ext (HXW.out.trans ((Ext.refl W1).drew)))).mono ?_
        rintro e W2 ⟨A5, c5, b5, m5, f5, rfl, hc5, -, hb5, ho5, hx5⟩
        obtain ⟨rfl, hw5⟩ := RowW.own hc5 ho5 HTL.out
        have HW5 := hide hw5
        have HX5 := hide (((Ext.refl W1).drew).trans hx5)
        have c5' := (HX5.out.cells _ _ hbbW).trans c0
        have z5' := (HX5.out.frz _ _ hbbW).trans z0
        have hbb5 := Nat.lt_of_lt_of_le hbbW HX5.out.size
        have HB5 := hide hb5
        clear ho5 hw5 hx5 hc5 hb5
        refine hK _ _ ?_; clear hK K
        refine wpAny_ready (rs := [3]) (by kernel_rfl) (by simp) ?_
        refine AllReady.cons rfl (fun K hK => ?_) AllReady.nil
        go_simp
        refine hK _ _ ?_; clear hK K
        refine wpAny_ready (rs := [4]) (by kernel_rfl) (by simp) ?_
        refine AllReady.cons rfl (fun K hK => ?_) AllReady.nil
        refine step_appRS _ rfl _ _ rfl (solS w0.heap.size (w2.heap.size + 1)) (.slice Alv (pre.filter (okAll cs)).length clv) (pre.filter (okAll cs)) x (.slice (some ⟨b5, 0, none⟩) x.length c5) W2.heap.size 1 rfl rfl ((Q2.out.ext HX5.out).ext ((Ext.refl _).alloc _)) (by go_simp) ?_ ?_ ?_ ?_ ?_
        · obtain ⟨g, cap, m, f, e1, e2, e3, e4, e5⟩ := HW5.out
          exact ⟨g, cap, m, f, e1, e2, e3, ((Ext.refl W2).alloc _).row e4, e5⟩
        · intro g hg; have hg1 : some b5 = some g := hg; have hg2 := Option.some.inj hg1; subst hg2; have h5 : W1.heap.size ≤ b5 := HB5.out; have h6 := HXW.out.size; have h7 := HZ7.out; exact ⟨⟨Or.inr (by omega), by have := HWZ.out; omega⟩, by omega⟩
        · have := HLEN.out; omega
        · intro k hk; rw [World.size_alloc] at hk; have h5 := HX5.out.size; have h6 := HXW.out.size; have h7 := HZ7.out; exact ⟨⟨Or.inr (by omega), by have := HWZ.out; omega⟩, by omega⟩
        intro lv' W3 hA3 hg3 ho3
        have c3 : W3.cell? ⟨w0.heap.size + 1, 0, none⟩ = some (.slice Alv (pre.filter (okAll cs)).length clv) := (World.cell?_of_block (w := W2.alloc (.cells #[.slice (some ⟨b5, 0, none⟩) x.length c5] 23)) (hg3.block _ (by simp; omega) (fun e => QN.out e.symm))).trans (((((Ext.refl W2).alloc _).cells _ _ hbb5)).trans c5')
        have z3 : W3.frozen? ⟨w0.heap.size + 1, 0, none⟩ = false := (World.frozen?_of_block (w := W2.alloc (.cells #[.slice (some ⟨b5, 0, none⟩) x.length c5] 23)) (hg3.block _ (by simp; omega) (fun e => QN.out e.symm))).trans (((((Ext.refl W2).alloc _).frz _ _ hbb5)).trans z5')
        have HYES := hide (HI.out.yes (lv' := lv') (HXW.out.trans (HX5.out.trans ((Ext.refl W2).alloc _))) HFE.out Q3.out QN.out hA3 hg3 ho3 c3)
        obtain ⟨Av', cv', hvv, -⟩ := hA3.form
        rw [show (pre.filter (okAll cs) ++ [x]).length = (pre.filter (okAll cs)).length + 1 by simp] at hvv
        subst hvv
        clear hA3 hg3 ho3
        refine hK _ _ ?_; clear hK K
        refine wpAny_ready (rs := [5]) (by kernel_rfl) (by simp) ?_
        refine AllReady.cons rfl (fun K hK => ?_) AllReady.nil
        go_simp
        refine hK _ _ ?_; clear hK K
        refine wpAny_done (by kernel_rfl) ?_ _
        gi_wp2
        exact HYES.out
      · go_simp
        go_at_call 64
        refine (copied_any _ x _ (hXW.out.ext (HXW.out.trans ((Ext.refl W1).drew)))).mono ?_
        rintro e W2 ⟨A5, c5, b5, m5, f5, rfl, hc5, -, hb5, ho5, hx5⟩
        obtain ⟨rfl, hw5⟩ := RowW.own hc5 ho5 HTL.out
        have HW5 := hide hw5
        have HX5 := hide (((Ext.refl W1).drew).trans hx5)
        have c5' := (HX5.out.cells _ _ hbbW).trans c0
        have z5' := (HX5.out.frz _ _ hbbW).trans z0
        have hbb5 := Nat.lt_of_lt_of_le hbbW HX5.out.size
        have HB5 := hide hb5
        clear ho5 hw5 hx5 hc5 hb5
        refine hK _ _ ?_; clear hK K
        refine wpAny_ready (rs := [0, 3]) (by kernel_rfl) (by simp) ?_
        refine AllReady.cons rfl (fun K hK => ?_) (AllReady.cons rfl (fun K hK => ?_) AllReady.nil)
        · go_simp
          refine hK _ _ ?_; clear hK K
          refine wpAny_ready (rs := [3]) (by kernel_rfl) (by simp) ?_
          refine AllReady.cons rfl (fun K hK => ?_) AllReady.nil
          go_simp
          refine hK _ _ ?_; clear hK K
          refine wpAny_ready (rs := [4]) (by kernel_rfl) (by simp) ?_
          refine AllReady.cons rfl (fun K hK => ?_) AllReady.nil
          refine step_appRS _ rfl _ _ rfl (solS w0.heap.size (w2.heap.size + 1)) (.slice Alv (pre.filter (okAll cs)).length clv) (pre.filter (okAll cs)) x (.slice (some ⟨b5, 0, none⟩) x.length c5) W2.heap.size 1 rfl rfl ((Q2.out.ext HX5.out).ext ((Ext.refl _).alloc _)) (by go_simp) ?_ ?_ ?_ ?_ ?_
          · obtain ⟨g, cap, m, f, e1, e2, e3, e4, e5⟩ := HW5.out
            exact ⟨g, cap, m, f, e1, e2, e3, ((Ext.refl W2).alloc _).row e4, e5⟩
          · intro g hg; have hg1 : some b5 = some g := hg; have hg2 := Option.some.inj hg1; subst hg2; have h5 : W1.heap.size ≤ b5 := HB5.out; have h6 := HXW.out.size; have h7 := HZ7.out; exact ⟨⟨Or.inr (by omega), by have := HWZ.out; omega⟩, by omega⟩
          · have := HLEN.out; omega
          · intro k hk; rw [World.size_alloc] at hk; have h5 := HX5.out.size; have h6 := HXW.out.size; have h7 := HZ7.out; exact ⟨⟨Or.inr (by omega), by have := HWZ.out; omega⟩, by omega⟩
          intro lv' W3 hA3 hg3 ho3
          have c3 : W3.cell? ⟨w0.heap.size + 1, 0, none⟩ = some (.slice Alv (pre.filter (okAll cs)).length clv) := (World.cell?_of_block (w := W2.alloc (.cells #[.slice (some ⟨b5, 0, none⟩) x.length c5] 23)) (hg3.block _ (by simp; omega) (fun e => QN.out e.symm))).trans (((((Ext.refl W2).alloc _).cells _ _ hbb5)).trans c5')
          have z3 : W3.frozen? ⟨w0.heap.size + 1, 0, none⟩ = false := (World.frozen?_of_block (w := W2.alloc (.cells #[.slice (some ⟨b5, 0, none⟩) x.length c5] 23)) (hg3.block _ (by simp; omega) (fun e => QN.out e.symm))).trans (((((Ext.refl W2).alloc _).frz _ _ hbb5)).trans z5')
          have HYES := hide (HI.out.yes (lv' := lv') (HXW.out.trans (HX5.out.trans ((Ext.refl W2).alloc _))) HFE.out Q3.out QN.out hA3 hg3 ho3 c3)
          obtain ⟨Av', cv', hvv, -⟩ := hA3.form
          rw [show (pre.filter (okAll cs) ++ [x]).length = (pre.filter (okAll cs)).length + 1 by simp] at hvv
          subst hvv
          clear hA3 hg3 ho3
          refine hK _ _ ?_; clear hK K
          refine wpAny_ready (rs := [5]) (by kernel_rfl) (by simp) ?_
          refine AllReady.cons rfl (fun K hK => ?_) AllReady.nil
          go_simp
          refine hK _ _ ?_; clear hK K
          refine wpAny_done (by kernel_rfl) ?_ _
          gi_wp2
          exact HYES.out
        · go_simp
          refine hK _ _ ?_; clear hK K
          refine wpAny_ready (rs := [0]) (by kernel_rfl) (by simp) ?_
          refine AllReady.cons rfl (fun K hK => ?_) AllReady.nil
          go_simp
          refine hK _ _ ?_; clear hK K
          refine wpAny_ready (rs := [4]) (by kernel_rfl) (by simp) ?_
          refine AllReady.cons rfl (fun K hK => ?_) AllReady.nil
          refine step_appRS _ rfl _ _ rfl (solS w0.heap.size (w2.heap.size + 1)) (.slice Alv (pre.filter (okAll cs)).length clv) (pre.filter (okAll cs)) x (.slice (some ⟨b5, 0, none⟩) x.length c5) W2.heap.size 1 rfl rfl ((Q2.out.ext HX5.out).ext ((Ext.refl _).alloc _)) (by go_simp) ?_ ?_ ?_ ?_ ?_
          · obtain ⟨g, cap, m, f, e1, e2, e3, e4, e5⟩ := HW5.out
            exact ⟨g, cap, m, f, e1, e2, e3, ((Ext.refl W2).alloc _).row e4, e5⟩
          · intro g hg; have hg1 : some b5 = some g := hg; have hg2 := Option.some.inj hg1; subst hg2; have h5 : W1.heap.size ≤ b5 := HB5.out; have h6 := HXW.out.size; have h7 := HZ7.out; exact ⟨⟨Or.inr (by omega), by have := HWZ.out; omega⟩, by omega⟩
          · have := HLEN.out; omega
          · intro k hk; rw [World.size_alloc] at hk; have h5 := HX5.out.size; have h6 := HXW.out.size; have h7 := HZ7.out; exact ⟨⟨Or.inr (by omega), by have := HWZ.out; omega⟩, by omega⟩
          intro lv' W3 hA3 hg3 ho3
          have c3 : W3.cell? ⟨w0.heap.size + 1, 0, none⟩ = some (.slice Alv (pre.filter (okAll cs)).length clv) := (World.cell?_of_block (w := W2.alloc (.cells #[.slice (some ⟨b5, 0, none⟩) x.length c5] 23)) (hg3.block _ (by simp; omega) (fun e => QN.out e.symm))).trans (((((Ext.refl W2).alloc _).cells _ _ hbb5)).trans c5')
          have z3 : W3.frozen? ⟨w0.heap.size + 1, 0, none⟩ = false := (World.frozen?_of_block (w := W2.alloc (.cells #[.slice (some ⟨b5, 0, none⟩) x.length c5] 23)) (hg3.block _ (by simp; omega) (fun e => QN.out e.symm))).trans (((((Ext.refl W2).alloc _).frz _ _ hbb5)).trans z5')
          have HYES := hide (HI.out.yes (lv' := lv') (HXW.out.trans (HX5.out.trans ((Ext.refl W2).alloc _))) HFE.out Q3.out QN.out hA3 hg3 ho3 c3)
          obtain ⟨Av', cv', hvv, -⟩ := hA3.form
          rw [show (pre.filter (okAll cs) ++ [x]).length = (pre.filter (okAll cs)).length + 1 by simp] at hvv
          subst hvv
          clear hA3 hg3 ho3
          refine hK _ _ ?_; clear hK K
          refine wpAny_ready (rs := [5]) (by kernel_rfl) (by simp) ?_
          refine AllReady.cons rfl (fun K hK => ?_) AllReady.nil
          go_simp
          refine hK _ _ ?_; clear hK K
          refine wpAny_done (by kernel_rfl) ?_ _
          gi_wp2
          exact HYES.out
    | false =>
      have HFE := hide hfe
      clear hfe
      gi_wp2
      exact ⟨own, Own.same (HXW.out.keep _), HI.out.no HXW.out HFE.out⟩
  case done =>
    intro Z own W hZ hnZ hI hK
    have hZl : Z < W.heap.size := (Array.getElem?_eq_some_iff.1 hK).1
    have HI := hide hI
    obtain ⟨lv, q1, q2, q3⟩ := hI.box
    have hbb := (hI.own _ hI.ownb).1
    have hZw : w.heap.size ≤ Z := by rw [World.size_alloc] at hZ; omega
    have hxe := HX0.out.trans hI.ext
    have HXE := hide (show Ext w (W.putObj Z (.deferred none)) from ⟨hxe.os, hxe.tape, hxe.output, by have := hxe.size; simpa using this, fun k hk => (World.putObj_heap_other (by omega)).trans (hxe.block k hk)⟩)
    clear hxe
    have HA := hide (show AppRS (fun k => w.heap.size ≤ k) (W.putObj Z (.deferred none)) lv (solL cs D) by
      have h := (q2.put hK (.deferred none))
      rw [show (tups q).filter (okAll cs) = solL cs D from HSOL.out] at h
      obtain ⟨cells', g1, g2, g3⟩ := h
      exact ⟨cells', g1, fun g hg => by have := (g2 g hg).1.2; omega, fun i hi => by
        obtain ⟨cv, r1, r2, r3⟩ := g3 i hi
        exact ⟨cv, r1, r2, fun g hg => by have := (r3 g hg).1.2; omega⟩⟩)
    have HBL := hide hK
    obtain ⟨Alv, clv, hlv, -⟩ := HA.out.form
    subst hlv
    clear hI q2 q3 hK hnZ b0 z0
    go_wp2
    refine ⟨by simp, .inl ⟨_, _, rfl, run_takeDeferred HBL.out, ?_⟩⟩
    exact ⟨.slice Alv (solL cs D).length clv, by simp only [results, Tryz.results47]; go_simp, ⟨_, _, rfl, HA.out, HXE.out⟩⟩
  case stop =>
    rintro Z c pre own W _ _ _ h _
    exact h.elim
theorem sol_rows2 {S : Nat → Prop} {w : World} {v : Value} {cs : List Con} {D : List Int} (h : AppRS S w v (solL cs D)) (h4 : D.length ≤ 4) : SRows w v (solL cs D) := by
  have hl := solL_small (cs := cs) h4
  have h2 := h
  rw [show solL cs D = (solL cs D).take 4096 from (List.take_of_length_le (by omega)).symm] at h2 ⊢
  exact sol_rows h2 h4
theorem rw0_sol {cs : List Con} {ds : List Int} {k : Nat} (hk : k < (solL cs ds).length) : (rw0 (solL cs ds) k).length = ds.length ∧ ValL (rw0 (solL cs ds) k) := by
  have h1 : rw0 (solL cs ds) k ∈ solL cs ds := by rw [rw0, getD_lt _ _ hk]; exact List.getElem_mem hk
  exact solL_mem h1
end Go.Proofs.YtalgilgfoekioaaGreatDoor
