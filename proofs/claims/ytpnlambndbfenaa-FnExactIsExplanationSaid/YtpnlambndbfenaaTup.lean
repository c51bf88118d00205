/- The contract of the program's tuples: all lists with a value of each domain, the least first. -/
import Derived.Test.YtpnlambndbfenaaRF
import Derived.Test.YtpnlambndbfenaaDom
import Derived.ArgAppend
namespace Go.Proofs.Ytpnlambndbfenaa
open Go.RowKit Go.Shelf
attribute [local go_sem] Oper.semAt_some

/-- All lists with a value of each domain, the least first. -/
def tups : List Int → List (List Int)
  | [] => [[]]
  | d :: ds => (domL d).flatMap fun v => (tups ds).map (v :: ·)
theorem tups_len : ∀ (ds : List Int) (x : List Int), x ∈ tups ds → x.length = ds.length
  | [], x, h => by simp [tups] at h; subst h; rfl
  | d :: ds, x, h => by
    simp only [tups, List.mem_flatMap, List.mem_map] at h
    obtain ⟨v, -, t, ht, rfl⟩ := h
    simp [tups_len ds t ht]
/-- What the first j values of domain d bring behind the values p. -/
def part (p : List Int) (d : Int) (rs : List Int) (j : Nat) : List (List Int) := ((domL d).take j).flatMap fun v => (tups rs).map fun t => p ++ v :: t
theorem part_zero (p : List Int) (d : Int) (rs : List Int) : part p d rs 0 = [] := by simp [part]
theorem part_succ (p : List Int) (d : Int) (rs : List Int) {j : Nat} (hj : j < (domL d).length) : part p d rs (j + 1) = part p d rs j ++ (tups rs).map (fun t => (p ++ [at0 (domL d) j]) ++ t) := by
  unfold part
  rw [List.take_add_one, List.flatMap_append, List.getElem?_eq_getElem hj]
  have : (domL d)[j] = at0 (domL d) j := by rw [at0, getD_lt _ _ hj]
  simp [this]
theorem part_all (p : List Int) (d : Int) (rs : List Int) : part p d rs (domL d).length = (tups (d :: rs)).map (p ++ ·) := by
  rw [part, List.take_length, tups, List.map_flatMap]
  simp [Function.comp_def]
theorem part_le (p : List Int) (d : Int) (rs : List Int) {j : Nat} (hj : j < (domL d).length) : ∃ r, part p d rs j ++ (tups rs).map (fun t => (p ++ [at0 (domL d) j]) ++ t) ++ r = (tups (d :: rs)).map (p ++ ·) := by
  rw [← part_succ p d rs hj, ← part_all]
  refine ⟨((domL d).drop (j + 1)).flatMap fun v => (tups rs).map fun t => p ++ v :: t, ?_⟩
  unfold part
  rw [List.take_length, ← List.flatMap_append, List.take_append_drop]
/-- The iterator's own state: B: the box of yield; B + 1: the row; B + 2: the box of the list; B + 3: the box of the inner function. -/
structure TupSt (l B bD bd off c : Nat) (ds p : List Int) (own : Nat → Prop) (W : World) : Prop where
  y0 : W.cell? ⟨B, 0, none⟩ = some (.func (.yield l) #[] #[])
  x0 : W.cell? ⟨B + 2, 0, none⟩ = some (.slice (some ⟨B + 1, 0, none⟩) p.length ds.length)
  xz : W.frozen? ⟨B + 2, 0, none⟩ = false
  f0 : W.cell? ⟨B + 3, 0, none⟩ = some (.func (.func 140) #[] #[.pointer (some ⟨B + 2, 0, none⟩), .pointer (some ⟨bD, 0, none⟩), .pointer (some ⟨B, 0, none⟩), .pointer (some ⟨B + 3, 0, none⟩)])
  d0 : W.cell? ⟨bD, 0, none⟩ = some (.slice (some ⟨bd, off, none⟩) ds.length c)
  dsl : SInts W (.slice (some ⟨bd, off, none⟩) ds.length c) ds
  row : ∃ f, W.rowIs (B + 1) 3 ds.length f ∧ ∀ i, i < p.length → f i = vI (at0 p i)
  vals : ∀ i, i < p.length → 0 ≤ at0 p i ∧ at0 p i ≤ 5
  len : p.length ≤ ds.length
  own1 : ∀ k, own k → k < B ∨ B + 4 ≤ k
  own2 : ¬ own bD
  own3 : ¬ own bd
  lt1 : bD < B
  lt2 : bd < B
  lt3 : B + 4 ≤ W.heap.size
  l1 : l < B
  l2 : l ≠ bD
  l3 : l ≠ bd
/-- The iterator's own blocks are neither the caller's nor a round's. -/
theorem TupSt.mine {l B bD bd off c : Nat} {ds p : List Int} {own : Nat → Prop} {W : World} (h : TupSt l B bD bd off c ds p own W) (k : Nat) (h0 : B ≤ k) (h1 : k < B + 4) (hk : k < B ∨ own k) : False := by
  have := h.own1 k
  rcases hk with hk | hk
  · omega
  · have := this hk; omega
/-- How the inner function ends. -/
def FromEnd (l B bD bd off c : Nat) (ds p : List Int) (J Jx : List (List Int) → (Nat → Prop) → World → Prop) (all xs : List (List Int)) (own : Nat → Prop) (W : World) (e : Ending) (W' : World) : Prop :=
  (e = .returned (.bool true) ∧ ∃ own', J xs own' W' ∧ TupSt l B bD bd off c ds p own' W' ∧ (∀ k, own' k → own k ∨ W.heap.size ≤ k) ∧ Keep (fun k => ¬ own k ∧ k ≠ l ∧ k ≠ B + 1 ∧ k ≠ B + 2) W W') ∨
  (e = .returned (.bool false) ∧ ∃ q own', q <+: all ∧ Jx q own' W')
theorem TupSt.at_ {l B bD bd off c : Nat} {ds p : List Int} {own : Nat → Prop} {W : World} (h : TupSt l B bD bd off c ds p own W) (hp : p.length = ds.length) (hd : 0 < ds.length) (h3 : ds.length ≤ 100) : TupAt own W (B + 1) p := by
  obtain ⟨f, hr, hf⟩ := h.row
  refine ⟨⟨_, _, rfl, Nat.le_refl _, by omega, fun i hi => ?_, fun _ => ⟨B + 1, 0, rfl, by have := h.lt3; omega, fun i hi => ?_⟩⟩, fun ho => ?_, by have := h.lt3; omega, by omega⟩
  · have := h.vals i hi; unfold I64; omega
  · rw [Nat.zero_add, hr.cell (by omega), hf i hi]; rfl
  · have := h.own1 _ ho; omega
/-- A step that leaves the iterator's blocks alone. -/
theorem TupSt.keep {l B bD bd off c : Nat} {ds p : List Int} {own own' : Nat → Prop} {W W' : World} (h : TupSt l B bD bd off c ds p own W) (hk : Keep (fun k => ¬ own k ∧ k ≠ l) W W') (ho : ∀ k, own' k → own k ∨ W.heap.size ≤ k) : TupSt l B bD bd off c ds p own' W' := by
  have h3 := h.lt3
  have h1 := h.lt1
  have h2 := h.lt2
  have hl1 := h.l1
  have no : ∀ k, B ≤ k → k < B + 4 → ¬ own k := fun k a b ho => by have := h.own1 k ho; omega
  have kc : ∀ b o, B ≤ b → b < B + 4 → W'.cell? ⟨b, o, none⟩ = W.cell? ⟨b, o, none⟩ := fun b o a a' => hk.cell (p := ⟨b, o, none⟩) (by show b < _; omega) ⟨no b a a', by show b ≠ l; omega⟩
  have kd : ∀ o, W'.cell? ⟨bD, o, none⟩ = W.cell? ⟨bD, o, none⟩ := fun o => hk.cell (p := ⟨bD, o, none⟩) (by show bD < _; omega) ⟨h.own2, h.l2.symm⟩
  have ke : ∀ o, W'.cell? ⟨bd, o, none⟩ = W.cell? ⟨bd, o, none⟩ := fun o => hk.cell (p := ⟨bd, o, none⟩) (by show bd < _; omega) ⟨h.own3, h.l3.symm⟩
  obtain ⟨f, hr, hf⟩ := h.row
  refine ⟨(kc _ _ (by omega) (by omega)).trans h.y0, (kc _ _ (by omega) (by omega)).trans h.x0, (hk.frz (p := ⟨B + 2, 0, none⟩) (by show B + 2 < _; omega) ⟨no (B + 2) (by omega) (by omega), by show B + 2 ≠ l; omega⟩).trans h.xz, (kc _ _ (by omega) (by omega)).trans h.f0, (kd 0).trans h.d0, ?_, ⟨f, hk.row ⟨no (B + 1) (by omega) (by omega), by omega⟩ hr, hf⟩, h.vals, h.len, fun k hk' => ?_, fun hk' => ?_, fun hk' => ?_, h1, h2, Nat.le_trans h3 hk.size, h.l1, h.l2, h.l3⟩
  · obtain ⟨A, c', e1, e2, e3, e4, e5⟩ := h.dsl
    refine ⟨A, c', e1, e2, e3, e4, fun hp => ?_⟩
    obtain ⟨b, o, ea, hb, hc⟩ := e5 hp
    injection e1 with e1
    have e1 := Option.some.inj (e1.trans ea)
    injection e1 with e6 e7
    subst e6
    exact ⟨bd, o, ea, Nat.lt_of_lt_of_le hb hk.size, fun i hi => (ke _).trans (hc i hi)⟩
  · exact (ho k hk').elim (h.own1 k) (fun h => .inr (by omega))
  · exact (ho _ hk').elim h.own2 (fun h => by omega)
  · exact (ho _ hk').elim h.own3 (fun h => by omega)
/-- make([]int, l, c), in a fence. -/
theorem wpListIn_make_lc {F : Fence} {n : Nat} (w : World) {ops : Array Oper} {rest : List Oper} {o : Oper} {a : Act} {Q : Exit → Act → World → Prop}
    (hg : o.guard = none) (l c : Operand) (hop : o.op = Op.makeSlice 22 l c) (nl nc : Nat) (hl : a.eval l = .int .i64 (nl : Int)) (hc : a.eval c = .int .i64 (nc : Int)) (hle : nl ≤ nc) (hbytes : nc ≤ 1000000000)
    (hK : ∀ w', w'.rowIs w.heap.size 3 nc (fun _ => .int .i64 0) → w'.heap.size = w.heap.size + 1 → Ext w w' → wpListIn F n Try.prog ops Q rest (a.put o.dst (.slice (some ⟨w.heap.size, 0, none⟩) nl nc)) w') :
    wpListIn F n Try.prog ops Q (o :: rest) a w := by
  obtain ⟨i, hi, hz, hsz, hby⟩ := Try.infoIp
  refine wpListIn_plain hg fun K hK' => ?_
  have hrun := run_make (P := Try.prog) w 22 3 i (.int .i64 0) Try.underlying22 hi hz .i64 .i64 nl nc (by omega) (by omega) (by rw [hby]; omega) (by omega)
  simp only [Int.toNat_natCast] at hrun
  have hrow : (w.alloc (.cells (madeCells (Value.cells (.int .i64 0)) (nc * i.size)) 3)).rowIs w.heap.size 3 nc (fun _ => .int .i64 0) := by
    have h1 := World.rowIs_alloc w (madeCells (Value.cells (.int .i64 0)) (nc * i.size)) 3 (fun _ => .int .i64 0) (fun j hj => by
      rw [size_madeCells] at hj
      simp [madeCells, hj, Value.cells, Nat.mod_one])
    rw [size_madeCells, hsz, Nat.mul_one] at h1
    rw [hsz, Nat.mul_one]; exact h1
  unfold Oper.wpIn
  refine ⟨?_, ?_⟩
  · simp [Oper.about, hop]
  · rw [Oper.semAt_plain F _ _ (by rw [hop]; intro c hc'; cases hc')]
    simp [execOp, hop, hl, hc, hrun, Result.andThen]
    exact hK' _ _ (hK _ hrow (by simp) ((Ext.refl w).alloc _))
/-- append of one int in place, in a fence. -/
theorem wpListIn_appRoom {F : Fence} {n : Nat} (w : World) {ops : Array Oper} {rest : List Oper} {o : Oper} {a : Act} {Q : Exit → Act → World → Prop} (hg : o.guard = none) (s x : Operand)
    (hop : o.op = .call { callee := .builtin .append, args := #[s, x], argTypes := #[22, 22] })
    (g k cap : Nat) (y : Int) (b c : Nat) (f : Nat → Value) (hs : a.eval s = .slice (some ⟨g, 0, none⟩) k cap) (hx : a.eval x = .slice (some ⟨b, 0, none⟩) 1 c)
    (hrow : w.rowIs g 3 cap f) (hc : w.cell? ⟨b, 0, none⟩ = some (.int .i64 y)) (hk : k < cap)
    (hK : wpListIn F n Try.prog ops Q rest (a.put o.dst (.slice (some ⟨g, 0, none⟩) (k + 1) cap)) (w.setCell ⟨g, k, none⟩ (.int .i64 y))) : wpListIn F n Try.prog ops Q (o :: rest) a w := by
  obtain ⟨i, hi, hz, hsz, hby⟩ := Try.infoIp
  refine wpListIn_plain hg fun K hK' => ?_
  have hrun := run_append_room_cells (P := Try.prog) w 22 o.type 3 i Try.underlying22 hi g 0 k cap ⟨b, 0, none⟩ 1 c [.int .i64 y] (by rw [hsz]; rfl)
    (fun j u hj => by
      match j with
      | 0 => simp at hj; subst hj; simpa [Addr.add] using hc
      | j + 1 => simp at hj) (fun u hu => by simp at hu; subst hu; rfl) (by omega)
    (fun j hj => by simp at hj; subst hj; rw [hsz, Nat.mul_one, Nat.add_zero, Nat.zero_add, hrow.cell hk]; rfl)
    (fun j hj => by simp at hj; subst hj; rw [hsz, Nat.mul_one, Nat.add_zero, Nat.zero_add]; exact hrow.frozen k)
  rw [hsz, Nat.mul_one, Nat.zero_add] at hrun
  have hset : w.setCells g k [.int .i64 y] = w.setCell ⟨g, k, none⟩ (.int .i64 y) := by simp [World.setCells]
  rw [hset] at hrun
  unfold Oper.wpIn
  refine ⟨?_, ?_⟩
  · simp [Oper.about, hop, resolve, Target.leads, Sem.run_pure]
  · rw [Oper.semAt_plain F _ _ (by rw [hop]; intro c hc'; cases hc')]
    simp [execOp, hop, resolve, invoke, builtin, hs, hx, hrun, Result.andThen]
    exact hK' _ _ hK
theorem cell_other {W : World} {p q : Addr} (v : Value) (h : q.block ≠ p.block) : (W.setCell p v).cell? q = W.cell? q := World.cell?_of_block (w := W) (Below.heap_setCell W p v _ h)
theorem frz_other {W : World} {p q : Addr} (v : Value) (h : q.block ≠ p.block) : (W.setCell p v).frozen? q = W.frozen? q := World.frozen?_of_block (w := W) (Below.heap_setCell W p v _ h)
/-- A store into the box of the list. -/
theorem TupSt.box {l B bD bd off c : Nat} {ds p q : List Int} {own : Nat → Prop} {W : World} (h : TupSt l B bD bd off c ds p own W) (hq : q.length ≤ ds.length) (hv : ∀ i, i < q.length → 0 ≤ at0 q i ∧ at0 q i ≤ 5)
    (hr : ∃ f, W.rowIs (B + 1) 3 ds.length f ∧ ∀ i, i < q.length → f i = vI (at0 q i)) :
    TupSt l B bD bd off c ds q own (W.setCell ⟨B + 2, 0, none⟩ (.slice (some ⟨B + 1, 0, none⟩) q.length ds.length)) := by
  have h1 := h.lt1
  have h2 := h.lt2
  obtain ⟨f, hr, hf⟩ := hr
  refine ⟨(cell_other _ (by simp)).trans h.y0, World.cell?_setCell_same' _ _ _ (by rw [h.x0]; rfl), (World.frozen?_setCell ..).trans h.xz, (cell_other _ (by simp)).trans h.f0, (cell_other _ (by simp; omega)).trans h.d0, ?_, ⟨f, hr.setOther (by simp) _, hf⟩, hv, hq, h.own1, h.own2, h.own3, h1, h2, by simpa [World.setCell] using h.lt3, h.l1, h.l2, h.l3⟩
  obtain ⟨A, c', e1, e2, e3, e4, e5⟩ := h.dsl
  refine ⟨A, c', e1, e2, e3, e4, fun hp => ?_⟩
  obtain ⟨b, o, ea, hb, hc⟩ := e5 hp
  injection e1 with e1
  have e1 := Option.some.inj (e1.trans ea)
  injection e1 with e6 e7
  subst e6
  exact ⟨bd, o, ea, by simpa [World.setCell] using hb, fun i hi => (cell_other _ (by simp; omega)).trans (hc i hi)⟩
/-- A store into the row. -/
theorem TupSt.put {l B bD bd off c : Nat} {ds p : List Int} {own : Nat → Prop} {W : World} (h : TupSt l B bD bd off c ds p own W) (k : Nat) (hk : p.length ≤ k) (v : Value) : TupSt l B bD bd off c ds p own (W.setCell ⟨B + 1, k, none⟩ v) := by
  have h1 := h.lt1
  have h2 := h.lt2
  obtain ⟨f, hr, hf⟩ := h.row
  refine ⟨(cell_other _ (by simp)).trans h.y0, (cell_other _ (by simp)).trans h.x0, (frz_other _ (by simp)).trans h.xz, (cell_other _ (by simp)).trans h.f0, (cell_other _ (by simp; omega)).trans h.d0, ?_, ⟨_, hr.set k v, fun i hi => ?_⟩, h.vals, h.len, h.own1, h.own2, h.own3, h1, h2, by simpa [World.setCell] using h.lt3, h.l1, h.l2, h.l3⟩
  · obtain ⟨A, c', e1, e2, e3, e4, e5⟩ := h.dsl
    refine ⟨A, c', e1, e2, e3, e4, fun hp => ?_⟩
    obtain ⟨b, o, ea, hb, hc⟩ := e5 hp
    injection e1 with e1
    have e1 := Option.some.inj (e1.trans ea)
    injection e1 with e6 e7
    subst e6
    exact ⟨bd, o, ea, by simpa [World.setCell] using hb, fun i hi => (cell_other _ (by simp; omega)).trans (hc i hi)⟩
  · show (if i = k then _ else _) = _
    rw [if_neg (by omega), hf i hi]
theorem at0_snoc (p : List Int) (v : Int) : at0 (p ++ [v]) p.length = v := by simp [at0]
theorem at0_app (p q : List Int) {i : Nat} (hi : i < p.length) : at0 (p ++ q) i = at0 p i := by
  unfold at0
  rw [getD_lt _ _ (by rw [List.length_append]; omega), getD_lt _ _ hi, List.getElem_append_left hi]
/-- One value more. -/
theorem TupSt.push {l B bD bd off c : Nat} {ds p : List Int} {own : Nat → Prop} {W : World} (h : TupSt l B bD bd off c ds p own W) (v : Int) (h0 : 0 ≤ v) (h5 : v ≤ 5) (hlt : p.length < ds.length) (o : Obj) :
    TupSt l B bD bd off c ds (p ++ [v]) own (((W.setCell ⟨B + 1, p.length, none⟩ (.int .i64 v)).setCell ⟨B + 2, 0, none⟩ (.slice (some ⟨B + 1, 0, none⟩) (p.length + 1) ds.length)).alloc o) := by
  refine TupSt.keep (own := own) ?_ (((Ext.refl _).alloc o).keep _) (fun k hk => .inl hk)
  have h1 := h.put p.length (Nat.le_refl _) (.int .i64 v)
  have e : p.length + 1 = (p ++ [v]).length := by simp
  rw [e]
  obtain ⟨f, hr, hf⟩ := h.row
  refine h1.box (by rw [← e]; omega) (fun i hi => ?_) ⟨_, hr.set p.length (.int .i64 v), fun i hi => ?_⟩
  · by_cases hip : i = p.length
    · subst hip; rw [at0_snoc]; exact ⟨h0, h5⟩
    · rw [at0_app _ _ (by omega)]; exact h.vals i (by omega)
  · show (if i = p.length then _ else _) = _
    by_cases hip : i = p.length
    · subst hip; rw [if_pos rfl, at0_snoc]; rfl
    · rw [if_neg hip, at0_app _ _ (by omega)]; exact hf i (by omega)
theorem TupSt.pop {l B bD bd off c : Nat} {ds p : List Int} {v : Int} {own : Nat → Prop} {W : World} (h : TupSt l B bD bd off c ds (p ++ [v]) own W) :
    TupSt l B bD bd off c ds p own (W.setCell ⟨B + 2, 0, none⟩ (.slice (some ⟨B + 1, 0, none⟩) p.length ds.length)) := by
  obtain ⟨f, hr, hf⟩ := h.row
  have hl := h.len
  rw [List.length_append] at hl
  refine h.box (by omega) (fun i hi => ?_) ⟨f, hr, fun i hi => ?_⟩
  · have := h.vals i (by simp; omega); rwa [at0_app _ _ hi] at this
  · have := hf i (by simp; omega); rwa [at0_app _ _ hi] at this
end Go.Proofs.Ytpnlambndbfenaa
