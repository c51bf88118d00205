/- Draws of automata: words, the arguments of CountWords and AutomatonAccepts. -/
import Derived.Test.YtachgijdopfghaaAuG
namespace Go.Proofs.Ytachgijdopfghaa
open Go.RowKit

/-- A word came: numbers of -1 to 6. -/
def WGot (w0 : World) (br N : Nat) (W : World) (e : Ending) (W' : World) : Prop :=
  ∃ v xs, e = .returned v ∧ xs.length ≤ 11 ∧ IV (fun k => W.heap.size ≤ k) W' v xs ∧ RdSt w0 br N W' ∧ Keep (fun k => k ≠ br) W W'
/-- append of numbers to numbers. -/
theorem run_appLN (w : World) (ty : TypeId) (base : Nat) (v v2 : Value) (n m : Nat) (lo hi : Int) (h : LN base w v n lo hi) (h2 : LR base 3 1 w v2 m lo hi) (hm : 0 < m) (hl : n + m ≤ 1000) (hb : base ≤ w.heap.size) :
    ∃ v' w', (Builtin.append_ #[24, 24] ty #[v, v2]).run Try.prog w = .ok v' w' ∧ LR base 3 1 w' v' (n + m) lo hi ∧ w.grownBy w' v.ownBlock ∧ (∀ g, v'.ownBlock = some g → v.ownBlock = some g ∨ w.heap.size ≤ g) := by
  obtain ⟨i, hi', hz, hsz, hby⟩ := Try.infoIp
  obtain ⟨xs, h1, hx⟩ := h.owns
  obtain ⟨us, k1, kx⟩ := h2.owns
  have hul : us.length = m := by simpa using k1.1
  rcases k1.2 with ⟨-, rfl⟩ | ⟨b, c, cur, rfl, -, hh, hnc, hcm, hcs, htk⟩
  · omega
  · have hcell : ∀ (j : Nat) (u' : Value), us[j]? = some u' → w.cell? ⟨b, j, none⟩ = some u' := by
      intro j u' hj
      have hjl : j < m * 1 := by have := (List.getElem?_eq_some_iff.1 hj).1; omega
      have e1 : (cur.toList.take (m * 1))[j]? = us[j]? := by rw [htk]
      rw [List.getElem?_take, if_pos hjl, hj, Array.getElem?_toList] at e1
      simp [World.cell?, hh, e1]
    obtain ⟨v', w', e1, e2, e3, e4⟩ := run_append_kindN (P := Try.prog) w base 24 ty 3 i _ 8 Try.underlying24 hi' hz hsz hby rfl v n xs h1 b c us hcell (fun u hu => by
      obtain ⟨x, rfl, -⟩ := kx u hu
      rfl) (by unfold maxLen; omega) (by omega) hb
    rw [hul] at e1 e2
    refine ⟨v', w', e1, LR.of_owns e2 (by omega) (fun u hu => ?_), e3, e4⟩
    rcases List.mem_append.1 hu with hu | hu
    · exact hx u hu
    · exact kx u hu
theorem wpList_appLN2 (w : World) {ops : Array Oper} {rest : List Oper} {o : Oper} {a : Act} {Q : Exit → Act → World → Prop} (hgd : o.guard = none) (s x : Operand)
    (ho : o.op = .call { callee := .builtin .append, args := #[s, x], argTypes := #[24, 24] })
    (base : Nat) (v v2 : Value) (n m : Nat) (lo hi : Int) (hs : a.eval s = v) (hx : a.eval x = v2) (h1 : LN base w v n lo hi) (h2 : LR base 3 1 w v2 m lo hi) (hm : 0 < m) (hl : n + m ≤ 1000) (hb : base ≤ w.heap.size)
    (h : ∀ v' w', LR base 3 1 w' v' (n + m) lo hi → w.grownBy w' v.ownBlock → wpList Try.prog ops Q rest (a.put o.dst v') w') : wpList Try.prog ops Q (o :: rest) a w := by
  obtain ⟨v', w', hrun, e1, e2, -⟩ := run_appLN w o.type base v v2 n m lo hi h1 h2 hm hl hb
  refine wpList_plain hgd fun K hK => ?_
  unfold Oper.wp
  simp [execOp, ho, resolve, invoke, builtin, hs, hx, hrun, Result.andThen]
  exact hK _ _ (h v' w' e1 e2)
theorem LR.wgot {w0 : World} {br N n : Nat} {W W' : World} {v : Value} {lo hi : Int} {B : Nat} (h : LR B 3 1 W' v n lo hi) (hB : W.heap.size ≤ B) (hn : n ≤ 11) (h1 : -100 ≤ lo) (h2 : hi ≤ 100) (hR : RdSt w0 br N W') (hK : Keep (fun k => k ≠ br) W W') : WGot w0 br N W (.returned v) W' := by
  obtain ⟨xs, q1, q2, -⟩ := LN.iv (.inr h) (by omega) (by omega) (by omega)
  exact ⟨v, xs, rfl, by omega, q2.mono (fun k hk => by omega), hR, hK⟩
set_option maxRecDepth 100000 in
set_option maxHeartbeats 4000000 in
theorem anyWord_any (w0 : World) (br N : Nat) (W : World) (hN : N ≤ 60000) (hR : RdSt w0 br N W) :
    Calls Try.prog 26 #[.pointer (some ⟨br, 0, none⟩)] W (WGot w0 br (N + 20) W) := by
  have HR := hide hR
  have hbr := hR.lt
  have hw0 := hR.ext.size
  clear hR
  go_enter Try.func26, Try.ntmps26
  go_wp2_with fail
  refine (pick_any w0 br N 7 _ (by omega) (by omega) (by omega) HR.out).mono ?_
  rintro e W1 ⟨k, k0, k1, rfl, hR1, hK1⟩
  obtain ⟨k, rfl⟩ : ∃ k' : Nat, k = k' := ⟨k.toNat, by omega⟩
  have HK1 := hide hK1
  have HR1 := hide hR1
  have hs1 := hK1.size
  clear hR1 hK1
  go_wp2_with fail
  refine (randomRow_any w0 br (N + 1) k _ (by omega) (by omega) HR1.out).mono ?_
  rintro e W2 ⟨v, rfl, hL2, hR2, hK2⟩
  have HL2 := hide (LR.mono (b0 := W.heap.size) (l2 := -1) (h2 := 6) hL2 hs1 (by omega) (by omega))
  obtain ⟨g, cap, rfl, -, -, -⟩ := hL2.form
  have HR2 := hide (hR2.mono (M := N + 8) (by omega))
  have HK2 := hide (HK1.out.trans hK2)
  have hs2 := HK2.out.size
  clear hL2 hR2 hK2
  go_wp2_with fail
  refine (pick_any w0 br (N + 8) 16 _ (by omega) (by omega) (by omega) HR2.out).mono ?_
  rintro e W3 ⟨z, z0, z1, rfl, hR3, hK3⟩
  have HL3 := hide (HL2.out.keep hK3 (fun k hk => by omega))
  have HR3 := hide hR3
  have HK3 := hide (HK2.out.trans hK3)
  have hs3 := HK3.out.size
  clear hR3 hK3
  by_cases h0 : z = 0
  · subst h0
    go_wp2_with fail
    refine (one_any w0 br (N + 9) (-1) 6 W3.heap.size 2 2 _ (by omega) (by omega) (by omega) (HR3.out.grow ((Ext.refl W3).alloc _)) (by simp) (by omega) (newL12 W3 3 [-1, 6] (by intro x hx; simp at hx; omega)) (Nat.le_refl _)).mono ?_
    rintro e W5 ⟨y, y0, y1, rfl, hR5, hK5⟩
    have hK5 : Keep (fun k => k ≠ br) W3 W5 := (((Ext.refl W3).alloc _).keep _).trans hK5
    have HL5 := hide (HL3.out.keep hK5 (fun k hk => by omega))
    have HR5 := hide hR5
    have HK5 := hide (HK3.out.trans hK5)
    have hs5 := HK5.out.size
    clear hR5 hK5
    go_wp2_with (at_builtin; go_must (refine wpList_appLN _ rfl _ _ rfl W.heap.size (.slice (some ⟨g, 0, none⟩) k cap) k (-1) 6 y W5.heap.size 1 rfl rfl (.inr (HL5.out.keep (((Ext.refl W5).alloc _).keep (fun _ => True)) (fun _ _ => trivial))) (World.cell?_alloc_at _ _ _ _ rfl) (by omega) (by omega) (by simp; omega) ?_); intro v' W6 hL6 hb6; obtain ⟨g6, cap6, hv6, -, -, -⟩ := hL6.form; subst hv6; have HL6 := hide hL6; have HB6 := hide hb6; clear hL6 hb6)
    go_ret
    exact HL6.out.wgot (Nat.le_refl _) (by omega) (by omega) (by omega) (((HR5.out.grow ((Ext.refl W5).alloc _)).far8 HB6.out (by omega) (by omega)).mono (by omega)) ((HK5.out.trans (((Ext.refl W5).alloc _).keep _)).trans9 (Below.keep12 HB6.out) (fun k hk _ => hk))
  · have h0b : (z == 0) = false := by simp [h0]
    by_cases h1 : z = 1
    · subst h1
      go_wp2_with fail
      refine (randomRow_any w0 br (N + 9) 5 _ (by omega) (by omega) HR3.out).mono ?_
      rintro e W5 ⟨v5, rfl, hL5, hR5, hK5⟩
      have HM5 := hide (LR.mono (b0 := W.heap.size) (l2 := -1) (h2 := 6) hL5 (by omega) (by omega) (by omega))
      obtain ⟨g5, cap5, rfl, -, -, -⟩ := hL5.form
      have HL5 := hide (HL3.out.keep hK5 (fun k hk => by omega))
      have HR5 := hide hR5
      have HK5 := hide (HK3.out.trans hK5)
      have hs5 := HK5.out.size
      clear hL5 hR5 hK5
      go_wp2_with (at_builtin; go_must (refine wpList_appLN2 _ rfl _ _ rfl W.heap.size (.slice (some ⟨g, 0, none⟩) k cap) (.slice (some ⟨g5, 0, none⟩) 5 cap5) k 5 (-1) 6 rfl rfl (.inr HL5.out) HM5.out (by omega) (by omega) (by omega) ?_); intro v' W6 hL6 hg6; obtain ⟨g6, cap6, hv6, -, -, -⟩ := hL6.form; subst hv6; have HL6 := hide hL6; have HG6 := hide hg6; clear hL6 hg6)
      go_ret
      have hgW : W.heap.size ≤ g := by obtain ⟨_, _, e, q, -⟩ := HL5.out.form; injection e with e; injection e with e; injection e with e; omega
      have hk6 : Keep (fun k => k < W.heap.size) W5 W6 := grown_keep9 HG6.out (fun k hk e => by have e : some g = some k := e; injection e with e; omega)
      exact HL6.out.wgot (Nat.le_refl _) (by omega) (by omega) (by omega) ((HR5.out.keep hk6 (by omega) (fun k hk => by omega)).mono (by omega)) (HK5.out.trans9 hk6 (fun k hk _ => hk))
    · have h1b : (z == 1) = false := by simp [h1]
      go_wp2_with fail
      go_ret
      exact HL3.out.wgot (Nat.le_refl _) (by omega) (by omega) (by omega) (HR3.out.mono (by omega)) HK3.out
/-- An automaton stands in block mb (drawn; it may be invalid). -/
structure XJ (w0 : World) (br N mb n m : Nat) (W1 W : World) (nx fn : Value) : Prop where
  m0 : W.cell? ⟨mb, 0, none⟩ = some nx
  m1 : W.cell? ⟨mb, 1, none⟩ = some fn
  sz : mb < W.heap.size
  ge : W1.heap.size ≤ mb
  b0 : br < W1.heap.size
  t : LTab (fun k => W1.heap.size ≤ k) (fun l => l ≤ 6) W nx n (-2) 5
  f : LN W1.heap.size W fn m (-1) 8
  n1 : n ≤ 16
  m5 : m ≤ 5
  kp : Keep (fun k => k ≠ br) W1 W
  rd : RdSt w0 br N W
theorem XJ.keep {w0 : World} {br N M mb n m : Nat} {W1 W W' : World} {nx fn : Value} (h : XJ w0 br N mb n m W1 W nx fn) (hR : RdSt w0 br M W') (hK : Keep (fun k => k ≠ br) W W') : XJ w0 br M mb n m W1 W' nx fn := by
  have h1 := h.ge
  have h2 := h.b0
  have hb : mb ≠ br := by omega
  exact ⟨(hK.cell (p := ⟨mb, 0, none⟩) h.sz hb).trans h.m0, (hK.cell (p := ⟨mb, 1, none⟩) h.sz hb).trans h.m1, Nat.lt_of_lt_of_le h.sz hK.size, h1, h2, h.t.keep hK (fun k hk => by omega), h.f.keep hK (fun k hk => by omega), h.n1, h.m5, h.kp.trans hK, hR⟩
theorem XJ.start {w0 : World} {br N n m : Nat} {W1 W : World} {nx fn : Value} (ty : TypeId) (ht : LTab (fun k => W1.heap.size ≤ k) (fun l => l ≤ 6) W nx n (-2) 5) (hf : LN W1.heap.size W fn m (-1) 8) (hn : n ≤ 16) (hm : m ≤ 5) (hR : RdSt w0 br N W) (hK : Keep (fun k => k ≠ br) W1 W) (hb : br < W1.heap.size) :
    XJ w0 br N W.heap.size n m W1 (W.alloc (.cells #[nx, fn] ty)) nx fn := by
  have hx : Ext W (W.alloc (.cells #[nx, fn] ty)) := (Ext.refl W).alloc _
  exact ⟨World.cell?_alloc_at _ _ _ _ rfl, World.cell?_alloc_at _ _ _ _ rfl, by simp, hK.size, hb, ht.ext hx, hf.ext hx, hn, hm, hK.trans (hx.keep _), hR.grow hx⟩
theorem XJ.auto {w0 : World} {br N mb n m : Nat} {W1 W W' : World} {nx fn : Value} {S : Nat → Prop} (h : XJ w0 br N mb n m W1 W nx fn) (hK : Keep S W W') (hS : ∀ k, W1.heap.size ≤ k → S k) : ∃ a : Au, a.next.length = n ∧ a.final.length = m ∧ SRows W' nx a.next ∧ SInts W' fn a.final := by
  obtain ⟨rs, q1, q2, -⟩ := (h.t.keep hK hS).rows (fun l hl => by omega) (by have := h.n1; omega) (by omega) (by omega)
  obtain ⟨xs, p1, p2, -⟩ := (h.f.keep hK hS).iv (by have := h.m5; omega) (by omega) (by omega)
  exact ⟨⟨rs, xs⟩, q1, p1, q2, p2.ints⟩
theorem ext_of_keep9 {w W2 W3 : World} {S : Nat → Prop} (h : Keep (fun k => k < w.heap.size) w W2) (hk : Keep S W2 W3) (hS : ∀ k, k < w.heap.size → S k) : Ext w W3 := by
  have ht2 := h.then hk (fun k hk _ => hS k hk)
  exact ⟨ht2.os, ht2.tape, ht2.output, ht2.size, fun k hk => ht2.block k hk hk⟩
/-- An automaton and a number came. -/
def DcwGot (w : World) (e : Ending) (W' : World) : Prop :=
  ∃ vn vf a z, e = .returned (.tuple #[.agg #[vn, vf], .int .i64 z]) ∧ SRows W' vn (Au.next a) ∧ SInts W' vf a.final ∧ -10 ≤ z ∧ z ≤ 10 ∧ Ext w W'
set_option maxRecDepth 100000 in
set_option maxHeartbeats 4000000 in
theorem DrawCountWords_any (v : Value) (nb : Nat) (w : World) (hB : SBytes w v nb) : Calls Try.prog 5 #[v] w (DcwGot w) := by
  have HB := hide hB
  obtain ⟨A, c, rfl, -⟩ := hB
  go_enter Try.func5, Try.ntmps5
  go_wp2_with fail
  refine (newReader_any w _ _ nb HB.out ((Ext.refl w).alloc _)).mono ?_
  rintro e W1 ⟨br, rfl, hR1, hx1, hbr⟩
  have hbr : w.heap.size + 1 ≤ br := by simpa using hbr
  have hrb1 : RB w.heap.size 2 W1 := by
    refine RB.keep (S := fun _ => True) ⟨by simp, fun i => World.frozen?_alloc_new _ _ _ _, fun i hi => ?_⟩ (hx1.keep _) trivial
    obtain rfl | rfl : i = 0 ∨ i = 1 := by omega
    all_goals exact ⟨_, World.cell?_alloc_at _ _ _ _ rfl⟩
  have hbrl := hR1.lt
  have HX1 := hide (((Ext.refl w).alloc _).trans hx1)
  have HR1 := hide hR1
  have HRB1 := hide hrb1
  have hws := HX1.out.size
  clear hR1 hx1 hrb1
  go_wp2_with fail
  refine (anyAutomaton_any w br 0 _ (by omega) HR1.out).mono ?_
  rintro e W2 ⟨nx, fn, n, m, rfl, hn1, hn16, hm5, hT, hF, hR2, hK2⟩
  obtain ⟨An, cn, rfl, -⟩ := hT.form
  obtain ⟨Af, cf, rfl, -⟩ := hF.form
  have HJ := hide (XJ.start 26 hT hF hn16 hm5 hR2 hK2 hbrl)
  clear hT hF hR2 hK2
  go_upto_region 3 with fail
  obtain ⟨W3, hW3⟩ : ∃ W3, W3 = W2.alloc (.cells #[.slice An n cn, .slice Af m cf] 26) := ⟨_, rfl⟩
  rw [← hW3] at HJ ⊢
  clear hW3
  have m0 := HJ.out.m0
  have m1 := HJ.out.m1
  have hml := HJ.out.sz
  have hmge := HJ.out.ge
  have hws3 := HJ.out.kp.size
  have hmb : W2.heap.size ≠ br := by omega
  refine wp_region_any (by kernel_rfl) ?_
  change wpAny _ _ _ _ _ _ _ (World.drew _)
  refine wpAny_take (i := 1) (v := ?_) rfl (by kernel_rfl) (by kernel_rfl) (by kernel_rfl) (by first | exact fun _ _ _ h => h | (rintro _ _ _ ⟨h, _⟩; cases h)) (Or.inl ⟨by rfl, ?hy1⟩) ?_
  case hy1 => intro w; go_simp; with_reducible rfl
  simp only [Act.put, List.getElem_toArray, List.getElem_cons_zero, List.getElem_cons_succ, List.setIfInBounds_toArray, List.set_cons_succ, List.set_cons_zero]
  refine wpAny_flt 0 4 [2, 3] [5] (.agg #[.slice An n cn, .slice Af m cf]) (fun w => w.cell? ⟨W2.heap.size, 0, none⟩ = some (.slice An n cn) ∧ w.cell? ⟨W2.heap.size, 1, none⟩ = some (.slice Af m cf)) rfl (by kernel_rfl) rfl (fun _ _ _ h => h) ⟨m0, m1⟩ (And.intro (by rfl) ?hys) ?_
  case hys => intro w' hw'; obtain ⟨hk1, hk2⟩ : w'.cell? ⟨W2.heap.size, 0, none⟩ = some (.slice An n cn) ∧ w'.cell? ⟨W2.heap.size, 1, none⟩ = some (.slice Af m cf) := hw'; go_simp; all_goals exact rfl
  simp only [nths, nth1, Act.put, List.setIfInBounds_toArray, List.set_cons_succ, List.set_cons_zero]
  refine wpSeqC_cons fun K hK => ?_
  go_simp
  refine hK _ _ ⟨?_, ?_⟩ ?_
  · show World.cell? (World.alloc _ _) _ = _
    exact (((Ext.refl W3).drew.alloc _).cells _ _ hml).trans m0
  · show World.cell? (World.alloc _ _) _ = _
    exact (((Ext.refl W3).drew.alloc _).cells _ _ hml).trans m1
  clear hK K
  refine wpSeqC_cons fun K hK => ?_
  go_simp
  refine (one_any w br 80 (-1) 9 W3.heap.size 8 8 _ (by omega) (by omega) (by omega) ((HJ.out.rd.mono (by omega)).grow (((Ext.refl W3).alloc _).drew)) (by simp [World.drew]) (by omega) (newL12 W3 3 [0, 1, 2, 3, 5, 8, -1, 9] (by intro x hx; simp at hx; omega)) (Nat.le_refl _)).mono ?_
  rintro e W5 ⟨z, zz0, zz1, rfl, hR5, hK5⟩
  have hK5 : Keep (fun k => k ≠ br) W3 W5 := ((((Ext.refl W3).alloc _).drew).keep _).trans hK5
  have HJ5 := hide (HJ.out.keep hR5 hK5)
  refine hK _ _ ⟨HJ5.out.m0, HJ5.out.m1⟩ ?_
  clear hK K hR5 hK5
  obtain ⟨hrl, u0, u1, r0, r1, z0, z1⟩ := (HRB1.out.keep HJ5.out.kp (by omega)).two
  refine wpSeqC_nil ?_
  go_wp2_with fail
  refine bodyPost_ret (v := .tuple #[.agg #[.slice An n cn, .slice Af m cf], .int .i64 z]) (by simp only [results, Try.results5]; go_simp) rfl ?_
  have hk : Keep (fun k => k ≠ w.heap.size) W5 _ := (((Keep.refl (fun k => k ≠ w.heap.size) W5).set (p := ⟨w.heap.size, 0, none⟩) (fun _ hh => hh rfl) (.slice An n cn)).set (p := ⟨w.heap.size, 1, none⟩) (fun _ hh => hh rfl) (.slice Af m cf))
  obtain ⟨a, rfl, rfl, q3, q4⟩ := HJ5.out.auto hk (fun k hk => by omega)
  exact ⟨_, _, a, z, rfl, q3, q4, by omega, by omega, ext_of_keep9 ((HX1.out.keep (fun k => k < w.heap.size)).then HJ5.out.kp (fun k hk hs => by omega)) hk (fun k hk => by omega)⟩
end Go.Proofs.Ytachgijdopfghaa
