/- The contract of the program's tuples. -/
import Derived.Test.YtpnlambndbfenaaTup2
import Derived.Laws.EntriesVeiled
namespace Go.Proofs.Ytpnlambndbfenaa
open Go.RowKit Go.Shelf
attribute [local go_sem] Oper.semAt_some

theorem from_any (l B bD bd off c : Nat) (ds : List Int) (hd0 : 0 < ds.length) (hd1 : ds.length ≤ 100) (hdr : ∀ i, i < ds.length → 0 ≤ at0 ds i ∧ at0 ds i ≤ 9223372036854775807) (J Jx : List (List Int) → (Nat → Prop) → World → Prop) (hJ : Stays B 4 J) (hJo : ∀ s own W1, J s own W1 → ∀ k, own k → k < W1.heap.size) (all : List (List Int))
    (hY : ∀ m pre x b own W1, J pre own W1 → (pre ++ [x]) <+: all → TupAt own W1 b x → B + 4 ≤ W1.heap.size → YieldAt Fence.wide m Try.prog l #[.slice (some ⟨b, 0, none⟩) x.length x.length] W1 (RoundEnd l J Jx (pre ++ [x]) own W1)) :
    ∀ (rs done p : List Int) (n : Nat) (pre : List (List Int)) (own : Nat → Prop) (W : World), ds = done ++ rs → p.length = done.length → pre ++ (tups rs).map (fun t => p ++ t) <+: all → J pre own W → TupSt l B bD bd off c ds p own W →
      CallsIn Fence.wide n Try.prog 140 #[.pointer (some ⟨B + 2, 0, none⟩), .pointer (some ⟨bD, 0, none⟩), .pointer (some ⟨B, 0, none⟩), .pointer (some ⟨B + 3, 0, none⟩)] W (FromEnd l B bD bd off c ds p J Jx all (pre ++ (tups rs).map (fun t => p ++ t)) own W) := by
  intro rs
  induction rs with
  | nil =>
    intro done p n pre own W hds hp hall hj hst
    have hl : p.length = ds.length := by rw [hds, hp]; simp
    have e : (tups []).map (fun t => p ++ t) = [p] := by simp [tups]
    rw [e] at hall ⊢
    exact from_nil l B bD bd off c ds p J Jx all pre own W n (hY _ pre p (B + 1) own W hj hall (hst.at_ hl hd0 hd1) hst.lt3) hl hall hst
  | cons d rs ih =>
    intro done p n pre own W hds hp hall hj hst
    exact from_cons l B bD bd off c ds hd1 hdr J Jx hJ hJo all d rs ih done p n pre own W hds hp hall hj hst

theorem room_none {F : Fence} (hd : F.depth = none) (k : Nat) : F.room k := fun d h => by rw [hd] at h; cases h
theorem yield_any {F : Fence} (hd : F.depth = none) {m : Nat} (m' : Nat) {P : Program} {l : Nat} {args : Array Value} {W : World} {R : Ending → World → Prop} (h : YieldAt F m P l args W R) : YieldAt F m' P l args W R := by
  obtain ⟨fn, tmps, assign, body, hy, hR⟩ := h
  exact ⟨fn, tmps, assign, body, hy, hR.1, fun c cs _ => hR.2 c cs (room_none hd _)⟩
set_option maxRecDepth 100000 in
set_option maxHeartbeats 4000000 in
theorem tuples1_any (n bD bd off c : Nat) (ds : List Int) (w : World) (hd0 : 0 < ds.length) (hd1 : ds.length ≤ 100) (hdr : ∀ i, i < ds.length → 0 ≤ at0 ds i ∧ at0 ds i ≤ 9223372036854775807)
    (hc : w.cell? ⟨bD, 0, none⟩ = some (.slice (some ⟨bd, off, none⟩) ds.length c)) (hS : SInts w (.slice (some ⟨bd, off, none⟩) ds.length c) ds) (hb : bD < w.heap.size) :
    Tups Fence.wide n Try.prog 139 #[.pointer (some ⟨bD, 0, none⟩)] (tups ds) (fun k => k = bD ∨ k = bd) w := by
  intro l J Jx W own0 hx hl0 hl1 hfx hJ hJx hJo h00 hY h0
  have hdd : ∀ k : Nat, (Fence.wide.depth.isSome = true → 1 ≤ k) := fun k h => by cases h
  have hbd : bd < w.heap.size := by obtain ⟨b, o, e, h, -⟩ := hS.at_ hd0; injection e with e; injection e with e1 e2; subst e1; exact h
  have hc1 := (hx.cells bD 0 hb).trans hc
  have hS1 := hide (hS.ext hx)
  have HF := hide (fun n => from_any l W.heap.size bD bd off c ds hd0 hd1 hdr J Jx hJ hJo (tups ds) (fun m pre x b own W1 h1 h2 h3 h4 => yield_any rfl m (hY pre x b own W1 h1 h2 h3 h4)) ds [] [] n [])
  have HJ := hide (fun W' k => hJ _ _ W W' h0 k)
  have HX := hide hx
  have HFX := hide hfx
  have H00 := hide h00
  have hbW := Nat.lt_of_lt_of_le hb hx.size
  have hbdW := Nat.lt_of_lt_of_le hbd hx.size
  clear hc hS hdr hx hfx hJ hJx hJo h00 hY h0
  refine callsIn_of_wp Try.func139 rfl trivial ?_ rfl
  simp only [Try.ntmps139, List.size_toArray, List.length_cons, List.length_nil, Nat.reduceAdd, Nat.reduceSub, Array.replicate_succ, Array.replicate_zero, List.push_toArray, List.append_toArray, List.nil_append, List.cons_append]
  gi_wp2_with (gi_at_make; go_must (refine wpListIn_make_lc _ rfl _ _ rfl 0 ds.length rfl rfl (Nat.zero_le _) (by omega) ?_); intro w2 hrow2 hsz2 hx2)
  have hz : w2.heap.size = W.heap.size + 2 := by simpa using hsz2
  have hx02 : Ext W w2 := ((Ext.refl W).alloc _).trans hx2
  have y0 : w2.cell? ⟨W.heap.size, 0, none⟩ = some (.func (.yield l) #[] #[]) := (hx2.cells _ _ (by simp)).trans (by simp)
  rw [World.size_alloc] at hrow2
  obtain ⟨Wf, hWf⟩ : ∃ Wf, (w2.alloc (.cells #[.slice (some ⟨W.heap.size + 1, 0, none⟩) 0 ds.length] 22)).alloc (.cells #[.func (.func 140) #[] #[.pointer (some ⟨W.heap.size + 1 + 1, 0, none⟩), .pointer (some ⟨bD, 0, none⟩), .pointer (some ⟨W.heap.size, 0, none⟩), .pointer (some ⟨W.heap.size + 1 + 1 + 1, 0, none⟩)]] 102) = Wf := ⟨_, rfl⟩
  have hxf : Ext w2 Wf := by rw [← hWf]; exact ((Ext.refl _).alloc _).alloc _
  have hst : TupSt l W.heap.size bD bd off c ds [] own0 Wf := by
    refine ⟨(hxf.cells _ _ (by omega)).trans y0, ?_, ?_, ?_, ((hx02.trans hxf).cells _ _ hbW).trans hc1, hS1.out.ext (hx02.trans hxf), ⟨_, hxf.row hrow2, fun i hi => by simp at hi⟩, fun i hi => by simp at hi, Nat.zero_le _, fun k hk => .inl (H00.out k hk), HFX.out _ (.inl rfl), HFX.out _ (.inr rfl), hbW, hbdW, ?_, hl1, by omega, by omega⟩
    · rw [← hWf]; exact (World.cell?_alloc_past _ _ _ (by simp; omega)).trans (World.cell?_alloc_at _ _ _ _ hz.symm)
    · rw [← hWf]
      rw [World.frozen?_of_block (w := w2.alloc (.cells #[.slice (some ⟨W.heap.size + 1, 0, none⟩) 0 ds.length] 22)) (Below.heap_alloc _ _ _ (by simp; omega)), ← hz]
      simp
    · rw [← hWf]; exact World.cell?_alloc_at _ _ _ _ (by simp; omega)
    · rw [← hWf]; simp; omega
  have hj := HJ.out Wf ((hx02.trans hxf).keep _)
  refine ⟨trivial, hdd _, ?_⟩
  refine CallsIn.mono (hWf ▸ HF.out (n - 1) own0 Wf (by simp) (by simp) (by simp) hj hst) ?_
  clear hWf hst hj hxf y0 hrow2 hz hsz2 hx2 hx02
  rintro e W' (⟨rfl, own', hj', -, -, -⟩ | ⟨rfl, q, own', hq, hx'⟩)
  · have HE := hide (show TupsEnd J Jx (tups ds) (.returned (.tuple #[])) W' from ⟨⟨_, rfl⟩, .inl ⟨own', by simpa using hj'⟩⟩)
    clear hj'
    gi_wp2
    go_end0
    exact HE.out
  · have HE := hide (show TupsEnd J Jx (tups ds) (.returned (.tuple #[])) W' from ⟨⟨_, rfl⟩, .inr ⟨q, own', hq, hx'⟩⟩)
    clear hq hx'
    gi_wp2
    go_end0
    exact HE.out
/-- tuples hands back a function over a box of the domains. -/
theorem tuples_any (A : Option Addr) (m c : Nat) (w : World) : Calls Try.prog 112 #[.slice A m c] w fun e w' => e = .returned (.func (.func 139) #[] #[.pointer (some ⟨w.heap.size, 0, none⟩)]) ∧ w' = w.alloc (.cells #[.slice A m c] 22) := by
  go_enter Try.func112, Try.ntmps112
  go_wp2
  go_ret
  exact ⟨rfl, rfl⟩
theorem tuples_at (n bd off c : Nat) (ds : List Int) (w : World) (hd0 : 0 < ds.length) (hd1 : ds.length ≤ 100) (hdr : ∀ i, i < ds.length → 0 ≤ at0 ds i ∧ at0 ds i ≤ 9223372036854775807)
    (hS : SInts w (.slice (some ⟨bd, off, none⟩) ds.length c) ds) :
    Tups Fence.wide n Try.prog 139 #[.pointer (some ⟨w.heap.size, 0, none⟩)] (tups ds) (fun k => k = w.heap.size ∨ k = bd) (w.alloc (.cells #[.slice (some ⟨bd, off, none⟩) ds.length c] 22)) :=
  tuples1_any n w.heap.size bd off c ds _ hd0 hd1 hdr (by simp) (hS.ext ((Ext.refl w).alloc _)) (by simp)
theorem OwnRes.base {xs : List Int} {w W : World} {e : Ending} {W' : World} (h : OwnRes xs W e W') (hx : Ext w W) : OwnRes xs w e W' := by
  obtain ⟨A, c, b, m, f, h1, h2, h3, h4, h5, h6⟩ := h
  exact ⟨A, c, b, m, f, h1, h2, h3, Nat.le_trans hx.size h4, h5, hx.trans h6⟩
theorem OwnRes.put {xs : List Int} {w : World} {e : Ending} {W' : World} (h : OwnRes xs w e W') {D : Nat} {d : Option (List Deferred)} (hD : w.heap.size ≤ D) (hd : W'.heap[D]? = some (.deferred d)) (o : Obj) : OwnRes xs w e (W'.putObj D o) := by
  obtain ⟨A, c, b, m, f, h1, h2, h3, h4, h5, h6⟩ := h
  refine ⟨A, c, b, m, f, h1, h2, h3, h4, fun hp => ?_, ⟨h6.os, h6.tape, h6.output, by have := h6.size; simpa using this, fun k hk => (World.putObj_heap_other (by omega)).trans (h6.block k hk)⟩⟩
  obtain ⟨q1, q2, q3, q4⟩ := h5 hp
  refine ⟨q1, q2.of_block (World.putObj_heap_other (fun e => ?_)), q3, q4⟩
  subst e
  obtain ⟨cc, p1, -⟩ := q2
  rw [p1] at hd
  cases hd
end Go.Proofs.Ytpnlambndbfenaa
