/- The inner function of the program's tuples, by induction on the domains that are left. -/
import Derived.Test.YtpnlambndbfenaaTup
import Derived.Test.YtpnlambndbfenaaTail
namespace Go.Proofs.Ytpnlambndbfenaa
open Go.RowKit Go.Shelf
attribute [local go_sem] Oper.semAt_some

set_option maxRecDepth 100000 in
set_option maxHeartbeats 4000000 in
theorem from_nil (l B bD bd off c : Nat) (ds p : List Int) (J Jx : List (List Int) → (Nat → Prop) → World → Prop) (all pre : List (List Int)) (own : Nat → Prop) (W : World) (n : Nat)
    (hY : YieldAt Fence.wide (n - 1) Try.prog l #[.slice (some ⟨B + 1, 0, none⟩) p.length p.length] W (RoundEnd l J Jx (pre ++ [p]) own W)) (hp : p.length = ds.length) (hall : pre ++ [p] <+: all) (hst : TupSt l B bD bd off c ds p own W) :
    CallsIn Fence.wide n Try.prog 140 #[.pointer (some ⟨B + 2, 0, none⟩), .pointer (some ⟨bD, 0, none⟩), .pointer (some ⟨B, 0, none⟩), .pointer (some ⟨B + 3, 0, none⟩)] W (FromEnd l B bD bd off c ds p J Jx all (pre ++ [p]) own W) := by
  have hdd : ∀ k : Nat, (Fence.wide.depth.isSome = true → 1 ≤ k) := fun k h => by cases h
  have x0 := hst.x0
  have d0 := hst.d0
  have y0 := hst.y0
  rw [hp] at hY x0
  have HST := hide hst
  have HP := hide hp
  clear hst hp
  obtain ⟨fn, tmps, assign, body, hy, hR⟩ := hY
  refine callsIn_of_wp Try.func140 rfl trivial ?_ rfl
  simp only [Try.ntmps140, List.size_toArray, List.length_cons, List.length_nil, Nat.reduceAdd, Nat.reduceSub, Array.replicate_succ, Array.replicate_zero, List.push_toArray, List.append_toArray, List.nil_append, List.cons_append]
  gi_wp2
  refine ⟨hdd _, hR.mono ?_⟩
  rintro e W' ⟨own', hk, hg, (⟨rfl, hj⟩ | ⟨rfl, hj⟩)⟩
  · have HE := hide (show FromEnd l B bD bd off c ds p J Jx all (pre ++ [p]) own W (.returned (.bool true)) W' from .inl ⟨rfl, own', hj, HST.out.keep hk hg, hg, hk.mono fun k _ h => ⟨h.1, h.2.1⟩⟩)
    clear hk hg hj
    gi_wp2
    go_ret
    exact HE.out
  · have HE := hide (show FromEnd l B bD bd off c ds p J Jx all (pre ++ [p]) own W (.returned (.bool false)) W' from .inr ⟨rfl, _, own', hall, hj⟩)
    clear hk hg hj
    gi_wp2
    go_ret
    exact HE.out
set_option maxRecDepth 100000 in
set_option maxHeartbeats 8000000 in
theorem from_cons (l B bD bd off c : Nat) (ds : List Int) (hd1 : ds.length ≤ 100) (hdr : ∀ i, i < ds.length → 0 ≤ at0 ds i ∧ at0 ds i ≤ 9223372036854775807) (J Jx : List (List Int) → (Nat → Prop) → World → Prop) (hJ : Stays B 4 J) (hJo : ∀ s own W1, J s own W1 → ∀ k, own k → k < W1.heap.size) (all : List (List Int))
    (d : Int) (rs : List Int)
    (IH : ∀ (done p : List Int) (n : Nat) (pre : List (List Int)) (own : Nat → Prop) (W : World), ds = done ++ rs → p.length = done.length → pre ++ (tups rs).map (fun t => p ++ t) <+: all → J pre own W → TupSt l B bD bd off c ds p own W →
      CallsIn Fence.wide n Try.prog 140 #[.pointer (some ⟨B + 2, 0, none⟩), .pointer (some ⟨bD, 0, none⟩), .pointer (some ⟨B, 0, none⟩), .pointer (some ⟨B + 3, 0, none⟩)] W (FromEnd l B bD bd off c ds p J Jx all (pre ++ (tups rs).map (fun t => p ++ t)) own W))
    (done p : List Int) (n : Nat) (pre : List (List Int)) (own : Nat → Prop) (W : World) (hds : ds = done ++ d :: rs) (hp : p.length = done.length) (hall : pre ++ (tups (d :: rs)).map (fun t => p ++ t) <+: all) (hj : J pre own W) (hst : TupSt l B bD bd off c ds p own W) :
    CallsIn Fence.wide n Try.prog 140 #[.pointer (some ⟨B + 2, 0, none⟩), .pointer (some ⟨bD, 0, none⟩), .pointer (some ⟨B, 0, none⟩), .pointer (some ⟨B + 3, 0, none⟩)] W (FromEnd l B bD bd off c ds p J Jx all (pre ++ (tups (d :: rs)).map (fun t => p ++ t)) own W) := by
  have hdd : ∀ k : Nat, (Fence.wide.depth.isSome = true → 1 ≤ k) := fun k h => by cases h
  have hlt : p.length < ds.length := by rw [hds, List.length_append, List.length_cons]; omega
  have hat : at0 ds p.length = d := by rw [at0, hds, hp, getD_lt _ _ (by simp)]; simp
  obtain ⟨r1, r2⟩ := hdr _ hlt
  have x0 := hst.x0
  have d0 := hst.d0
  have e0 := hst.dsl.cell_ hlt
  rw [hat] at e0 r1 r2
  have HST := hide hst
  have HIH := hide IH
  have HD := hide hds
  have HP := hide hp
  have HALL := hide hall
  have HJ := hide hj
  have HDR := hide hdr
  clear hst hds hp hdr hat IH hall hj
  refine callsIn_of_wp Try.func140 rfl trivial ?_ rfl
  simp only [Try.ntmps140, List.size_toArray, List.length_cons, List.length_nil, Nat.reduceAdd, Nat.reduceSub, Array.replicate_succ, Array.replicate_zero, List.push_toArray, List.append_toArray, List.nil_append, List.cons_append]
  have hne : ((p.length : Int) == (ds.length : Int)) = false := by simp; omega
  gi_wp2_with (refine ⟨trivial, hdd _, (callsIn_wide.2 (valuesOf_any d _ r1 r2)).mono ?_⟩; rintro e W1 ⟨A, cv, b, m, f, rfl, hc1, hd1, hbn, ho1, hx1⟩)
  have HST1 := hide (HST.out.keep (own' := own) (hx1.keep _) (fun k hk => .inl hk))
  have HJ1 := hide (hJ _ _ _ _ HJ.out (hx1.keep _))
  have HJ0 := HJ
  have HST0 := HST
  have HK1 := hide (hx1.keep (fun k => ¬ own k ∧ k ≠ l ∧ k ≠ B + 1 ∧ k ≠ B + 2))
  have HO1 := hide ho1
  have hsz1 := hx1.size
  have hdl := domL_len d
  clear ho1 hx1 HST HJ x0 d0 e0 hne
  gi_loopw [22] (fun i wr => ∃ (j : Nat) (own' : Nat → Prop), j ≤ (domL d).length ∧ i = .int .i64 j ∧ J (pre ++ part p d rs j) own' wr ∧ TupSt l B bD bd off c ds p own' wr ∧ (∀ k, own' k → own k ∨ W1.heap.size ≤ k) ∧
      Keep (fun k => ¬ own k ∧ k ≠ l ∧ k ≠ B + 1 ∧ k ≠ B + 2) W wr ∧ OwnC wr A b m f (domL d) ∧ W1.heap.size ≤ wr.heap.size) (fun i _ => (domL d).length - (intOf i).toNat)
  case atStart => exact ⟨0, own, Nat.zero_le _, rfl, by rw [part_zero, List.append_nil]; exact HJ1.out, HST1.out, fun k hk => .inl hk, HK1.out, HO1.out, Nat.le_refl _⟩
  case round =>
    obtain ⟨j, own', hjl, rfl, hJj, hSj, hOj, hKj, hCj, hzj⟩ := hrel
    have HJj := hide hJj
    have HSj := hide hSj
    have HOj := hide hOj
    have HKj := hide hKj
    have HCj := hide hCj
    have x0 := hSj.x0
    have xz := hSj.xz
    have f0 := hSj.f0
    have b1 : B + 1 < wr.heap.size := by have := hSj.lt3; omega
    have b2 : B + 2 < wr.heap.size := by have := hSj.lt3; omega
    have b3 : B + 3 < wr.heap.size := by have := hSj.lt3; omega
    obtain ⟨fr, hrow, -⟩ := hSj.row
    have HROW := hide hrow
    clear hJj hSj hOj hKj hCj hrow
    by_cases hlj : j < (domL d).length
    · obtain ⟨rfl, hrb, hmb, hfb⟩ := HCj.out (by omega)
      have cv0 : wr.cell? ⟨b, j, none⟩ = some (.int .i64 (at0 (domL d) j)) := by rw [hrb.cell (by omega), hfb j hlj]
      obtain ⟨v0, v5⟩ := domL_bd d hlj
      clear hrb hfb hmb
      gi_wp2_with (gi_at_builtin; go_must (refine wpListIn_appRoom _ rfl _ _ rfl (B + 1) p.length ds.length (at0 (domL d) j) wr.heap.size 1 fr rfl rfl (((Ext.refl _).alloc _).row HROW.out) (by go_simp) hlt ?_))
      obtain ⟨r, hr⟩ := part_le p d rs hlj
      have hpre : pre ++ part p d rs j ++ (tups rs).map (fun t => (p ++ [at0 (domL d) j]) ++ t) <+: all := by
        refine List.IsPrefix.trans ⟨r, ?_⟩ HALL.out
        rw [← hr, List.append_assoc, List.append_assoc, List.append_assoc]
      have hstep := hJ _ _ _ (((wr.setCell ⟨B + 1, p.length, none⟩ (.int .i64 (at0 (domL d) j))).setCell ⟨B + 2, 0, none⟩ (.slice (some ⟨B + 1, 0, none⟩) (p.length + 1) ds.length)).alloc (.cells #[.int .i64 (at0 (domL d) j)] 3)) HJj.out
        ((((Keep.refl _ wr).set (fun _ h => by have h : B + 1 < B ∨ B + 4 ≤ B + 1 := h; omega) _).set (fun _ h => by have h : B + 2 < B ∨ B + 4 ≤ B + 2 := h; omega) _).alloc _)
      refine ⟨trivial, hdd _, (HIH.out (done ++ [d]) (p ++ [at0 (domL d) j]) (n - 1) (pre ++ part p d rs j) own' _ (by rw [HD.out]; simp) (by simp [HP.out]) hpre hstep (HSj.out.push _ v0 v5 hlt _)).mono ?_⟩
      clear hr hpre hstep
      rintro e W' (⟨rfl, own'', hJ'', hS'', hO'', hK''⟩ | ⟨rfl, q, own'', hq, hx''⟩)
      · have HJ2 := hide hJ''
        have HS2 := hide hS''
        have HO2 := hide hO''
        have HK2 := hide hK''
        have x0 := hS''.x0
        rw [show (p ++ [at0 (domL d) j]).length = p.length + 1 by simp] at x0
        have xz := hS''.xz
        have b2 : B + 2 < W'.heap.size := by have := hS''.lt3; omega
        clear hJ'' hS'' hO'' hK''
        gi_wp2
        go_roundw
        case rel =>
          have kcall : ∀ S : Nat → Prop, ¬ S (B + 1) → ¬ S (B + 2) → Keep S wr (((wr.setCell ⟨B + 1, p.length, none⟩ (.int .i64 (at0 (domL d) j))).setCell ⟨B + 2, 0, none⟩ (.slice (some ⟨B + 1, 0, none⟩) (p.length + 1) ds.length)).alloc (.cells #[.int .i64 (at0 (domL d) j)] 3)) :=
            fun S h1 h2 => (((Keep.refl _ wr).set (fun _ h => h1 h) _).set (fun _ h => h2 h) _).alloc _
          have hnb : ¬ own' b := fun h => (HOj.out b h).elim (fun h => by have := hJo _ _ _ HJ0.out b h; omega) (fun h => by have := (HO1.out (by omega)).2.1.lt; omega)
          have hbB : B + 4 ≤ b := by have := HST0.out.lt3; omega
          have hbr : b < wr.heap.size := (HCj.out (by omega)).2.1.lt
          have hlB := HS2.out.l1
          refine ⟨j + 1, own'', by omega, by go_num, ?_, HS2.out.pop, fun k hk => (HO2.out k hk).elim (HOj.out k) (fun h => .inr (by simp at h; omega)), ?_, ?_, ?_⟩
          · rw [part_succ p d rs hlj, ← List.append_assoc]
            exact hJ _ _ _ _ HJ2.out ((Keep.refl _ W').set (fun _ h => by have h : B + 2 < B ∨ B + 4 ≤ B + 2 := h; omega) _)
          · exact ((HKj.out.trans (kcall _ (fun h => h.2.2.1 rfl) (fun h => h.2.2.2 rfl))).then HK2.out (fun k hk h => ⟨fun ho => (HOj.out k ho).elim h.1 (fun h => by have := HK1.out.size; omega), h.2⟩)).set (fun _ h => h.2.2.2 rfl) _
          · have kb : Keep (fun k => k = b) wr (W'.setCell ⟨B + 2, 0, none⟩ (.slice (some ⟨B + 1, 0, none⟩) p.length ds.length)) :=
              ((kcall _ (by omega) (by omega)).then HK2.out (fun k _ h => by subst h; exact ⟨hnb, by omega, by omega, by omega⟩)).set (fun _ h => by have h : B + 2 = b := h; omega) _
            intro hp
            obtain ⟨e1, e2, e3, e4⟩ := HCj.out hp
            exact ⟨e1, kb.row rfl e2, e3, e4⟩
          · have := HK2.out.size
            simp [World.setCell] at this ⊢
            omega
        case measure => simp [intOf]; omega
      · have HE := hide (show FromEnd l B bD bd off c ds p J Jx all (pre ++ (tups (d :: rs)).map (fun t => p ++ t)) own W (.returned (.bool false)) W' from .inr ⟨rfl, q, own'', hq, hx''⟩)
        clear hq hx''
        gi_wp2
        go_ret
        exact HE.out
    · obtain rfl : j = (domL d).length := by omega
      have HE := hide (show FromEnd l B bD bd off c ds p J Jx all (pre ++ (tups (d :: rs)).map (fun t => p ++ t)) own W (.returned (.bool true)) wr from .inl ⟨rfl, own', by rw [← part_all]; exact HJj.out, HSj.out, fun k hk => (HOj.out k hk).imp_right fun h => by omega, HKj.out⟩)
      gi_wp2
      go_ret
      exact HE.out
end Go.Proofs.Ytpnlambndbfenaa
