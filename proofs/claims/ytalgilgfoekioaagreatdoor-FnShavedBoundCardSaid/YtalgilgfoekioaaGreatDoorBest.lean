/- best of the program: the first row of the least cost. -/
import Derived.Test.YtalgilgfoekioaaGreatDoorAutB
import Derived.Test.YtalgilgfoekioaaGreatDoorCpy
import Derived.WalkSpells
namespace Go.Proofs.YtalgilgfoekioaaGreatDoor
open Go.RowKit

def bstep (f : List Int → Int) (o : Option (List Int)) (x : List Int) : Option (List Int) :=
  match o with
  | none => some x
  | some b => if f x < f b then some x else some b
def bestF (f : List Int → Int) (rows : List (List Int)) : Option (List Int) := rows.foldl (bstep f) none
theorem bestF_succ (f : List Int → Int) {rows : List (List Int)} {k : Nat} (hk : k < rows.length) : bestF f (rows.take (k + 1)) = bstep f (bestF f (rows.take k)) (rw0 rows k) := by
  unfold bestF
  rw [List.take_add_one, List.getElem?_eq_getElem hk, List.foldl_append, rw0, getD_lt _ _ hk]
  rfl
theorem bestF_mem (f : List Int → Int) : ∀ (rows : List (List Int)) (o : Option (List Int)) (b : List Int), rows.foldl (bstep f) o = some b → o = some b ∨ b ∈ rows
  | [], o, b, h => .inl h
  | x :: rows, o, b, h => by
    have := bestF_mem f rows (bstep f o x) b h
    rcases this with h | h
    · cases o with
      | none => right; simp [bstep] at h; simp [h]
      | some c =>
        simp only [bstep] at h
        split at h
        · right; simp at h; simp [h]
        · left; exact h
    · right; exact List.mem_cons_of_mem _ h
/-- The result is a list that reads as xs, in new memory, and a word. -/
def TwoRes (xs : List Int) (ok : Bool) (w : World) (e : Ending) (w' : World) : Prop := ∃ v, e = .returned (.tuple #[v, .bool ok]) ∧ OwnRes xs w (.returned v) w'
/-- What best keeps between two rounds. -/
def BestAt (f : List Int → Int) (o : Option (List Int)) (w : World) (out low : Value) : Prop :=
  match o with
  | none => out = .slice none 0 0
  | some b => ∃ ad c, out = .slice (some ad) b.length c ∧ SInts w out b ∧ low = .int .i64 (f b)
theorem BestAt.ext {f : List Int → Int} {o : Option (List Int)} {w w' : World} {out low : Value} (h : BestAt f o w out low) (hx : Ext w w') : BestAt f o w' out low := by
  cases o with
  | none => exact h
  | some b =>
    obtain ⟨ad, c, h1, h2, h3⟩ := h
    exact ⟨ad, c, h1, h2.ext hx, h3⟩
set_option maxRecDepth 100000 in
set_option maxHeartbeats 4000000 in
theorem best_any (v : Value) (rows : List (List Int)) (g : Nat) (caps : Array Value) (f : List Int → Int) (w : World) (hR : SRows w v rows) (hne : ∀ k, k < rows.length → 0 < (rw0 rows k).length)
    (hg : ∀ args W, (callFunc g args).run Tryz.prog W = .ok (.enter g args) W)
    (hp : Hid (∀ k, k < rows.length → ∀ v' W, Ext w W → SInts W v' (rw0 rows k) → Calls Tryz.prog g (#[v'] ++ caps) W (Ret (.int .i64 (f (rw0 rows k))) W))) :
    Calls Tryz.prog 46 #[v, .func (.func g) #[] caps] w (TwoRes ((bestF f rows).getD []) (bestF f rows).isSome w) := by
  have hR0 := hide hR
  obtain ⟨A, c, rfl, -, hln⟩ := hR.form
  have HNE := hide hne
  clear hR hne
  go_enter Tryz.func46, Tryz.ntmps46
  go_wp2_with fail
  go_loopw [6, 7, 13] (fun out low i wr => ∃ k : Nat, k ≤ rows.length ∧ i = .int .i64 k ∧ Ext w wr ∧ BestAt f (bestF f (rows.take k)) wr out low) (fun _ _ i _ => rows.length - (intOf i).toNat)
  case atStart => exact ⟨0, Nat.zero_le _, rfl, Ext.refl w, rfl⟩
  case round =>
    obtain ⟨k, hk, rfl, hx, hB⟩ := hrel
    have HX := hide hx
    by_cases hlt : k < rows.length
    · obtain ⟨b, off, A2, c2, rfl, hbl, f1, hrow⟩ := (hR0.out.ext hx).at_ hlt
      obtain ⟨b2, off2, rfl, -⟩ := hrow.at_ (HNE.out k hlt)
      have HROW := hide hrow
      have HST := hide (bestF_succ f hlt)
      clear hrow
      cases ho : bestF f (rows.take k) with
      | none =>
        rw [ho] at hB HST
        have hB := (hB : _ = Value.slice none 0 0)
        subst hB
        have hnil := fun (W : World) => Lib.run_eql_slice_nil (P := Tryz.prog) W 23 3 none 0 0 0 0 Tryz.underlying23
        clear hx ho
        go_wp2_with fail
        refine (hp.out k hlt _ _ HX.out HROW.out).mono ?_
        rintro e w2 ⟨rfl, hx2⟩
        go_wp2
        go_roundw
        case rel => exact ⟨k + 1, by omega, by go_num, HX.out.trans hx2, by rw [HST.out]; exact ⟨_, _, rfl, HROW.out.ext hx2, rfl⟩⟩
        case measure => simp [intOf]; omega
      | some bb =>
        rw [ho] at hB HST
        obtain ⟨ad, cc, rfl, hS, rfl⟩ := hB
        have HS := hide hS
        have hnil := fun (W : World) => Lib.run_eql_slice_nil (P := Tryz.prog) W 23 3 (some ad) bb.length cc 0 0 Tryz.underlying23
        clear hx ho hS
        by_cases hlt2 : f (rw0 rows k) < f bb
        · go_wp2_with fail
          refine (hp.out k hlt _ _ HX.out HROW.out).mono ?_
          rintro e w2 ⟨rfl, hx2⟩
          go_wp2
          go_roundw
          case rel => exact ⟨k + 1, by omega, by go_num, HX.out.trans hx2, by rw [HST.out, bstep, if_pos hlt2]; exact ⟨_, _, rfl, HROW.out.ext hx2, rfl⟩⟩
          case measure => simp [intOf]; omega
        · go_wp2_with fail
          refine (hp.out k hlt _ _ HX.out HROW.out).mono ?_
          rintro e w2 ⟨rfl, hx2⟩
          go_wp2
          go_roundw
          case rel => exact ⟨k + 1, by omega, by go_num, HX.out.trans hx2, by rw [HST.out, bstep, if_neg (by omega)]; exact ⟨_, _, rfl, HS.out.ext hx2, rfl⟩⟩
          case measure => simp [intOf]; omega
    · obtain rfl : k = rows.length := by omega
      rw [List.take_length] at hB
      cases ho : bestF f rows with
      | none =>
        rw [ho] at hB
        have hB := (hB : _ = Value.slice none 0 0)
        subst hB
        have hnil := fun (W : World) => run_neq_slice_nil_any (P := Tryz.prog) W 23 3 none 0 0 0 0 Tryz.underlying23
        have h0 : ∀ W, SInts W (.slice none 0 0) [] := fun W => ⟨none, 0, rfl, Nat.le_refl _, by simp, fun i hi => absurd hi (by simp), fun h => absurd h (by simp)⟩
        have H0 := hide h0
        have HO := hide ho
        clear hx h0 ho
        go_wp2_with fail
        refine (copied_any _ [] _ (H0.out _)).mono ?_
        rintro e w2 ⟨A5, c5, b5, m5, f5, rfl, hc5, hd5, hb5, ho5, hx5⟩
        have HE := hide (show TwoRes ((bestF f rows).getD []) (bestF f rows).isSome w (.returned (.tuple #[.slice A5 0 c5, .bool false])) w2 by rw [HO.out]; exact ⟨_, rfl, A5, c5, b5, m5, f5, rfl, hc5, hd5, Nat.le_trans HX.out.size hb5, ho5, HX.out.trans hx5⟩)
        clear hc5 hd5 hb5 ho5 hx5
        go_wp2
        go_ret2
        exact HE.out
      | some bb =>
        rw [ho] at hB
        obtain ⟨ad, cc, rfl, hS, rfl⟩ := hB
        have HS := hide hS
        have hnil := fun (W : World) => run_neq_slice_nil_any (P := Tryz.prog) W 23 3 (some ad) bb.length cc 0 0 Tryz.underlying23
        have HO := hide ho
        clear hx ho hS
        go_wp2_with fail
        refine (copied_any _ bb _ HS.out).mono ?_
        rintro e w2 ⟨A5, c5, b5, m5, f5, rfl, hc5, hd5, hb5, ho5, hx5⟩
        have HE := hide (show TwoRes ((bestF f rows).getD []) (bestF f rows).isSome w (.returned (.tuple #[.slice A5 bb.length c5, .bool true])) w2 by rw [HO.out]; exact ⟨_, rfl, A5, c5, b5, m5, f5, rfl, hc5, hd5, Nat.le_trans HX.out.size hb5, ho5, HX.out.trans hx5⟩)
        clear hc5 hd5 hb5 ho5 hx5
        go_wp2
        go_ret2
        exact HE.out
end Go.Proofs.YtalgilgfoekioaaGreatDoor
