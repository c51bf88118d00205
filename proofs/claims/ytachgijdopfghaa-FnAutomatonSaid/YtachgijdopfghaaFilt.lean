/- filter of the program: what a constraint leaves of the domains. -/
import Derived.Test.YtachgijdopfghaaSatZ
import Derived.Test.YtachgijdopfghaaTupA
import Derived.Test.YtachgijdopfghaaRFR
import Derived.Test.YtachgijdopfghaaCpA
namespace Go.Proofs.Ytachgijdopfghaa
open Go.RowKit Go.Shelf
attribute [local go_sem] Oper.semAt_some

/-- What a constraint leaves of the domains. -/
def filtL (c : Con) (ds : List Int) : List Int := filtP (satB c) c.vars ds
theorem SInts.stay {S : Nat → Prop} {w w' : World} {b off n c : Nat} {xs : List Int} (h : SInts w (.slice (some ⟨b, off, none⟩) n c) xs) (hk : Keep S w w') (hb : S b) : SInts w' (.slice (some ⟨b, off, none⟩) n c) xs := by
  obtain ⟨A, c', e1, e2, e3, e4, e5⟩ := h
  refine ⟨A, c', e1, e2, e3, e4, fun hp => ?_⟩
  obtain ⟨b', o, ea, hb', hc⟩ := e5 hp
  injection e1 with e1
  have e1 := Option.some.inj (e1.trans ea)
  injection e1 with e6 e7
  subst e6
  exact ⟨b, o, ea, Nat.lt_of_lt_of_le hb' hk.size, fun i hi => (hk.cell (p := ⟨b, o + i, none⟩) hb' hb).trans (hc i hi)⟩
/-- What holds between two rounds: row g holds what the tuples so far have. -/
structure FilI (p : List Int → Bool) (n g B : Nat) (w1 : World) (pre : List (List Int)) (own : Nat → Prop) (W : World) : Prop where
  row : W.rowIs g 3 n (fun i => .int .i64 (at0 (leftT p (zer n) pre) i))
  box : W.cell? ⟨B, 0, none⟩ = some (.slice (some ⟨g, 0, none⟩) n n)
  ext : Ext w1 W
  own : ∀ k, own k ↔ k = g
  gw : w1.heap.size ≤ g
  bb : B < W.heap.size
  bg : B ≠ g
theorem FilI.stays {p : List Int → Bool} {n g B : Nat} {w1 : World} {z : Nat} (hz : g < z ∧ B < z ∧ w1.heap.size ≤ z) : Stays z 6 (FilI p n g B w1) := by
  intro s own W1 W2 h hk
  exact ⟨hk.row (.inl hz.1) h.row, (hk.cell (p := ⟨B, 0, none⟩) h.bb (.inl hz.2.1)).trans h.box, Below.trans h.ext (hk.below h.ext.size (fun k hk' => .inl (by omega))), h.own, h.gw, Nat.lt_of_lt_of_le h.bb hk.size, h.bg⟩
theorem leftT_snoc (p : List Int → Bool) (l : List Int) (pre : List (List Int)) (x : List Int) : leftT p l (pre ++ [x]) = if p x then orT (leftT p l pre) x else leftT p l pre := by
  unfold leftT; rw [List.foldl_append]; rfl
/-- The first k places of the row have been laid over. -/
def orK (l x : List Int) (k j : Nat) : Int := if j < k then orV (at0 l j) (at0 x j) else at0 l j
theorem orK_zero (l x : List Int) (j : Nat) : orK l x 0 j = at0 l j := by simp [orK]
theorem orK_step (l x : List Int) (k j : Nat) : (if j = k then Value.int .i64 (orV (at0 l k) (at0 x k)) else .int .i64 (orK l x k j)) = .int .i64 (orK l x (k + 1) j) := by
  unfold orK
  by_cases h : j = k
  · subst h; simp
  · rw [if_neg h]
    by_cases h2 : j < k
    · rw [if_pos h2, if_pos (by omega)]
    · rw [if_neg h2, if_neg (by omega)]
theorem bits_or {d : Int} (h0 : 0 ≤ d) (h1 : d ≤ 63) {v : Nat} (hv : v < 6) : bits .or .i64 d (2 ^ v) = orV d v := by
  have := fin_dv (p := fun d v => bits .or .i64 d (2 ^ v) == orV d v) (by decide +kernel) h0 h1 hv
  simpa using this
end Go.Proofs.Ytachgijdopfghaa
