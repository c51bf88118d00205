/- A range over a function whose iterator keeps cells of its own: who may write which blocks, and the law of the statement. -/
import Derived.Test.YtjpdebgejlfeaaaDoorBase
import Derived.RangeFuncNested
import Derived.RangeFuncBound
import Derived.RangeFuncCalls
import Derived.RangeFuncLeaves
import Derived.RangeFuncFrom
import Derived.Shelf.Abstract
import Derived.Shelf.RegionOpen
import Derived.OwnWalkIn
import Derived.TacticsInMore
import Derived.LoopNIn
import Derived.LoopIn
namespace Go.Proofs.YtjpdebgejlfeaaaDoor
open Go.RowKit

/-- The blocks that S names lie as they lay; no block has gone. -/
structure Keep (S : Nat → Prop) (w w' : World) : Prop where
  os : w'.os = w.os
  tape : w'.tape = w.tape
  output : w'.output = w.output
  size : w.heap.size ≤ w'.heap.size
  block : ∀ k, k < w.heap.size → S k → w'.heap[k]? = w.heap[k]?
theorem Keep.refl (S : Nat → Prop) (w : World) : Keep S w w := ⟨rfl, rfl, rfl, Nat.le_refl _, fun _ _ _ => rfl⟩
theorem Keep.trans {S : Nat → Prop} {a b c : World} (h : Keep S a b) (k : Keep S b c) : Keep S a c :=
  ⟨k.os.trans h.os, k.tape.trans h.tape, k.output.trans h.output, Nat.le_trans h.size k.size, fun i hi hs => (k.block i (Nat.lt_of_lt_of_le hi h.size) hs).trans (h.block i hi hs)⟩
theorem Keep.mono {S T : Nat → Prop} {a b : World} (h : Keep S a b) (hst : ∀ k, k < a.heap.size → T k → S k) : Keep T a b :=
  ⟨h.os, h.tape, h.output, h.size, fun k hk ht => h.block k hk (hst k hk ht)⟩
theorem Keep.then {S T : Nat → Prop} {a b c : World} (h : Keep S a b) (k : Keep T b c) (hst : ∀ k, k < a.heap.size → S k → T k) : Keep S a c :=
  ⟨k.os.trans h.os, k.tape.trans h.tape, k.output.trans h.output, Nat.le_trans h.size k.size, fun i hi hs => (k.block i (Nat.lt_of_lt_of_le hi h.size) (hst i hi hs)).trans (h.block i hi hs)⟩
theorem Keep.drew {S : Nat → Prop} {a b : World} (h : Keep S a b) : Keep S a b.drew := ⟨h.os, h.tape, h.output, h.size, h.block⟩
theorem Keep.drewN {S : Nat → Prop} {a b : World} (h : Keep S a b) (n : Nat) : Keep S a (b.drewN n) := ⟨h.os, h.tape, h.output, h.size, h.block⟩
theorem Ext.keep {a b : World} (h : Ext a b) (S : Nat → Prop) : Keep S a b := ⟨h.os, h.tape, h.output, h.size, fun k hk _ => h.block k hk⟩
theorem Keep.alloc {S : Nat → Prop} {a b : World} (h : Keep S a b) (o : Obj) : Keep S a (b.alloc o) := h.trans (((Ext.refl b).alloc o).keep S)
theorem Keep.ext {S : Nat → Prop} {a b c : World} (h : Keep S a b) (k : Ext b c) : Keep S a c := h.trans (k.keep S)
theorem Keep.set {S : Nat → Prop} {a b : World} (h : Keep S a b) {p : Addr} (hp : p.block < a.heap.size → ¬ S p.block) (u : Value) : Keep S a (b.setCell p u) :=
  ⟨h.os, h.tape, h.output, Nat.le_trans h.size (by simp [World.setCell]), fun k hk hs => (Below.heap_setCell _ _ _ _ (fun e => hp (e ▸ hk) (e ▸ hs))).trans (h.block k hk hs)⟩
theorem Keep.put {S : Nat → Prop} {a b : World} (h : Keep S a b) {l : Nat} (hp : l < a.heap.size → ¬ S l) (o : Obj) : Keep S a (b.putObj l o) :=
  ⟨h.os, h.tape, h.output, Nat.le_trans h.size (by simp), fun k hk hs => (World.putObj_heap_other (fun e => by subst e; exact hp hk hs)).trans (h.block k hk hs)⟩
theorem Keep.cell {S : Nat → Prop} {a b : World} (h : Keep S a b) {p : Addr} (hp : p.block < a.heap.size) (hs : S p.block) : b.cell? p = a.cell? p := World.cell?_of_block (w := a) (h.block p.block hp hs)
theorem Keep.frz {S : Nat → Prop} {a b : World} (h : Keep S a b) {p : Addr} (hp : p.block < a.heap.size) (hs : S p.block) : b.frozen? p = a.frozen? p := World.frozen?_of_block (w := a) (h.block p.block hp hs)
theorem Keep.below {S : Nat → Prop} {a b : World} (h : Keep S a b) {B : Nat} (hB : B ≤ a.heap.size) (hs : ∀ k, k < B → S k) : Below B a b :=
  ⟨h.os, h.tape, h.output, h.size, fun k hk => h.block k (Nat.lt_of_lt_of_le hk hB) (hs k hk)⟩
theorem Keep.row {S : Nat → Prop} {a b : World} (h : Keep S a b) {g : Nat} {t : TypeId} {n : Nat} {f : Nat → Value} (hs : S g) (hr : a.rowIs g t n f) : b.rowIs g t n f := hr.of_block (h.block g hr.lt hs)

/-- What a round may do: write the blocks that it owns, make new ones, own some of these. -/
structure Own (own own' : Nat → Prop) (W W' : World) : Prop where
  keep : Keep (fun k => ¬ own k) W W'
  grow : ∀ k, own' k → own k ∨ W.heap.size ≤ k
theorem Own.same {own : Nat → Prop} {W W' : World} (h : Keep (fun k => ¬ own k) W W') : Own own own W W' := ⟨h, fun _ hk => .inl hk⟩

/-- How a round ends. -/
def RoundEnd (l : Nat) (J Jx : List (List Int) → (Nat → Prop) → World → Prop) (xs : List (List Int)) (own : Nat → Prop) (W : World) (e : Ending) (W' : World) : Prop :=
  ∃ own', Keep (fun k => ¬ own k ∧ k ≠ l) W W' ∧ (∀ k, own' k → own k ∨ W.heap.size ≤ k) ∧ ((e = .returned (.bool true) ∧ J xs own' W') ∨ (e = .returned (.bool false) ∧ Jx xs own' W'))
/-- What an iterator's steps leave to the caller: all but m blocks from B on. -/
def Stays (B m : Nat) (J : List (List Int) → (Nat → Prop) → World → Prop) : Prop :=
  ∀ s own W1 W2, J s own W1 → Keep (fun k => k < B ∨ B + m ≤ k) W1 W2 → J s own W2
/-- How the iterator ends: all have come, or a round has said no more. -/
def TupsEnd (J Jx : List (List Int) → (Nat → Prop) → World → Prop) (all : List (List Int)) (e : Ending) (W' : World) : Prop :=
  (∃ v, e = .returned v) ∧ ((∃ own, J all own W') ∨ (∃ pre own, pre <+: all ∧ Jx pre own W'))
/-- One tuple as yield gets it. -/
def TupAt (own : Nat → Prop) (W : World) (b : Nat) (x : List Int) : Prop :=
  SInts W (.slice (some ⟨b, 0, none⟩) x.length x.length) x ∧ ¬ own b ∧ b < W.heap.size ∧ 0 < x.length
/-- The iterator's contract. -/
def Tups (F : Fence) (n : Nat) (P : Program) (g : Nat) (lb : Array Value) (all : List (List Int)) (Fx : Nat → Prop) (w : World) : Prop :=
  ∀ (l : Nat) (J Jx : List (List Int) → (Nat → Prop) → World → Prop) (W : World) (own0 : Nat → Prop), Ext w W → w.heap.size ≤ l → l < W.heap.size → (∀ k, Fx k → ¬ own0 k) → Stays W.heap.size 4 J → Stays W.heap.size 4 Jx →
    (∀ s own W1, J s own W1 → ∀ k, own k → k < W1.heap.size) → (∀ k, own0 k → k < W.heap.size) →
    (∀ pre x b own W1, J pre own W1 → (pre ++ [x]) <+: all → TupAt own W1 b x → W.heap.size + 4 ≤ W1.heap.size →
      YieldAt F (n - 1) P l #[.slice (some ⟨b, 0, none⟩) x.length x.length] W1 (RoundEnd l J Jx (pre ++ [x]) own W1)) →
    J [] own0 W →
    CallsIn F n P g (#[.func (.yield l) #[] #[]] ++ lb) W (TupsEnd J Jx all)

/-- How the body of a round may be left. -/
def tupPost (I : List (List Int) → (Nat → Prop) → World → Prop) (Ix : Code → List (List Int) → (Nat → Prop) → World → Prop) (xs : List (List Int)) (own : Nat → Prop) (W : World) : Exit → Act → World → Prop
  | .normal, _, W' => ∃ own', Own own own' W W' ∧ I xs own' W'
  | .ret, _, W' => ∃ own', Own own own' W W' ∧ Ix .ret xs own' W'
  | .exit id, _, W' => ∃ own', Own own own' W W' ∧ Ix (.exit id) xs own' W'
  | .goto t, _, W' => ∃ own', Own own own' W W' ∧ Ix (.goto t) xs own' W'
  | .panic _, _, _ => False
  | .outgrown, _, _ => False

theorem TupAt.stay {own : Nat → Prop} {W W' : World} {b : Nat} {x : List Int} (h : TupAt own W b x) (hs : W.heap.size ≤ W'.heap.size) (hb : W'.heap[b]? = W.heap[b]?) : TupAt own W' b x := by
  obtain ⟨⟨A, c, h1, h2, h3, h4, h5⟩, hn, hl, hlen⟩ := h
  refine ⟨⟨A, c, h1, h2, h3, h4, fun hp => ?_⟩, hn, Nat.lt_of_lt_of_le hl hs, hlen⟩
  obtain ⟨b', off, e, hb', hc⟩ := h5 hp
  injection h1 with h1
  rw [← h1] at e; injection e with e; injection e with e1 e2; subst e1; subst e2
  exact ⟨b, 0, h1.symm, Nat.lt_of_lt_of_le hl hs, fun i hi => (World.cell?_of_block (w := W) (a := ⟨b, 0 + i, none⟩) hb).trans (hc i hi)⟩

/-- A contract out of the body, where it holds a range over a function. -/
theorem calls_marks {P : Program} {f : FuncId} {fn : Func} {c : Code} {args : Array Value} {w : World} {R : Ending → World → Prop} (hf : P.funcs[f]? = some fn) (hb : fn.body = some c)
    (h : c.wp P (bodyPostM Fence.wide 3 P fn R) { tmps := args ++ Array.replicate (fn.ntmps - args.size) undef, defers := [] } w) : Calls P f args w R :=
  callsIn_wide.1 (callsIn_of_wp_marks (n := 3) hf hb trivial (wpIn_wide.2 h) rfl)
/-- The statement `for x := range g { .. }` over such an iterator. -/
theorem wpIn_tups {F : Fence} {n : Nat} {P : Program} {g : Operand} {ps : Array Tmp} {assign body : Code} {Q : Exit → Act → World → Prop} {a : Act} {w : World}
    (hro : F.round = none) (h1 : 1 ≤ n) {gf : Nat} {lb : Array Value} (hg : a.eval g = .func (.func gf) #[] lb) (hFg : F.fn gf) (eg : ∀ args w, (callFunc gf args).run P w = .ok (.enter gf args) w)
    {all : List (List Int)} {Fx : Nat → Prop} {w0 : World} (hseq : Tups F (n - 1) P gf lb all Fx w0) (hb0 : Ext w0 w) (hps : ps.size = 1)
    (I : List (List Int) → (Nat → Prop) → World → Prop) (Ix : Code → List (List Int) → (Nat → Prop) → World → Prop)
    (hI : Stays w.heap.size 6 I) (hIx : ∀ c, Stays w.heap.size 6 (Ix c)) (hIo : ∀ s own W1, I s own W1 → ∀ k, own k → k < W1.heap.size)
    (own0 : Nat → Prop) (hfx : ∀ k, Fx k → ¬ own0 k) (h00 : ∀ k, own0 k → k < w.heap.size) (h0 : I [] own0 w) (a₁ : Value → Act)
    (hassign : ∀ (l : Nat) (v : Value) (W : World) (K : Act → World → Prop), K (a₁ v) W →
      assign.wpIn (F.inRound l) (n - 1 - 1) P (Exit.then K (fun _ _ _ => False)) { tmps := (ps.zip #[v]).foldl (fun t (p, v) => t.setIfInBounds p v) a.tmps, defers := [] } W)
    (hbody : ∀ (l : Nat) (pre : List (List Int)) (x : List Int) (b : Nat) (own : Nat → Prop) (W : World), I pre own W → (pre ++ [x]) <+: all → TupAt own W b x → w.heap.size + 6 ≤ W.heap.size →
      body.wpIn (F.inRound l) (n - 1 - 1) P (tupPost I Ix (pre ++ [x]) own W) (a₁ (.slice (some ⟨b, 0, none⟩) x.length x.length)) W)
    (hdone : ∀ (D : Nat) (own : Nat → Prop) (W : World), w.heap.size ≤ D → ¬ own D → I all own W → W.heap[D]? = some (.deferred (some [])) → Q .normal { a with defers := { target := .collected D, args := #[] } :: a.defers } W)
    (hstop : ∀ (D : Nat) (c : Code) (pre : List (List Int)) (own : Nat → Prop) (W : World), w.heap.size ≤ D → ¬ own D → pre <+: all → Ix c pre own W → W.heap[D]? = some (.deferred (some [])) → c.wpIn F n P Q { a with defers := { target := .collected D, args := #[] } :: a.defers } W) :
    (Code.rangeFunc g ps assign body).wpIn F n P Q a w := by
  refine wpIn_rangeFunc ?_
  intro fn hfn
  rw [hro]
  obtain ⟨rec, hrec⟩ : ∃ rec : LoopState → Option Code → Loop, rec = fun st pe => { state := st, pending := pe, fn, tmps := a.tmps, params := ps, assign, body, defers := w.heap.size } := ⟨_, rfl⟩
  obtain ⟨W1, hW1⟩ : ∃ W1, (w.alloc (.deferred (some []))).alloc (.loop (rec .ready none)) = W1 := ⟨_, rfl⟩
  have hL1 : W1.heap[w.heap.size + 1]? = some (.loop (rec .ready none)) := by
    rw [← hW1]; have := World.alloc_heap_new (w.alloc (.deferred (some []))) (.loop (rec .ready none)); rwa [World.size_alloc] at this
  have hK1 : W1.heap[w.heap.size]? = some (.deferred (some [])) := by
    rw [← hW1]; exact (Below.heap_alloc _ _ _ (by simp)).trans (World.alloc_heap_new w _)
  have hx1 : Ext w W1 := by rw [← hW1]; exact ((Ext.refl w).alloc _).alloc _
  have hz1 : W1.heap.size = w.heap.size + 2 := by rw [← hW1]; simp
  refine ⟨w.heap.size + 1, [{ target := .collected w.heap.size, args := #[] }], W1, { target := .fn (.func gf) lb, args := #[.func (.yield (w.heap.size + 1)) #[] #[]] }, W1, gf,
    #[.func (.yield (w.heap.size + 1)) #[] #[]] ++ lb, W1, ?_, ?_, ?_, ?_, fun _ => h1, ?_⟩
  · rw [← hW1, hrec]; exact run_enterLoop_outer _ _ _ _ _
  · simp only [resolve, hg]
    simp [go_sem]
  · intro f' hf'; simp [Target.leads] at hf'; subst hf'; exact hFg
  · simp [invoke, go_sem, eg]
  · refine (hseq (w.heap.size + 1)
      (fun pre own W => (I pre own W ∧ ¬ own (w.heap.size + 1) ∧ ¬ own w.heap.size) ∧ W.heap[w.heap.size + 1]? = some (.loop (rec .ready none)) ∧ W.heap[w.heap.size]? = some (.deferred (some [])))
      (fun pre own W => ∃ c, (Ix c pre own W ∧ ¬ own (w.heap.size + 1) ∧ ¬ own w.heap.size) ∧ W.heap[w.heap.size + 1]? = some (.loop (rec .done (some c))) ∧ W.heap[w.heap.size]? = some (.deferred (some [])))
      W1 own0 (hb0.trans hx1) (by have := hb0.size; omega) (by omega) hfx
      (fun s own A B hs hk => by
        obtain ⟨⟨hi, ho1, ho2⟩, hl, hd⟩ := hs
        refine ⟨⟨hI s own A B hi (hk.mono fun k _ h => by omega), ho1, ho2⟩, ?_, ?_⟩
        · exact (hk.block _ (Array.getElem?_eq_some_iff.1 hl).1 (.inl (by omega))).trans hl
        · exact (hk.block _ (Array.getElem?_eq_some_iff.1 hd).1 (.inl (by omega))).trans hd)
      (fun s own A B hs hk => by
        obtain ⟨c, ⟨hi, ho1, ho2⟩, hl, hd⟩ := hs
        refine ⟨c, ⟨hIx c s own A B hi (hk.mono fun k _ h => by omega), ho1, ho2⟩, ?_, ?_⟩
        · exact (hk.block _ (Array.getElem?_eq_some_iff.1 hl).1 (.inl (by omega))).trans hl
        · exact (hk.block _ (Array.getElem?_eq_some_iff.1 hd).1 (.inl (by omega))).trans hd)
      (fun s own A hs => hIo s own A hs.1.1) (fun k hk => by have := h00 k hk; omega)
      ?_ ⟨⟨hI [] own0 w W1 h0 (hx1.keep _), fun h => by have := h00 _ h; omega, fun h => by have := h00 _ h; omega⟩, hL1, hK1⟩).mono ?_
    · rintro pre x b own W ⟨⟨hi, ho1, ho2⟩, hl, hk⟩ hpre ht hz4
      have hlt : w.heap.size + 1 < W.heap.size := (Array.getElem?_eq_some_iff.1 hl).1
      have hbl : b ≠ w.heap.size + 1 := fun e => by
        have h := ht.1.cell_ ht.2.2.2
        rw [e] at h
        simp [World.cell?, hl] at h
      have hy := run_yield (P := P) (args := #[.slice (some ⟨b, 0, none⟩) x.length x.length]) hl (by rw [hrec]; simp [hps])
      rw [hrec] at hy
      refine ⟨fn, _, assign, body, hy, roundIn_of_wpIn hfn (hassign _ _ W _ ⟨_, run_beginRound hl (by rw [hrec]), ?_⟩)⟩
      have hl2 : (W.putObj (w.heap.size + 1) (.loop { rec .ready none with state := .busy })).heap[w.heap.size + 1]? = some (.loop { rec .ready none with state := .busy }) := World.putObj_heap_same hlt
      have hk2 : (W.putObj (w.heap.size + 1) (.loop { rec .ready none with state := .busy })).heap[w.heap.size]? = some (.deferred (some [])) := (World.putObj_heap_other (by omega)).trans hk
      have keep2 : Keep (fun k => k < w.heap.size ∨ w.heap.size + 6 ≤ k) W (W.putObj (w.heap.size + 1) (.loop { rec .ready none with state := .busy })) :=
        (Keep.refl _ W).put (fun _ h => by omega) _
      refine wpIn_mono (hbody _ pre x b own _ (hI _ own _ _ hi keep2) hpre (ht.stay (by simp) (World.putObj_heap_other hbl)) (by simp; omega)) ?_
      have fin : ∀ (jump : Option Code) (own' : Nat → Prop) (W3 : World), Own own own' (W.putObj (w.heap.size + 1) (.loop { rec .ready none with state := .busy })) W3 →
          (Instr.endRound (w.heap.size + 1) jump).run P W3 = .ok (.bool jump.isNone) (W3.putObj (w.heap.size + 1) (.loop (rec (if jump.isNone then .ready else .done) jump))) ∧
          Keep (fun k => k < w.heap.size ∨ w.heap.size + 6 ≤ k) W3 (W3.putObj (w.heap.size + 1) (.loop (rec (if jump.isNone then .ready else .done) jump))) ∧ ¬ own' (w.heap.size + 1) ∧ ¬ own' w.heap.size ∧
          Keep (fun k => ¬ own k ∧ k ≠ w.heap.size + 1) W (W3.putObj (w.heap.size + 1) (.loop (rec (if jump.isNone then .ready else .done) jump))) ∧ (∀ k, own' k → own k ∨ W.heap.size ≤ k) ∧
          (W3.putObj (w.heap.size + 1) (.loop (rec (if jump.isNone then .ready else .done) jump))).heap[w.heap.size + 1]? = some (.loop (rec (if jump.isNone then .ready else .done) jump)) ∧
          (W3.putObj (w.heap.size + 1) (.loop (rec (if jump.isNone then .ready else .done) jump))).heap[w.heap.size]? = some (.deferred (some [])) := fun jump own' W3 ho => by
        have hl3 : W3.heap[w.heap.size + 1]? = some (.loop { rec .ready none with state := .busy }) := (ho.keep.block _ (by simpa using hlt) ho1).trans hl2
        have hk3 : W3.heap[w.heap.size]? = some (.deferred (some [])) := (ho.keep.block _ (by simp; omega) ho2).trans hk2
        have n1 : ¬ own' (w.heap.size + 1) := fun h => (ho.grow _ h).elim ho1 (fun h => by simp at h; omega)
        have n2 : ¬ own' w.heap.size := fun h => (ho.grow _ h).elim ho2 (fun h => by simp at h; omega)
        have := run_endRound (P := P) jump hl3
        rw [hrec] at this ⊢
        refine ⟨this, (Keep.refl _ _).put (fun _ h => by omega) _, n1, n2, ?_, fun k hk' => (ho.grow k hk').imp_right fun h => by simpa using h, World.putObj_heap_same (Array.getElem?_eq_some_iff.1 hl3).1, (World.putObj_heap_other (by omega)).trans hk3⟩
        have kk : Keep (fun k => ¬ own k ∧ k ≠ w.heap.size + 1) W (W.putObj (w.heap.size + 1) (.loop { rec .ready none with state := .busy })) := (Keep.refl _ W).put (fun _ h => h.2 rfl) _
        rw [hrec] at kk ho
        exact (kk.trans (ho.keep.mono fun _ _ h => h.1)).put (fun _ h => h.2 rfl) _
      rintro e a3 W3 hp
      cases e with
      | normal =>
        obtain ⟨own', ho, hi3⟩ := hp
        obtain ⟨hr, k3, n1, n2, kk, gg, hl4, hk4⟩ := fin none own' W3 ho
        exact ⟨_, _, hr, own', kk, gg, .inl ⟨rfl, ⟨hI _ own' _ _ hi3 k3, n1, n2⟩, hl4, hk4⟩⟩
      | ret =>
        obtain ⟨own', ho, hi3⟩ := hp
        obtain ⟨hr, k3, n1, n2, kk, gg, hl4, hk4⟩ := fin (some .ret) own' W3 ho
        exact ⟨_, _, hr, own', kk, gg, .inr ⟨rfl, .ret, ⟨hIx _ _ own' _ _ hi3 k3, n1, n2⟩, hl4, hk4⟩⟩
      | exit id =>
        obtain ⟨own', ho, hi3⟩ := hp
        obtain ⟨hr, k3, n1, n2, kk, gg, hl4, hk4⟩ := fin (some (.exit id)) own' W3 ho
        exact ⟨_, _, hr, own', kk, gg, .inr ⟨rfl, .exit id, ⟨hIx _ _ own' _ _ hi3 k3, n1, n2⟩, hl4, hk4⟩⟩
      | goto t =>
        obtain ⟨own', ho, hi3⟩ := hp
        obtain ⟨hr, k3, n1, n2, kk, gg, hl4, hk4⟩ := fin (some (.goto t)) own' W3 ho
        exact ⟨_, _, hr, own', kk, gg, .inr ⟨rfl, .goto t, ⟨hIx _ _ own' _ _ hi3 k3, n1, n2⟩, hl4, hk4⟩⟩
      | panic ch => exact hp.elim
      | outgrown => exact hp.elim
    · rintro e W2 ⟨⟨v, rfl⟩, (⟨own, ⟨hi, ho1, ho2⟩, hl, hk⟩ | ⟨pre, own, hSp, c, ⟨hi, ho1, ho2⟩, hl, hk⟩)⟩
      · exact ⟨none, _, by have := run_endLoop (P := P) hl (by rw [hrec]; simp); rw [hrec] at this; exact this, hdone _ own _ (Nat.le_refl _) ho2 (hI _ own _ _ hi ((Keep.refl _ _).put (fun _ h => by omega) _)) ((World.putObj_heap_other (by omega)).trans hk)⟩
      · exact ⟨some c, _, by have := run_endLoop (P := P) hl (by rw [hrec]; simp); rw [hrec] at this; exact this, hstop _ c pre own _ (Nat.le_refl _) ho2 hSp (hIx c _ own _ _ hi ((Keep.refl _ _).put (fun _ h => by omega) _)) ((World.putObj_heap_other (by omega)).trans hk)⟩
end Go.Proofs.YtjpdebgejlfeaaaDoor
