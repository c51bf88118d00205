/- ComplementAutomaton, in the reference and in the program. -/
import Derived.Test.YtdiedghaoleblaaMcA
namespace Go.Proofs.Ytdiedghaoleblaa
open Go.RowKit

/-- The machine of all other words. -/
def negM (m : Mc) : Mc := ⟨m.nx, m.fin.map (fun b => !b)⟩
theorem negM_fin {m : Mc} (hm : MOk m) {i : Nat} (hi : i < m.nx.length) : mF (negM m) i = !mF m i := by
  unfold mF negM
  rw [getD_lt _ _ (by rw [List.length_map, hm.fl]; exact hi), getD_lt _ _ (by rw [hm.fl]; exact hi), List.getElem_map]
theorem negM_ok {m : Mc} (hm : MOk m) : MOk (negM m) := ⟨hm.pos, hm.le, by show (m.fin.map _).length = _; rw [List.length_map]; exact hm.fl, hm.six, hm.rng⟩
/-- The value of ComplementAutomaton. -/
def LimV (m : Mc) (ok : Bool) (rows : List (List Int)) (fins : List Int) : Prop :=
  ∃ r f, IsMin m r f ∧ if r.length ≤ 8 then ok = true ∧ rows = r ∧ fins = f else ok = false ∧ rows = [] ∧ fins = []
theorem LimV.uniq {m : Mc} (hm : MOk m) {ok ok' : Bool} {r r' : List (List Int)} {f f' : List Int} (h : LimV m ok r f) (h' : LimV m ok' r' f') : ok = ok' ∧ r = r' ∧ f = f' := by
  obtain ⟨r1, f1, h1, h2⟩ := h
  obtain ⟨r2, f2, h3, h4⟩ := h'
  obtain ⟨rfl, rfl⟩ := IsMin.uniq hm h1 h3
  split at h2
  · rename_i h8
    rw [if_pos h8] at h4
    exact ⟨h2.1.trans h4.1.symm, h2.2.1.trans h4.2.1.symm, h2.2.2.trans h4.2.2.symm⟩
  · rename_i h8
    rw [if_neg h8] at h4
    exact ⟨h2.1.trans h4.1.symm, h2.2.1.trans h4.2.1.symm, h2.2.2.trans h4.2.2.symm⟩
theorem LimV.ok {m : Mc} (hm : MOk m) {o : Bool} {r : List (List Int)} {f : List Int} (h : LimV m o r f) : OkA r f := by
  obtain ⟨r1, f1, h1, h2⟩ := h
  split at h2
  · obtain ⟨-, rfl, rfl⟩ := h2; exact h1.ok hm
  · obtain ⟨-, rfl, rfl⟩ := h2; exact OkA.nil_
def CmpV (a : Au) (ok : Bool) (rows : List (List Int)) (fins : List Int) : Prop :=
  if vAut a then LimV (negM (totM a)) ok rows fins else ok = false ∧ rows = [] ∧ fins = []
theorem CmpV.uniq {a : Au} {ok ok' : Bool} {r r' : List (List Int)} {f f' : List Int} (h : CmpV a ok r f) (h' : CmpV a ok' r' f') : ok = ok' ∧ r = r' ∧ f = f' := by
  unfold CmpV at h h'
  split at h
  · rename_i hv
    rw [if_pos hv] at h'
    exact h.uniq (negM_ok (totM_ok hv)) h'
  · rename_i hv
    rw [if_neg hv] at h'
    exact ⟨h.1.trans h'.1.symm, h.2.1.trans h'.2.1.symm, h.2.2.trans h'.2.2.symm⟩
theorem CmpV.ok {a : Au} {o : Bool} {r : List (List Int)} {f : List Int} (h : CmpV a o r f) : OkA r f := by
  unfold CmpV at h
  split at h
  · rename_i hv; exact h.ok (negM_ok (totM_ok hv))
  · obtain ⟨-, rfl, rfl⟩ := h; exact OkA.nil_
/-- The automaton, if it has at most eight states. -/
def limA (A A' : Option Addr) (n c n' c' : Nat) : Value := .tuple (if n ≤ 8 then #[.agg #[.slice A n c, .slice A' n' c'], .bool true] else #[.agg #[.slice none 0 0, .slice none 0 0], .bool false])
theorem limA_yes {A A' : Option Addr} {n c n' c' : Nat} (h : n ≤ 8) : limA A A' n c n' c' = .tuple #[.agg #[.slice A n c, .slice A' n' c'], .bool true] := by rw [limA, if_pos h]
theorem limA_no {A A' : Option Addr} {n c n' c' : Nat} (h : ¬ n ≤ 8) : limA A A' n c n' c' = .tuple #[.agg #[.slice none 0 0, .slice none 0 0], .bool false] := by rw [limA, if_neg h]
set_option maxHeartbeats 2000000 in
theorem limited_any (A A' : Option Addr) (n c n' c' : Nat) (w : World) :
    Calls Try.prog 50 #[.agg #[.slice A n c, .slice A' n' c']] w fun e w' => Ext w w' ∧ e = .returned (limA A A' n c n' c') := by
  have h0 := ((Apt.nil_ (Ext.refl w)).newC [.slice A n c, .slice A' n' c'] 26 rfl).newC [.slice none 0 0, .slice none 0 0] 26 rfl
  simp only [World.size_alloc] at h0
  have H0 := hide h0
  clear h0
  by_cases h8 : n ≤ 8
  · have h8I : ¬ ((n : Int) > 8) := by omega
    have H8 := hide h8
    clear h8
    go_enter Try.func50, Try.ntmps50
    go_wp2
    refine bodyPost_ret (v := .tuple #[.agg #[.slice A n c, .slice A' n' c'], .bool true]) ?res rfl ?_
    case res =>
      unfold results
      simp only [Try.f50]
      go_simp
    rw [limA_yes H8.out]
    exact ⟨by first | exact ((Ext.refl w).alloc _).alloc _ | exact ((H0.out.set 0 (w.heap.size + 1) _ rfl 0 _ (by simp)).set 0 (w.heap.size + 1) _ rfl 1 _ (by simp)).ext, rfl⟩
  · have h8I : (n : Int) > 8 := by omega
    have H8 := hide h8
    clear h8
    go_enter Try.func50, Try.ntmps50
    go_wp2
    refine bodyPost_ret (v := .tuple #[.agg #[.slice none 0 0, .slice none 0 0], .bool false]) ?res rfl ?_
    case res =>
      unfold results
      simp only [Try.f50]
      go_simp
    rw [limA_no H8.out]
    exact ⟨by first | exact ((Ext.refl w).alloc _).alloc _ | exact ((H0.out.set 0 (w.heap.size + 1) _ rfl 0 (.slice none 0 0) (by simp)).set 0 (w.heap.size + 1) _ rfl 1 (.slice none 0 0) (by simp)).ext, rfl⟩
/-- The first k bools turned. -/
def negF (L : Nat → Bool) (k j : Nat) : Bool := if j < k then !L j else L j
theorem negF_step (L : Nat → Bool) (k j : Nat) : (if j = k then !L k else negF L k j) = negF L (k + 1) j := by
  unfold negF
  by_cases e : j = k
  · subst e; rw [if_pos rfl, if_pos (by omega)]
  · rw [if_neg e]
    by_cases e2 : j < k
    · rw [if_pos e2, if_pos (by omega)]
    · rw [if_neg e2, if_neg (by omega)]
theorem RdB.congr {w : World} {g n cap : Nat} {L L' : Nat → Bool} (h : RdB w g n cap L) (hl : ∀ j, j < n → L j = L' j) : RdB w g n cap L' := ⟨h.1, h.2.choose, h.2.choose_spec.1, fun i hi => by rw [h.2.choose_spec.2 i hi, hl i hi]⟩
theorem RdB.ofApp {B : Nat} {w : World} {A : Option Addr} {n c : Nat} {bs : List Bool} (h : AppB B w (.slice A n c) bs) (hp : 0 < bs.length) : ∃ g, A = some ⟨g, 0, none⟩ ∧ n = bs.length ∧ RdB w g n c (fun i => bs.getD i false) := by
  rcases h.2 with ⟨h1, h2⟩ | ⟨g, cap, cur, h1, hg, hh, hnc, hm, hcs, htk⟩
  · omega
  · injection h1 with e1 e2 e3
    subst e1; subst e3
    refine ⟨g, rfl, e2, by omega, fun j => cur.getD j undef, ⟨cur, hh, by omega, fun i hi => by show _ = some (cur.getD i _); rw [Array.getD_eq_getD_getElem?, Array.getElem?_eq_getElem (by omega)]; rfl⟩, fun j hj => ?_⟩
    have e1 : (cur.toList.take (bs.length * 1))[j]? = (bs.map vB)[j]? := by rw [htk]
    have hj' : j < bs.length := by have := e2; omega
    rw [List.getElem?_take, if_pos (by omega), List.getElem?_map, List.getElem?_eq_getElem hj', Array.getElem?_toList] at e1
    show cur.getD j _ = _
    rw [Array.getD_eq_getD_getElem?, e1]
    show vB _ = .bool (bs.getD j false)
    rw [getD_lt _ _ hj']
    rfl
theorem Apt.setL {w0 W : World} {l : List Itm} (h : Apt w0 W l) (m : Nat) {g n cap : Nat} {L L' : Nat → Bool} (hn : l[m]? = some (iL g n cap L)) (i : Nat) (x : Bool) (hl : ∀ j, j < n → (if j = i then x else L j) = L' j) : Apt w0 (W.setCell ⟨g, i, none⟩ (.bool x)) (l.set m (iL g n cap L')) := by
  have hb : g < W.heap.size := (h.d m _ hn g rfl).2
  refine h.upd m _ _ hn ((Keep.refl _ W).set (fun _ hh => hh rfl) _) (((show RdB W g n cap L from h.p m _ hn).set i x).congr hl) (fun k hk => ⟨.inl hk, ?_⟩) (iL_st _ _ _ _)
  have : k = g := hk
  subst this
  simpa [World.setCell] using hb
end Go.Proofs.Ytdiedghaoleblaa
