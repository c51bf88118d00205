/- A minimal nogood has no superfluous literal: plain Lean. -/
import Derived.Test.YtfejhenbpnijhaaGreatShrPl
import Derived.Test.YtfejhenbpnijhaaGreatRedA
namespace Go.Proofs.YtfejhenbpnijhaaGreat
open Go.RowKit

/-- What the law says. -/
theorem mng_all {ds : List Int} {cs : List Con} {ls : List Lt} (hb : mngB ds cs ls = true) : vMod ds cs = true ∧ (mngL ds cs ls).length ≤ 12 ∧ okCl (mngL ds cs ls) ds.length = true ∧ rftB cs ds (mngL ds cs ls) = true ∧ ngV ds cs (mngL ds cs ls) = true ∧ (∀ l ∈ mngL ds cs ls, l ∈ ls) ∧
    ∀ i, i < (mngL ds cs ls).length → (vMod ds cs && (okCl ((mngL ds cs ls).eraseIdx i) ds.length && rftB cs ds ((mngL ds cs ls).eraseIdx i))) = false := by
  have hb0 := hb
  simp only [mngB, Bool.and_eq_true] at hb
  obtain ⟨hv, hc, hr⟩ := hb
  obtain ⟨hg, hp, h4⟩ := vMod_good hv
  have e : mngL ds cs ls = shr (rftB cs ds) ls.length 0 ls := by rw [mngL, if_pos hb0]
  obtain ⟨q1, q2, q3⟩ := shr_min (p := rftB cs ds) (G := fun l => okCl l ds.length = true)
    (fun l i h => okCl_erase i h)
    (fun l i h hr => rft_more hg h4 hp h (okCl_erase i h) (fun x hx => List.mem_of_mem_eraseIdx hx) hr)
    ls.length 0 ls hc hr (by omega) (fun j hj => absurd hj (by omega))
  rw [← e] at q1 q2 q3
  have ho : okCl (mngL ds cs ls) ds.length = true := by rw [e]; exact shr_G (G := fun l => okCl l ds.length = true) (fun l i h => okCl_erase i h) _ _ _ hc
  have hl := okCl_len ho
  refine ⟨hv, hl, ho, q1, ?_, q3, fun i hi => by rw [q2 i hi]; simp⟩
  rw [ngV, hv, ho, ng_of_rft hg h4 ho q1]
  rfl
end Go.Proofs.YtfejhenbpnijhaaGreat
