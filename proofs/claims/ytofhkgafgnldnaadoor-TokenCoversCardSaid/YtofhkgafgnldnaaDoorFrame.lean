/- The frame behind a region: the one ahead of it, with the region's own slots put in. No program in sight. -/
import Derived.Test.YtofhkgafgnldnaaDoorOps
namespace Go.Proofs.YtofhkgafgnldnaaDoor
open Go.RowKit
theorem fold_put (f : Nat → Value) (ds : List Nat) : ∀ t : Array Value, ((ds.map fun d => (d, f d)).foldl (fun t p => t.setIfInBounds p.1 p.2) t).size = t.size ∧
    ∀ s, s < t.size → ((ds.map fun d => (d, f d)).foldl (fun t p => t.setIfInBounds p.1 p.2) t)[s]? = if s ∈ ds then some (f s) else t[s]? := by
  induction ds with
  | nil => intro t; simp
  | cons d ds ih =>
    intro t
    obtain ⟨h1, h2⟩ := ih (t.setIfInBounds d (f d))
    refine ⟨by simpa using h1, fun s hs => ?_⟩
    have := h2 s (by simpa using hs)
    simp only [List.map_cons, List.foldl_cons]
    rw [this]
    by_cases hm : s ∈ ds
    · rw [if_pos hm, if_pos (List.mem_cons_of_mem _ hm)]
    · rw [if_neg hm]
      by_cases e : d = s
      · subst e
        rw [if_pos List.mem_cons_self]
        simp [hs]
      · rw [if_neg (by simp only [List.mem_cons, not_or]; exact ⟨fun h => e h.symm, hm⟩)]
        simp [e]
def putAll (a0 : Act) (vs : List (Nat × Value)) : Act := ⟨vs.foldl (fun t p => t.setIfInBounds p.1 p.2) a0.tmps, a0.defers⟩
def dstsIn (ops : Array Oper) (ds : List Nat) : Bool := (List.range ops.size).all fun i => match dstOf ops i with | some d => ds.contains d | none => true
theorem held_frame {ops : Array Oper} {a0 a : Act} {w0 w : World} {N : Nat → Prop} (H : Held ops a0 w0 a w N) (ds : List Nat) (hds : dstsIn ops ds = true) : a = putAll a0 (ds.map fun d => (d, a.tmps.getD d undef)) := by
  obtain ⟨h1, h2⟩ := fold_put (fun d => a.tmps.getD d undef) ds a0.tmps
  have hsz := H.size
  have ht : a.tmps = (ds.map fun d => (d, a.tmps.getD d undef)).foldl (fun t p => t.setIfInBounds p.1 p.2) a0.tmps := by
    apply Array.ext_getElem?
    intro s
    by_cases hs : s < a0.tmps.size
    · rw [h2 s hs]
      have hs' : s < a.tmps.size := by omega
      split
      · simp [hs']
      · rename_i hm
        have hb := H.base s fun i hi => by
          have hlt : i < ops.size := by
            unfold dstOf at hi
            cases h : ops[i]? with
            | none => rw [h] at hi; cases hi
            | some o => exact (Array.getElem?_eq_some_iff.1 h).1
          have := List.all_eq_true.1 hds i (List.mem_range.2 hlt)
          rw [hi] at this
          simp only [List.contains_iff_mem] at this
          exact hm this
        simp only [Array.getD_eq_getD_getElem?, Array.getElem?_eq_getElem hs, Array.getElem?_eq_getElem hs', Option.getD_some] at hb ⊢
        rw [hb]
    · rw [Array.getElem?_eq_none (by omega), Array.getElem?_eq_none (by omega)]
  have hd := H.defers
  obtain ⟨t, d⟩ := a
  simp only at ht hd
  simp only [putAll, Act.mk.injEq]
  exact ⟨ht, hd⟩
end Go.Proofs.YtofhkgafgnldnaaDoor
