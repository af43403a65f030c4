/- The law HeapCycles. -/
import Derived.Test.YtigpdaofldfkoaaAmRefI
import Derived.Test.YtigpdaofldfkoaaAmHeapS
set_option linter.unusedVariables false
set_option linter.unusedSimpArgs false
namespace Go.Am
variable {T : Tab}
theorem keys_len {es : List (Int × Int)} {n : Nat} (hk : Keys es) (h : ∀ e ∈ es, 0 ≤ e.1 ∧ e.1 < n) : es.length ≤ n := by
  have : es.map (·.1) ⊆ (List.range n).map fun (i : Nat) => (i : Int) := by
    intro a ha
    obtain ⟨e, he, rfl⟩ := List.mem_map.1 ha
    obtain ⟨h0, h1⟩ := h e he
    exact List.mem_map.2 ⟨e.1.toNat, List.mem_range.2 (by omega), by omega⟩
  have := List.Nodup.length_le_of_subset hk this
  simpa using this
theorem both_graph {A : Int} {S : Hp} {Q : Rp} (h : Both A S Q) (g : Graph Q.cells) : Shp S.cells ∧ (∀ c ∈ S.cells, ∀ t ∈ strongs c.fs, 0 ≤ t ∧ t < S.cells.length) ∧ (∀ e ∈ S.roots, 0 ≤ e.1 ∧ e.1 < S.cells.length) ∧ S.roots.length ≤ 2 ^ 20 := by
  have hl := g.shp.len
  have sl := h.sim.len
  have at_ : ∀ c ∈ S.cells, ∃ c' ∈ Q.cells, c.fs = c'.fs := by
    intro c hc
    obtain ⟨i, hi, rfl⟩ := mem_nth hc
    exact ⟨_, nth_mem (i := (i : Int)) (by omega) (by omega), (h.fs _).1⟩
  refine ⟨⟨by omega, fun c hc => ?_⟩, fun c hc t ht => ?_, fun e he => ⟨(h.ro.in_ e he).1, (h.ro.in_ e he).2.1⟩, ?_⟩
  · obtain ⟨c', hc', e⟩ := at_ c hc
    rw [e]; exact g.shp.fl c' hc'
  · obtain ⟨c', hc', e⟩ := at_ c hc
    rw [e] at ht
    rw [sl]
    exact g.to c' hc' t ht
  · have := keys_len h.ro.keys (n := S.cells.length) fun e he => ⟨(h.ro.in_ e he).1, (h.ro.in_ e he).2.1⟩
    omega
theorem cyc_mem (M : Nat → Nat → Bool) (n : Nat) (lo : Nat → Nat) : ∀ k, ∀ x ∈ (cycGo M n lo k).2, x.length ≤ n
  | 0 => by simp [cycGo]
  | k + 1 => by
    intro x hx
    unfold cycGo at hx
    split at hx
    · exact cyc_mem M n lo k x hx
    · rcases List.mem_append.1 hx with q | q
      · exact cyc_mem M n lo k x q
      · rw [List.mem_singleton] at q; subst q; exact grp_len M n k (lo k)
end Go.Am
