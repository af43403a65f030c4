/- A walk of regions that have readers which no edge orders to a writer. -/
import Derived.Test.YtdgkaachkodimaaDoorAmLibs
set_option linter.unusedVariables false
set_option linter.unusedSimpArgs false
namespace Go.Am
variable {T : Tab}
/-- One operation after the other; the states are kept. -/
def WT (T : Tab) : List AOper → AState → List AState → (List AState → AState → Prop) → Prop
  | [], s, tr, K => K tr s
  | o :: os, s, tr, K => WO T [o] s.1 s.2 [] (fun x s' => x = .normal ∧ WT T os s' (tr ++ [s']) K)
@[simp] theorem WT_nil {s : AState} {tr : List AState} {K : List AState → AState → Prop} : WT T [] s tr K ↔ K tr s := Iff.rfl
@[simp] theorem WT_cons {o : AOper} {os : List AOper} {s : AState} {tr : List AState} {K : List AState → AState → Prop} : WT T (o :: os) s tr K ↔ WO T [o] s.1 s.2 [] (fun x s' => x = .normal ∧ WT T os s' (tr ++ [s']) K) := Iff.rfl
theorem WT_trace : ∀ {os : List AOper} {s : AState} {tr : List AState} {K : List AState → AState → Prop}, WT T os s tr K → ∃ n l s', atrace (T.call n) os s = some (s :: l) ∧ (s :: l).getLast? = some s' ∧ K (tr ++ l) s'
  | [], s, tr, K, h => ⟨0, [], s, rfl, rfl, by rw [List.append_nil]; exact h⟩
  | o :: os, s, tr, K, h => by
    obtain ⟨n, s1, h1, h2⟩ := h
    obtain ⟨_, h2⟩ : AExit.normal = .normal ∧ WT T os s1 (tr ++ [s1]) K := h2
    obtain ⟨m, l, s', k1, k2, k3⟩ := WT_trace h2
    have e1 : aop (T.call n) o s = some s1 := by
      unfold aops at h1
      cases ha : aop (T.call n) o (s.1, s.2) with
      | none => simp [ha] at h1
      | some t => simp [ha, aops] at h1; subst h1; rfl
    refine ⟨max n m, s1 :: l, s', ?_, ?_, ?_⟩
    · unfold atrace
      rw [aop_mono (acall_mono (show n ≤ max n m by omega)) e1]
      simp only
      rw [atrace_mono (acall_mono (show m ≤ max n m by omega)) k1]
    · rw [List.getLast?_cons_cons]; exact k2
    · rw [List.append_assoc] at k3; exact k3
theorem W_floats {ops : List AOper} {dr : Bool} {f : Nat × Nat} {fl : List (Nat × Nat)} {k : List Fm} {e : Env} {H : AHeap} {R : AExit → AState → Prop}
    (h : WT T ops (e, H) [(e, H)] (fun tr s' => (f :: fl).all (floatOk ops tr) = true ∧ Wk T k .normal s' R)) : W T (.region ops dr (f :: fl)) k (e, H) R := by
  obtain ⟨n, l, s', h1, h2, h3, h4⟩ := WT_trace h
  refine ⟨n + 1, .normal, s', ?_, h4⟩
  simp only [acode, aregion]
  rw [atrace_mono (acall_mono (show n ≤ n + 1 by omega)) h1]
  simp only
  rw [if_pos (by simpa using h3)]
  rw [h2]
end Go.Am
