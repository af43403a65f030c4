/- The walk's rules in a frame of any kind: a function's, or a round's of a range over a function. -/
import Derived.OrdersIn
import Derived.RangeFuncIn
set_option linter.unusedVariables false
set_option linter.unusedSimpArgs false
namespace Go.Am
variable {P : Program} {ro : Option Nat}
/-- No fence at all, but for what round the frame is of. -/
abbrev FR (ro : Option Nat) : Fence := { fn := fun _ => True, depth := none, alive := false, round := ro }
theorem wpIn_op {o : Oper} {a : Act} {w : World} {K : Act → World → Prop} {Q : Exit → Act → World → Prop} {r : Result Next} (h : ∀ c, o.op ≠ .defer c) (hr : (execOp a.eval o).run P w = r) (hu : o.uponIn (FR ro) 0 P a K Q r) : o.wpIn (FR ro) 0 P a w K Q :=
  ⟨fun _ _ => trivial, by rw [Oper.semAt_eq _ _ _ h, hr]; exact hu⟩
theorem wpIn_dfr {o : Oper} {a : Act} {w : World} {K : Act → World → Prop} {Q : Exit → Act → World → Prop} {r : Result Next} (h : ro = none) (hr : (execOp a.eval o).run P w = r) (hu : o.uponIn (FR ro) 0 P a K Q r) : o.wpIn (FR ro) 0 P a w K Q := by
  subst h
  exact ⟨fun _ _ => trivial, by rw [Oper.semAt_none, hr]; exact hu⟩
theorem callsFR {n : Nat} {f : FuncId} {us : Array Value} {w : World} {R : Ending → World → Prop} (h : Go.Calls P f us w R) : CallsIn (FR ro) n P f us w R := (callsIn_wide (n := n)).2 h
theorem roundFR {n l : Nat} {f : FuncId} {us : Array Value} {asg body : Code} {w : World} {R : Ending → World → Prop} (h : RoundIn (FR none) 0 P l f us asg body w R) : RoundIn (FR ro) n P l f us asg body w R :=
  ⟨trivial, fun c cs _ => h.2 c cs (room_wide _)⟩
/-- A loop whose rounds are numbered downwards. -/
theorem wpIn_loop_n {F : Fence} {n0 : Nat} {Q : Exit → Act → World → Prop} {c : Code} (I : Nat → Act → World → Prop)
    (round : ∀ n a w, I n a w → c.wpIn F n0 P (Exit.then (fun a' w' => ∃ m, m < n ∧ I m a' w') Q) a w) {n : Nat} {a : Act} {w : World} (h : I n a w) : (Code.loop c).wpIn F n0 P Q a w := by
  intro b k cs hro hb hr
  have key : ∀ n a w, I n a w → ∃ e a' w', Q e a' w' ∧ ArrivesIn (Machine.fenced P F) P (lone (b.atR a (.code c :: .inLoop c :: k)) cs w) b k cs e a' w' := by
    intro n
    induction n using Nat.strongRecOn with
    | _ n ih =>
      intro a w hI
      obtain ⟨e, a₁, w₁, hq, harr⟩ := round n a w hI b (.inLoop c :: k) cs hro hb hr
      cases e with
      | normal =>
        obtain ⟨m, hlt, hI₁⟩ := hq
        obtain ⟨e₂, a₂, w₂, hq₂, harr₂⟩ := ih m hlt a₁ w₁ hI₁
        exact ⟨e₂, a₂, w₂, hq₂, .of_steps (StepsIn.trans harr (.one (fenced_calm hb hr rfl) stepR_inLoop)) harr₂⟩
      | exit id => exact ⟨_, a₁, w₁, hq, .pass (x := .inLoop c) rfl (fun _ _ => .inl (by simp)) harr⟩
      | goto l => exact ⟨_, a₁, w₁, hq, .pass (x := .inLoop c) rfl (fun _ _ => .inl (by simp)) harr⟩
      | ret => exact ⟨_, a₁, w₁, hq, .pass (x := .inLoop c) rfl (fun _ _ => .inl (by simp)) harr⟩
      | panic ch => exact ⟨_, a₁, w₁, hq, .pass (x := .inLoop c) rfl (fun _ _ => .inl (by simp)) harr⟩
      | outgrown => exact ⟨_, a₁, w₁, hq, .pass (x := .inLoop c) rfl (fun _ _ => .inl (by simp)) harr⟩
  obtain ⟨e, a', w', hq, harr⟩ := key n a w h
  exact ⟨e, a', w', hq, .of_steps (.one (fenced_calm hb hr rfl) stepR_loop) harr⟩
end Go.Am
