/- Contracts of the package list's functions: sorting by a comparator. -/
import Derived.Test.YtepgjaknkjkpaaaDoorAmLibs
import Derived.Test.YtepgjaknkjkpaaaDoorAmIrList
set_option linter.unusedVariables false
set_option linter.unusedSimpArgs false
namespace Go.Am
variable {T : Tab}

/-! ### What merging is -/
section
variable {σ α : Type}
def mergeL (cmp : σ → α → α → Int × σ) : List α → List α → σ → List α × σ
  | [], b, s => (b, s)
  | x :: a, [], s => (x :: a, s)
  | x :: a, y :: b, s =>
    if 0 < (cmp s x y).1 then (y :: (mergeL cmp (x :: a) b (cmp s x y).2).1, (mergeL cmp (x :: a) b (cmp s x y).2).2)
    else (x :: (mergeL cmp a (y :: b) (cmp s x y).2).1, (mergeL cmp a (y :: b) (cmp s x y).2).2)
  termination_by a b => a.length + b.length

def sortN (cmp : σ → α → α → Int × σ) : Nat → List α → σ → List α × σ
  | 0, l, s => (l, s)
  | n + 1, l, s =>
    if l.length < 2 then (l, s) else
      let p := sortN cmp n (l.take (l.length / 2)) s
      let q := sortN cmp n (l.drop (l.length / 2)) p.2
      mergeL cmp p.1 q.1 q.2

theorem mergeL_nil {cmp : σ → α → α → Int × σ} {b : List α} {s : σ} : mergeL cmp [] b s = (b, s) := by unfold mergeL; rfl
theorem mergeL_nil' {cmp : σ → α → α → Int × σ} {a : List α} {s : σ} : mergeL cmp a [] s = (a, s) := by cases a <;> (unfold mergeL; rfl)
theorem mergeL_cons {cmp : σ → α → α → Int × σ} {x y : α} {a b : List α} {s : σ} : mergeL cmp (x :: a) (y :: b) s =
    if 0 < (cmp s x y).1 then (y :: (mergeL cmp (x :: a) b (cmp s x y).2).1, (mergeL cmp (x :: a) b (cmp s x y).2).2)
    else (x :: (mergeL cmp a (y :: b) (cmp s x y).2).1, (mergeL cmp a (y :: b) (cmp s x y).2).2) := by
  rw [mergeL]

theorem mergeL_perm {cmp : σ → α → α → Int × σ} : ∀ (n : Nat) (a b : List α) (s : σ), a.length + b.length = n → (mergeL cmp a b s).1.Perm (a ++ b) := by
  intro n
  induction n with
  | zero => intro a b s h; cases a <;> simp_all [mergeL_nil]
  | succ n ih =>
    intro a b s h
    cases a with
    | nil => simp [mergeL_nil]
    | cons x a =>
      cases b with
      | nil => simp [mergeL_nil']
      | cons y b =>
        rw [mergeL_cons]
        split
        · have := ih (x :: a) b (cmp s x y).2 (by simp at h ⊢; omega)
          exact (this.cons y).trans (List.perm_middle.symm)
        · have := ih a (y :: b) (cmp s x y).2 (by simp at h ⊢; omega)
          exact this.cons x

theorem mergeL_tick {cmp : σ → α → α → Int × σ} {tick : σ → Nat} (ht : ∀ s x y, tick (cmp s x y).2 ≤ tick s + 1) : ∀ (n : Nat) (a b : List α) (s : σ), a.length + b.length = n → tick (mergeL cmp a b s).2 ≤ tick s + n := by
  intro n
  induction n with
  | zero => intro a b s h; cases a <;> simp_all [mergeL_nil]
  | succ n ih =>
    intro a b s h
    cases a with
    | nil => simp [mergeL_nil]
    | cons x a =>
      cases b with
      | nil => simp [mergeL_nil']
      | cons y b =>
        rw [mergeL_cons]
        have h0 := ht s x y
        split
        · have := ih (x :: a) b (cmp s x y).2 (by simp at h ⊢; omega)
          simp only; omega
        · have := ih a (y :: b) (cmp s x y).2 (by simp at h ⊢; omega)
          simp only; omega

theorem sortN_perm {cmp : σ → α → α → Int × σ} : ∀ (n : Nat) (l : List α) (s : σ), (sortN cmp n l s).1.Perm l
  | 0, l, s => .refl _
  | n + 1, l, s => by
    unfold sortN
    split
    · exact .refl _
    · simp only
      refine (mergeL_perm _ _ _ _ rfl).trans ?_
      have h1 := sortN_perm (cmp := cmp) n (l.take (l.length / 2)) s
      have h2 := sortN_perm (cmp := cmp) n (l.drop (l.length / 2)) (sortN cmp n (l.take (l.length / 2)) s).2
      refine (h1.append h2).trans ?_
      rw [List.take_append_drop]

theorem sortN_tick {cmp : σ → α → α → Int × σ} {tick : σ → Nat} (ht : ∀ s x y, tick (cmp s x y).2 ≤ tick s + 1) : ∀ (n : Nat) (l : List α) (s : σ), tick (sortN cmp n l s).2 ≤ tick s + l.length * n
  | 0, l, s => by simp [sortN]
  | n + 1, l, s => by
    unfold sortN
    split
    · simp only; omega
    · simp only
      have h1 := sortN_tick ht n (l.take (l.length / 2)) s
      have h2 := sortN_tick ht n (l.drop (l.length / 2)) (sortN cmp n (l.take (l.length / 2)) s).2
      have p1 := (sortN_perm (cmp := cmp) n (l.take (l.length / 2)) s).length_eq
      have p2 := (sortN_perm (cmp := cmp) n (l.drop (l.length / 2)) (sortN cmp n (l.take (l.length / 2)) s).2).length_eq
      have h3 := mergeL_tick ht _ (sortN cmp n (l.take (l.length / 2)) s).1 (sortN cmp n (l.drop (l.length / 2)) (sortN cmp n (l.take (l.length / 2)) s).2).1 (sortN cmp n (l.drop (l.length / 2)) (sortN cmp n (l.take (l.length / 2)) s).2).2 rfl
      rw [p1, p2] at h3
      have e : (l.take (l.length / 2)).length + (l.drop (l.length / 2)).length = l.length := by simp; omega
      have e2 : (l.take (l.length / 2)).length * n + (l.drop (l.length / 2)).length * n = l.length * n := by rw [← Nat.add_mul, e]
      rw [Nat.mul_add, Nat.mul_one]
      omega
end

/-- What a comparator keeps to. -/
structure CmpOk {σ α : Type} (T : Tab) (enc : α → AV) (f : Nat) (caps : List AV) (n0 : Nat) (D : Nat → Prop) (CI : σ → AHeap → Prop) (cmp : σ → α → α → Int × σ) (ok : α → Prop) (tick : σ → Nat) (N : Nat) : Prop where
  step : ∀ s x y, tick (cmp s x y).2 ≤ tick s + 1
  low : ∀ g, D g → g < n0
  call : ∀ s H x y, ok x → ok y → tick s < N → WF H → n0 ≤ H.next → CI s H → Calls T f (enc x :: enc y :: caps) H fun v H' => v = .int .i64 (cmp s x y).1 ∧ WF H' ∧ CI (cmp s x y).2 H' ∧ Keeps D H H'
  stable : ∀ s H H', WF H → n0 ≤ H.next → CI s H → Keeps (n0 ≤ ·) H H' → CI s H'

theorem c148 (D : D148 T) {H : AHeap} {n : Int} : Calls T 148 [.int .i64 n] H fun v H' => H' = H ∧ v = .int .i64 (if 200 < n then 3 else 0) := by
  refine Calls.fn D.pr D.fn ?_
  simp [ir148]
  refine WB.bool ?_ ?_ <;> intro h <;> simp at h <;> simp [h]

theorem c173 (D : D173 T) {H : AHeap} (hw : WF H) {v : AV} {l : List Int} (hv : Sl encI 1 H v l) (hl : l.length ≤ 2 ^ 30) : Calls T 173 [v] H fun r H' => Fr H H' ∧ Made encI 1 H.next H' r l := by
  refine Calls.fn D.pr D.fn ?_
  obtain ⟨p, sv, cap, rfl⟩ : ∃ p sv cap, v = .slc p sv l.length cap := by obtain ⟨_, p, sv, cap, e, _⟩ := hv; exact ⟨p, sv, cap, e⟩
  simp [ir173]
  refine WB.bool ?_ ?_
  · intro h
    simp at h
    subst h
    have : l = [] := by obtain ⟨_, p, sv, cap, e, _, h⟩ := hv; cases e; exact h
    subst this
    simp
    exact ⟨.refl hw, .nil⟩
  · intro h
    simp
    have e := hw.own_new (enc := encI) (sz := 1) (l := []) (cs := []) (cap := some 0) (by simp) (by simp) (by simp) (by simp)
    obtain ⟨v', H', q1, q2, q3⟩ := app_made (bytes := 8) hw.fr_new (⟨some H.next, e, by simp⟩ : Made encI 1 H.next (H.new []) _ []) (hv.fr hw hw.fr_new) (by simp) (Cell.all _) (by simp; omega) (by simp; omega)
    simp at q1
    simp [q1]
    exact ⟨q2, q3⟩

theorem tdiv2 (n : Nat) : (n : Int).tdiv 2 = ((n / 2 : Nat) : Int) := by
  rw [Int.tdiv_eq_ediv_of_nonneg (by omega)]; omega

theorem nth_cons {α : Type} [Inhabited α] {x : α} {l : List α} : nth (x :: l) 0 = x := rfl

theorem c149 (D : D149 T) {σ : Type} {f : Nat} {caps : List AV} {n0 : Nat} {Dm : Nat → Prop} {CI : σ → AHeap → Prop} {cmp : σ → Int → Int → Int × σ} {ok : Int → Prop} {tick : σ → Nat} {N : Nat} (hc : CmpOk T encI f caps n0 Dm CI cmp ok tick N) (n : Nat) :
    ∀ (l : List Int) (v : AV) (H : AHeap) (s : σ), l.length ≤ n + 1 → n ≤ 2 ^ 20 → tick s + l.length * (n + 1) ≤ N → WF H → n0 ≤ H.next → CI s H → Rd Dm encI 1 H v l → (∀ x ∈ l, ok x) →
    Calls T 149 [v, .fn f [] caps] H fun r H' => WF H' ∧ Made encI 1 H.next H' r (sortN cmp (n + 1) l s).1 ∧ CI (sortN cmp (n + 1) l s).2 H' ∧ Keeps (fun g => Dm g ∨ H.next ≤ g) H H' := by
  induction n using Nat.strongRecOn with
  | _ n ih =>
    intro l v H s hl hn hN hw hn0 hci hv hok
    refine Calls.fn D.pr D.fn ?_
    simp [ir149, hv.sl.len]
    refine WB.bool ?_ ?_
    · intro h
      simp at h
      simp
      refine WC.of (c173 D.d173 hw hv.sl (by omega)) ?_
      rintro r H' ⟨h1, h2⟩
      simp
      have e : sortN cmp (n + 1) l s = (l, s) := by unfold sortN; rw [if_pos (by omega)]
      rw [e]
      exact ⟨h1.wf, h2, hc.stable s H H' hw hn0 hci (h1.keeps.mono fun g hg => Nat.le_trans hn0 hg), h1.keeps.mono fun g hg => .inr hg⟩
    · intro h
      simp at h
      obtain ⟨m, rfl⟩ : ∃ m, n = m + 1 := ⟨n - 1, by omega⟩
      obtain ⟨va, _, _, ca, ra⟩ := hv.cut 0 (l.length / 2) (by omega) (by omega)
      obtain ⟨vb, _, cb, _, rb⟩ := hv.cut (l.length / 2) l.length (by omega) (by omega)
      simp at ca cb ra rb
      simp (disch := omega) [hv.sl.len, tdiv2, wrap64, ca, cb]
      have hT := sortN_tick hc.step (m + 1) (l.take (l.length / 2)) s
      have hT2 := sortN_tick hc.step (m + 1) (l.drop (l.length / 2)) (sortN cmp (m + 1) (l.take (l.length / 2)) s).2
      have hLe : (l.take (l.length / 2)).length * (m + 1) + (l.drop (l.length / 2)).length * (m + 1) + l.length = l.length * (m + 1 + 1) := by
        rw [← Nat.add_mul, Nat.mul_add l.length, Nat.mul_one, ← List.length_append, List.take_append_drop]
      have hNa : tick s + (l.take (l.length / 2)).length * (m + 1) ≤ N := by omega
      have hNb : tick (sortN cmp (m + 1) (l.take (l.length / 2)) s).2 + (l.drop (l.length / 2)).length * (m + 1) ≤ N := by omega
      have hNm : tick (sortN cmp (m + 1) (l.drop (l.length / 2)) (sortN cmp (m + 1) (l.take (l.length / 2)) s).2).2 + l.length ≤ N := by omega
      refine WC.of (ih m (by omega) (l.take (l.length / 2)) va H s (by simp; omega) (by omega) hNa hw hn0 hci ra (fun x hx => hok x (List.mem_of_mem_take hx))) ?_
      rintro a0 H1 ⟨w1, m1, i1, k1⟩
      simp (disch := omega) [cb]
      refine WC.of (ih m (by omega) (l.drop (l.length / 2)) vb H1 _ (by simp; omega) (by omega) hNb w1 (Nat.le_trans hn0 k1.next) i1 (rb.keeps hw k1) (fun x hx => hok x (List.mem_of_mem_drop hx))) ?_
      rintro b0 H2 ⟨w2, m2, i2, k2⟩
      simp
      have eS : sortN cmp (m + 1 + 1) l s = mergeL cmp (sortN cmp (m + 1) (l.take (l.length / 2)) s).1 (sortN cmp (m + 1) (l.drop (l.length / 2)) (sortN cmp (m + 1) (l.take (l.length / 2)) s).2).1 (sortN cmp (m + 1) (l.drop (l.length / 2)) (sortN cmp (m + 1) (l.take (l.length / 2)) s).2).2 := by
        rw [sortN, if_neg (by omega)]
      rw [eS]
      have pA := sortN_perm (cmp := cmp) (m + 1) (l.take (l.length / 2)) s
      have pB := sortN_perm (cmp := cmp) (m + 1) (l.drop (l.length / 2)) (sortN cmp (m + 1) (l.take (l.length / 2)) s).2
      generalize sortN cmp (m + 1) (l.take (l.length / 2)) s = A at m1 m2 i1 i2 pA pB hNm ⊢
      generalize sortN cmp (m + 1) (l.drop (l.length / 2)) A.2 = B at m2 i2 pB hNm ⊢
      have lA := pA.length_eq
      have lB := pB.length_eq
      simp at lA lB
      have rA := (m1.rd (D := Dm) fun g hg => Nat.lt_of_lt_of_le (hc.low g hg) hn0).keeps w1 k2
      have rB := m2.rd (D := Dm) fun g hg => Nat.lt_of_lt_of_le (hc.low g hg) (Nat.le_trans hn0 k1.next)
      have hn2 : H.next ≤ H2.next := Nat.le_trans k1.next k2.next
      refine W_loop (fun (i : List Int × List Int × σ × List Int) e H' => WF H' ∧ Keeps (fun g => Dm g ∨ H2.next ≤ g) H2 H' ∧ CI i.2.2.1 H' ∧ e 1 = .fn f [] caps ∧ (∃ av, e 6 = av ∧ Rd Dm encI 1 H2 av i.1) ∧ (∃ bv, e 7 = bv ∧ Rd Dm encI 1 H2 bv i.2.1) ∧
        (∃ ov, e 8 = ov ∧ Made encI 1 H2.next H' ov i.2.2.2) ∧ (∀ x ∈ i.1, ok x) ∧ (∀ x ∈ i.2.1, ok x) ∧ i.1.length + i.2.1.length + i.2.2.2.length ≤ l.length ∧ tick i.2.2.1 + (i.1.length + i.2.1.length) ≤ N ∧
        mergeL cmp A.1 B.1 B.2 = (i.2.2.2 ++ (mergeL cmp i.1 i.2.1 i.2.2.1).1, (mergeL cmp i.1 i.2.1 i.2.2.1).2)) (fun i => i.1.length + i.2.1.length) (A.1, B.1, B.2, []) ?_ ?_
      · refine ⟨w2, .refl, i2, by simp, ⟨a0, by simp, rA⟩, ⟨b0, by simp, rB⟩, ⟨.slc none 0 0 none, by simp, .nil⟩, fun x hx => hok x (List.mem_of_mem_take (pA.mem_iff.1 hx)), fun x hx => hok x (List.mem_of_mem_drop (pB.mem_iff.1 hx)), by simp; omega, by simp; omega, by simp⟩
      · rintro ⟨la, lb, t, acc⟩ e H' ⟨w, kp, ci, h1, ⟨av, h6, ra⟩, ⟨bv, h7, rb⟩, ⟨ov, h8, mo⟩, oka, okb, hlen, htk, heq⟩
        simp only at ci ra rb mo oka okb hlen htk heq
        have ra' := ra.keeps w2 kp
        have rb' := rb.keeps w2 kp
        have hne : H2.next ≤ H'.next := kp.next
        have tail : (la = [] ∨ lb = []) → la.length + lb.length + acc.length ≤ l.length → ∃ v1 H3 v2 H4, wsem0 (.app 1 8) [ov, av] H' = some (v1, H3) ∧ wsem0 (.app 1 8) [v1, bv] H3 = some (v2, H4) ∧
            (WF H4 ∧ Made encI 1 H.next H4 v2 (mergeL cmp A.1 B.1 B.2).1 ∧ CI (mergeL cmp A.1 B.1 B.2).2 H4 ∧ Keeps (fun g => Dm g ∨ H.next ≤ g) H H4) := by
          intro hx hlen
          obtain ⟨v1, H3, q1, q2, q3, q4⟩ := app_n (bytes := 8) w hne mo ra'.sl (by simp) (Cell.all _) (by omega) (by omega)
          have kp3 : Keeps (fun g => Dm g ∨ H2.next ≤ g) H2 H3 := kp.trans (q3.mono fun g hg => .inr hg)
          have rb3 := rb.keeps w2 kp3
          obtain ⟨v2, H4, r1, r2, r3, r4⟩ := app_n (bytes := 8) q2 kp3.next q4 rb3.sl (by simp) (Cell.all _) (by rw [List.length_append]; omega) (by rw [List.length_append]; omega)
          refine ⟨v1, H3, v2, H4, q1, r1, r2, ?_, ?_, ?_⟩
          · have : (mergeL cmp A.1 B.1 B.2).1 = acc ++ la ++ lb := by rw [heq]; rcases hx with rfl | rfl <;> simp [mergeL_nil, mergeL_nil']
            rw [this]
            exact r4.mono hn2
          · have : (mergeL cmp A.1 B.1 B.2).2 = t := by rw [heq]; rcases hx with rfl | rfl <;> simp [mergeL_nil, mergeL_nil']
            rw [this]
            have i3 := hc.stable _ H' H3 w (by omega) ci (q3.mono fun g hg => by omega)
            exact hc.stable _ H3 H4 q2 (by have := q3.next; omega) i3 (r3.mono fun g hg => by omega)
          · have k4 : Keeps (fun g => Dm g ∨ H.next ≤ g) H1 H4 := (k2.mono fun g hg => hg.imp id fun h => Nat.le_trans k1.next h).trans ((kp3.trans (r3.mono fun g hg => .inr hg)).mono fun g hg => hg.imp id fun h => Nat.le_trans hn2 h)
            exact k1.trans k4
        cases la with
        | nil =>
          obtain ⟨v1, H3, v2, H4, q1, q2, q3⟩ := tail (.inl rfl) hlen
          simp [h1, h6, h7, h8, ra'.sl.len, rb'.sl.len, q1, q2]
          exact q3
        | cons x la =>
          have ia0 : psem (.ia 1) [av, .int .i64 0] = some (elt av 1 0) := ra'.sl.ia (by omega) (by simp)
          have ld0 := fun {K : AHeap} (hK : Rd Dm encI 1 K av (x :: la)) => hK.sl.ld (i := 0) (by omega) (by simp)
          simp only [nth_cons] at ld0
          cases lb with
          | nil =>
            obtain ⟨v1, H3, v2, H4, q1, q2, q3⟩ := tail (.inr rfl) hlen
            simp [h1, h6, h7, h8, ra'.sl.len, rb'.sl.len, q1, q2]
            exact q3
          | cons y lb =>
            have ib0 : psem (.ia 1) [bv, .int .i64 0] = some (elt bv 1 0) := rb'.sl.ia (by omega) (by simp)
            have le0 := fun {K : AHeap} (hK : Rd Dm encI 1 K bv (y :: lb)) => hK.sl.ld (i := 0) (by omega) (by simp)
            simp only [nth_cons] at le0
            simp [h1, h6, h7, h8, ra'.sl.len, rb'.sl.len, ia0, ib0, ld0 ra', le0 rb']
            refine WC.of (hc.call t H' x y (oka x (by simp)) (okb y (by simp)) (by simp at htk; omega) w (Nat.le_trans hn0 (Nat.le_trans hn2 hne)) ci) ?_
            rintro r H3 ⟨rfl, w3, i3, k3⟩
            have kp3 : Keeps (fun g => Dm g ∨ H2.next ≤ g) H2 H3 := kp.trans (k3.mono fun g hg => .inl hg)
            have ra3 := ra.keeps w2 kp3
            have rb3 := rb.keeps w2 kp3
            have hn3 : H2.next ≤ H3.next := kp3.next
            have mo3 := mo.keeps w k3 fun g hg _ hd => by have := hc.low g hd; omega
            simp at hlen
            have hst := hc.step t x y
            simp at htk
            simp
            refine WB.bool ?_ ?_
            · intro hgt
              simp at hgt
              obtain ⟨bv', _, cb', _, rb4⟩ := rb.cut 1 (lb.length + 1) (by omega) (by simp)
              simp at cb' rb4
              obtain ⟨ov', H4, p1, p2, p3, p4⟩ := push_n (bytes := 8) w3 hn3 mo3 y (by omega) (by omega)
              simp [-Prod.exists, h7, h8, ib0, le0 rb3, wsem0_bsl1 (v := encI y) rfl, p1, cb']
              refine ⟨(x :: la, lb, (cmp t x y).2, acc ++ [y]), by simp, ?_⟩
              refine ⟨p2, kp3.trans (p3.mono fun g hg => .inr hg), hc.stable _ H3 H4 w3 (by omega) i3 (p3.mono fun g hg => by omega), h1, ?_, rb4, p4, oka, fun z hz => okb z (by simp [hz]), by simp; omega, by simp; omega, ?_⟩
              · rw [h6]; exact ra
              · rw [heq, mergeL_cons, if_pos hgt]; simp
            · intro hgt
              simp at hgt
              obtain ⟨av', _, ca', _, ra4⟩ := ra.cut 1 (la.length + 1) (by omega) (by simp)
              simp at ca' ra4
              obtain ⟨ov', H4, p1, p2, p3, p4⟩ := push_n (bytes := 8) w3 hn3 mo3 x (by omega) (by omega)
              simp [-Prod.exists, h6, h8, ia0, ld0 ra3, wsem0_bsl1 (v := encI x) rfl, p1, ca']
              refine ⟨(la, y :: lb, (cmp t x y).2, acc ++ [x]), by simp, ?_⟩
              refine ⟨p2, kp3.trans (p3.mono fun g hg => .inr hg), hc.stable _ H3 H4 w3 (by omega) i3 (p3.mono fun g hg => by omega), h1, ra4, ?_, p4, fun z hz => oka z (by simp [hz]), okb, by simp; omega, by simp; omega, ?_⟩
              · rw [h7]; exact rb
              · rw [heq, mergeL_cons, if_neg (by omega)]; simp
end Go.Am
