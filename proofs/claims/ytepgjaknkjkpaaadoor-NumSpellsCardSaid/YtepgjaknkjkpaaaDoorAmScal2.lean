/- Contracts: numbers as decimal texts, scalars as texts and as true or false; the law of scalars. -/
import Derived.Test.YtepgjaknkjkpaaaDoorAmNumbers2
import Derived.Test.YtepgjaknkjkpaaaDoorAmNum6
set_option linter.unusedVariables false
set_option linter.unusedSimpArgs false
namespace Go.Am
variable {T : Tab}

theorem wrap32 {n : Int} (h0 : -2147483648 ≤ n) (h1 : n < 2147483648) : IntKind.i32.wrap n = n := by
  simp [IntKind.wrap, IntKind.bits, IntKind.signed]; omega

theorem enc_digit : ∀ d : Nat, d < 10 → (Utf8.encode (48 + (d : Int))).data.toList = [UInt8.ofNat (48 + d)] := by decide +kernel
theorem enc_dig {n : Int} (h0 : 0 ≤ n) (h1 : n < 10) : (Utf8.encode (48 + n)).data.toList = [UInt8.ofNat (48 + n.toNat)] := by
  obtain ⟨m, rfl⟩ : ∃ m : Nat, n = m := ⟨n.toNat, by omega⟩
  rw [Int.toNat_natCast]
  exact enc_digit m (by omega)
theorem enc_size {n : Int} (h0 : 0 ≤ n) (h1 : n < 10) : (Utf8.encode (48 + n)).size = 1 := by
  have := congrArg List.length (enc_dig h0 h1)
  simpa using this

theorem decDigits_small {n : Nat} (h : n < 10) : Lib.decDigits n = [UInt8.ofNat (48 + n)] := by rw [Lib.decDigits, dif_pos h]
theorem decDigits_big {n : Nat} (h : ¬ n < 10) : Lib.decDigits n = Lib.decDigits (n / 10) ++ [UInt8.ofNat (48 + n % 10)] := by rw [Lib.decDigits, dif_neg h]
theorem decDigits_len : ∀ (k n : Nat), n < 10 ^ (k + 1) → (Lib.decDigits n).length ≤ k + 1
  | 0, n, h => by rw [decDigits_small (by simpa using h)]; simp
  | k + 1, n, h => by
    by_cases h1 : n < 10
    · rw [decDigits_small h1]; simp
    · rw [decDigits_big h1, List.length_append]
      have := decDigits_len k (n / 10) (by rw [Nat.pow_succ] at h; omega)
      simp; omega

theorem written_pos (D : D284 T) {H : AHeap} : ∀ (k : Nat) (n : Int), 0 ≤ n → n.toNat ≤ k → n < 9223372036854775808 → Calls T 284 [.int .i64 n] H fun r H' => H' = H ∧ r = .str (Lib.decDigits n.toNat) := by
  intro k
  induction k with
  | zero =>
    intro n h0 hk hn
    obtain rfl : n = 0 := by omega
    refine Calls.fn D.pr D.fn ?_
    have e : (Utf8.encode 48).data.toList = [48] := by decide +kernel
    simp [ir284, wrap32, wrap64, e]
    exact (decDigits_small (n := 0) (by omega)).symm
  | succ k ih =>
    intro n h0 hk hn
    refine Calls.fn D.pr D.fn ?_
    simp [ir284, show ¬ n < 0 by omega]
    by_cases h1 : 10 ≤ n
    · have hq : n.tdiv 10 = n / 10 := Int.tdiv_eq_ediv_of_nonneg h0
      have hm : n.tmod 10 = n % 10 := Int.tmod_eq_emod_of_nonneg h0
      have e := enc_dig (n := n % 10) (by omega) (by omega)
      have hlen := decDigits_len 18 (n / 10).toNat (by omega)
      have hd : Lib.decDigits n.toNat = Lib.decDigits (n / 10).toNat ++ [UInt8.ofNat (48 + (n % 10).toNat)] := by
        rw [decDigits_big (by omega), show n.toNat / 10 = (n / 10).toNat by omega, show n.toNat % 10 = (n % 10).toNat by omega]
      simp (disch := omega) [h1, hq, hm, wrap64]
      refine WC.of (ih (n / 10) (by omega) (by omega) (by omega)) ?_
      rintro r K ⟨rfl, rfl⟩
      rw [hd]
      generalize Lib.decDigits (n / 10).toNat = s at *
      simp (disch := omega) [hm, wrap64, wrap32, e, enc_size, show ¬ (4611686018427387904 : Int) < s.length + 1 by omega]
    · have e := enc_dig (n := n) (by omega) (by omega)
      simp (disch := omega) [h1, wrap32, wrap64, e]
      simp [decDigits_small (n := n.toNat) (by omega)]

theorem c284 (D : D284 T) {H : AHeap} {n : Int} (h0 : -9223372036854775808 < n) (h1 : n < 9223372036854775808) : Calls T 284 [.int .i64 n] H fun r H' => H' = H ∧ r = .str (Lib.itoa n) := by
  by_cases hn : n < 0
  · refine Calls.fn D.pr D.fn ?_
    have hlen := decDigits_len 18 (-n).toNat (by omega)
    simp (disch := omega) [ir284, hn, wrap64]
    refine WC.of (written_pos D (-n).toNat (-n) (by omega) (by omega) (by omega)) ?_
    rintro r K ⟨rfl, rfl⟩
    have e : Lib.itoa n = 45 :: Lib.decDigits (-n).toNat := by unfold Lib.itoa; rw [if_pos hn, show n.natAbs = (-n).toNat by omega]
    rw [e]
    generalize Lib.decDigits (-n).toNat = s at *
    simp [show ¬ (4611686018427387904 : Int) < s.length + 1 by omega, show ¬ (4611686018427387904 : Int) < 1 + s.length by omega]
  · refine (written_pos D n.toNat n (by omega) (Nat.le_refl _) h1).imp ?_
    rintro r K ⟨rfl, rfl⟩
    exact ⟨rfl, by unfold Lib.itoa; rw [if_neg hn]⟩

/-- A scalar as a text. -/
def textV (x : Scal) : List UInt8 := if x.kind = 1 then Lib.itoa x.n else x.s
def trueV (x : Scal) : Bool := !(textV x).isEmpty && !(textV x == [48])
def textR (x : Scal) : List UInt8 × Int := if validB x ≠ 0 then ([], validB x) else (textV x, 0)
def trueR (x : Scal) : Bool × Int := if validB x ≠ 0 then (false, validB x) else (trueV x, 0)

theorem valid_num {x : Scal} (h : validB x = 0) (hk : x.kind = 1) : inN x.n := by
  unfold validB at h
  split at h
  · cases h
  · split at h
    · rename_i h2
      rcases h2 with h2 | h2 | h2
      · omega
      · exact h2.2.1
      · omega
    · cases h

theorem c275 (D : D275 T) {H : AHeap} (hw : WF H) {x : Scal} (hx : x.kind = 1 → inN x.n) : Calls T 275 [encC x] H fun r H' => Fr H H' ∧ r = .str (textV x) := by
  refine Calls.fn D.pr D.fn ?_
  have f0 : Fr H (H.new (encC x).cells) := hw.fr_new
  have bx : Box (H.new (encC x).cells) H.next H.next _ := Box.new
  simp only [AV.cells] at f0 bx
  have l0 := bx.ldn (i := 0) rfl
  have l1 := bx.ldn (i := 1) rfl
  have l2 := bx.ldn (i := 2) rfl
  simp [ir275, AV.cells, AV.cell, l0]
  by_cases hk : x.kind = 1
  · have hn := hx hk
    unfold inN at hn
    simp [hk]
    rw [hk] at l1 f0
    simp [l1]
    refine WC.of (c284 D.d284 (n := x.n) (by omega) (by omega)) ?_
    rintro r K ⟨rfl, rfl⟩
    simp [textV, hk, f0]
  · simp [hk, l2, textV, f0]

theorem c276 (D : D276 T) {H : AHeap} (hw : WF H) {x : Scal} (hx : x.kind = 1 → inN x.n) : Calls T 276 [encC x] H fun r H' => Fr H H' ∧ r = .bool (trueV x) := by
  refine Calls.fn D.pr D.fn ?_
  have f0 : Fr H (H.new (encC x).cells) := hw.fr_new
  have bx : Box (H.new (encC x).cells) H.next H.next _ := Box.new
  have lA := bx.ldA (n := 4) rfl
  simp only [AV.cells] at f0 bx lA
  simp [ir276, AV.cells, AV.cell, lA]
  refine WC.of (c275 D.d275 f0.wf hx) ?_
  rintro r K ⟨f1, rfl⟩
  unfold trueV
  generalize textV x = s
  by_cases h1 : s = []
  · simp [h1, f0.trans f1]
  · by_cases h2 : s = [48]
    · simp [h2, f0.trans f1]
    · simp [h1, h2, f0.trans f1]

theorem c273 (D : D273 T) {H : AHeap} (hw : WF H) {x : Scal} : Calls T 273 [encC x] H fun r H' => Fr H H' ∧ r = .tup [.str (textR x).1, .int .i64 (textR x).2] := by
  refine Calls.fn D.pr D.fn ?_
  have f0 : Fr H (H.new (encC x).cells) := hw.fr_new
  have bx : Box (H.new (encC x).cells) H.next H.next _ := Box.new
  have lA := bx.ldA (n := 4) rfl
  simp only [AV.cells] at f0 bx lA
  simp [ir273, AV.cells, AV.cell, lA]
  refine WC.of (c188 D.d188 f0.wf (x := x)) ?_
  rintro r K ⟨f1, rfl⟩
  have bx1 := bx.keeps f0.wf f1.keeps (by show ¬ H.next + 1 ≤ H.next; omega)
  have l0 := bx1.ldn (i := 0) rfl
  have l1 := bx1.ldn (i := 1) rfl
  have l2 := bx1.ldn (i := 2) rfl
  by_cases hv : validB x = 0
  · simp [hv, l0]
    by_cases hk : x.kind = 1
    · have hn := valid_num hv hk
      unfold inN at hn
      simp [hk, l1]
      refine WC.of (Calls.prim D.p283 (Q := fun r H' => H' = K ∧ r = .str (Lib.itoa x.n)) (by simp [itoaPrim]; omega) ⟨rfl, rfl⟩) ?_
      rintro r K2 ⟨rfl, rfl⟩
      simp [textR, textV, hv, hk, f0.trans f1]
    · simp [hk, l2, textR, textV, hv, f0.trans f1]
  · simp [hv, textR, f0.trans f1]

theorem c274 (D : D274 T) {H : AHeap} (hw : WF H) {x : Scal} : Calls T 274 [encC x] H fun r H' => Fr H H' ∧ r = .tup [.bool (trueR x).1, .int .i64 (trueR x).2] := by
  refine Calls.fn D.pr D.fn ?_
  have f0 : Fr H (H.new (encC x).cells) := hw.fr_new
  have bx : Box (H.new (encC x).cells) H.next H.next _ := Box.new
  have lA := bx.ldA (n := 4) rfl
  simp only [AV.cells] at f0 bx lA
  simp [ir274, AV.cells, AV.cell, lA]
  refine WC.of (c273 D.d273 f0.wf (x := x)) ?_
  rintro r K ⟨f1, rfl⟩
  unfold trueR textR
  by_cases hv : validB x = 0
  · unfold trueV
    generalize textV x = s
    by_cases h1 : s = []
    · simp [hv, h1, f0.trans f1]
    · by_cases h2 : s = [48]
      · simp [hv, h2, f0.trans f1]
      · simp [hv, h1, h2, f0.trans f1]
  · simp [hv, f0.trans f1]

theorem c269 (D : D269 T) {H : AHeap} (hw : WF H) {x : Scal} : Calls T 269 [encC x] H fun r _ => r = .bool true := by
  refine Calls.fn D.pr D.fn ?_
  have known : ∀ {X : AHeap}, WF X → Calls T 241 [] X fun v _ => v = .bool true := fun h => c241 D.d241 h
  have f0 : Fr H (H.new (encC x).cells) := hw.fr_new
  have bx : Box (H.new (encC x).cells) H.next H.next _ := Box.new
  simp only [AV.cells] at f0 bx
  have l2 := bx.ldn (i := 2) rfl
  simp [ir269, AV.cells, AV.cell, l2]
  refine WC.of (c240 D.d240) ?_
  rintro r K ⟨rfl, rfl⟩
  by_cases hlong : (16384 : Int) < x.s.length
  · simp [hlong]
    refine WC.of (known f0.wf) ?_
    rintro v H' rfl
    simp
  simp [hlong]
  obtain ⟨K0, hK0⟩ : ∃ K0, H.new [.int .i64 x.kind, .int .i64 x.n, .str x.s, .bool x.taint] = K0 := ⟨_, rfl⟩
  rw [hK0] at f0 bx ⊢
  have hn0 : H.next < K0.next := by rw [← hK0]; exact Nat.lt_succ_self _
  have rd : ∀ {X : AHeap}, Fr K0 X → rsem (.ld 4 true) [.ptr (some (H.next, 0))] X = some (encC x) := fun h => (bx.keeps f0.wf h.keeps (by omega)).ldA (n := 4) rfl
  have r0 := rd (.refl f0.wf)
  simp [r0]
  refine WC.of (c186 D.d186 f0.wf (x := x)) ?_
  rintro r K1 ⟨f1, rfl⟩
  have r1 := rd f1
  simp [r1]
  refine WC.of (c170 D.d170 f1.wf (x := x)) ?_
  rintro r K2 ⟨f2, rfl⟩
  have g2 := f1.trans f2
  have r2 := rd g2
  simp [r2]
  refine WC.of (c273 D.d273 f2.wf (x := x)) ?_
  rintro r K3 ⟨f3, rfl⟩
  have g3 := g2.trans f3
  have r3 := rd g3
  simp [r3]
  refine WC.of (c274 D.d274 f3.wf (x := x)) ?_
  rintro r K4 ⟨f4, rfl⟩
  have g4 := g3.trans f4
  have r4 := rd g4
  simp [r4]
  refine WC.of (c188 D.d188 f4.wf (x := x)) ?_
  rintro r K5 ⟨f5, rfl⟩
  have g5 := g4.trans f5
  have r5 := rd g5
  by_cases hv : validB x = 0
  · rw [numR_ok hv]
    have hk : x.kind = 1 → inN x.n := valid_num hv
    simp [hv, textR, trueR, r5]
    refine WC.of (c169 D.d169 f5.wf (x := x) (by omega)) ?_
    rintro r K6 ⟨f6, rfl⟩
    have g6 := g5.trans f6
    have r6 := rd g6
    simp [r6]
    refine WC.of (c275 D.d275 f6.wf hk) ?_
    rintro r K7 ⟨f7, rfl⟩
    have g7 := g6.trans f7
    have r7 := rd g7
    simp [r7]
    refine WC.of (c276 D.d276 f7.wf hk) ?_
    rintro r K8 ⟨f8, rfl⟩
    simp
    refine WC.of (known f8.wf) ?_
    rintro v H' rfl
    simp
  · rw [numR_bad hv]
    simp [hv, textR, trueR]
    refine WC.of (known f5.wf) ?_
    rintro v H' rfl
    simp

theorem GoodV.scal {H : AHeap} {a : AV} (h : GoodV H shC a) : ∃ x : Scal, a = encC x ∧ x.s.length ≤ maxLen := by
  obtain ⟨cs, rfl, h⟩ := h
  obtain ⟨x, rfl, h1, _⟩ := h.scal
  exact ⟨x, rfl, h1⟩

theorem law269 (D : D269 T) {K : AHeap} {as : List AV} (hw : WF K) (hg : Goods K [shC] as) : Calls T 269 as K fun v _ => v = .bool true := by
  obtain ⟨a, r, rfl, g1, rfl⟩ := hg
  obtain ⟨x, rfl, _⟩ := g1.scal
  exact c269 D hw
end Go.Am
