/- Contracts: operations of numbers, by their numbers. -/
import Derived.Test.YtepgjaknkjkpaaaDoorAmTexts
import Derived.Test.YtepgjaknkjkpaaaDoorAmNumP
set_option linter.unusedVariables false
set_option linter.unusedSimpArgs false
namespace Go.Am
variable {T : Tab}

theorem c185 (D : D185 T) {H : AHeap} {n : Int} : Calls T 185 [.int .i64 n] H fun r H' => H' = H ∧ r = .bool (decide (inN n)) := by
  refine Calls.fn D.pr D.fn ?_
  simp [ir185]
  by_cases h1 : -9007199254740992 ≤ n
  · simp [h1, inN]
  · simp [h1, inN]

theorem c165 (D : D165 T) {H : AHeap} {n : Int} : Calls T 165 [.int .i64 n] H fun r H' => H' = H ∧ r = .bool (decide (inN n)) := by
  refine Calls.fn D.pr D.fn ?_
  simp [ir165]
  by_cases h1 : -9007199254740992 ≤ n
  · simp [h1, inN]
  · simp [h1, inN]

/-- A result and why there is none. -/
abbrev pr2 (p : Int × Int) : AV := .tup [.int .i64 p.1, .int .i64 p.2]

theorem c196 (D : D196 T) {H : AHeap} {n : Int} : Calls T 196 [.int .i64 n] H fun r H' => H' = H ∧ r = pr2 (lim n) := by
  refine Calls.fn D.pr D.fn ?_
  simp [ir196]
  refine WC.of (c185 D.d185) ?_
  rintro r H ⟨rfl, rfl⟩
  by_cases h : inN n <;> simp [h, lim]

theorem c195 (D : D195 T) {H : AHeap} {a b : Int} (ha : inN a) (hb : inN b) : Calls T 195 [.int .i64 a, .int .i64 b] H fun r H' => H' = H ∧ r = pr2 (lim (a + b)) := by
  refine Calls.fn D.pr D.fn ?_
  unfold inN at ha hb
  simp (disch := omega) [ir195, wrap64]
  refine WC.of (c196 D.d196) ?_
  rintro r H ⟨rfl, rfl⟩
  simp

theorem c197 (D : D197 T) {H : AHeap} {a b : Int} (ha : inN a) (hb : inN b) : Calls T 197 [.int .i64 a, .int .i64 b] H fun r H' => H' = H ∧ r = pr2 (lim (a - b)) := by
  refine Calls.fn D.pr D.fn ?_
  unfold inN at ha hb
  simp (disch := omega) [ir197, wrap64]
  refine WC.of (c196 D.d196) ?_
  rintro r H ⟨rfl, rfl⟩
  simp

theorem c198 (D : D198 T) {H : AHeap} {a b : Int} (ha : inN a) (hb : inN b) : Calls T 198 [.int .i64 a, .int .i64 b] H fun r H' => H' = H ∧ r = pr2 (lim (a * b)) := by
  refine Calls.fn D.pr D.fn ?_
  have wa : IntKind.i64.wrap (-a) = -a := wrap64 (by unfold inN at ha; omega) (by unfold inN at ha; omega)
  have wb : IntKind.i64.wrap (-b) = -b := wrap64 (by unfold inN at hb; omega) (by unfold inN at hb; omega)
  by_cases h1 : a = 0
  · subst h1; simp [ir198, lim, inN]
  by_cases h2 : b = 0
  · subst h2; simp [ir198, h1, lim, inN]
  have hz : ¬ max b (-b) = 0 := by omega
  have hb2 := prod_big h1 h2
  have hmax : 0 < max b (-b) := by omega
  have hq : IntKind.i64.wrap (Int.tdiv 9007199254740992 (max b (-b))) = Int.tdiv 9007199254740992 (max b (-b)) := by
    rw [tdivM hmax]
    have h3 : 0 ≤ (9007199254740992 : Int) / max b (-b) := Int.ediv_nonneg (by omega) (by omega)
    have h4 : (9007199254740992 : Int) / max b (-b) ≤ 9007199254740992 := Int.ediv_le_self _ (by omega)
    exact wrap64 (by omega) (by omega)
  by_cases h3 : inN (a * b)
  · have h4 : ¬ Int.tdiv 9007199254740992 (max b (-b)) < max a (-a) := fun h => (hb2.1 h) h3
    have wm : IntKind.i64.wrap (a * b) = a * b := by unfold inN at h3; exact wrap64 (by omega) (by omega)
    simp [ir198, h1, h2, wa, wb, hz, hq, h4, wm, lim, h3]
  · simp [ir198, h1, h2, wa, wb, hz, hq, hb2.2 h3, lim, h3]

theorem c201 (D : D201 T) {H : AHeap} {a b : Int} (ha : inN a) (hb : inN b) (h0 : b ≠ 0) : Calls T 201 [.int .i64 a, .int .i64 b] H fun r H' => H' = H ∧ r = pr2 (floorR a b) := by
  refine Calls.fn D.pr D.fn ?_
  have h1 := tmod_small (a := a) h0
  have h2 : (a.tdiv b).natAbs = a.natAbs / b.natAbs := Int.natAbs_tdiv a b
  have h3 : a.natAbs / b.natAbs ≤ a.natAbs := Nat.div_le_self _ _
  unfold inN at ha hb
  unfold floorR
  obtain ⟨r, hr⟩ : ∃ r, a.tmod b = r := ⟨_, rfl⟩
  obtain ⟨q, hq⟩ : ∃ q, a.tdiv b = q := ⟨_, rfl⟩
  rw [hr] at h1
  rw [hq] at h2
  rw [hr, hq]
  by_cases c1 : r = 0
  · subst c1
    simp (disch := omega) [ir201, h0, wrap64, hr, hq]
  · by_cases c2 : r < 0 <;> by_cases c3 : b < 0 <;> simp (disch := omega) [ir201, h0, wrap64, hr, hq, c1, c2, c3]

theorem c200 (D : D200 T) {H : AHeap} {a b : Int} (ha : inN a) (hb : inN b) (h0 : b ≠ 0) : Calls T 200 [.int .i64 a, .int .i64 b] H fun r H' => H' = H ∧ r = .int .i64 (floorR a b).1 := by
  refine Calls.fn D.pr D.fn ?_
  simp [ir200]
  refine WC.of (c201 D.d201 ha hb h0) ?_
  rintro r H ⟨rfl, rfl⟩
  simp
theorem c202 (D : D202 T) {H : AHeap} {a b : Int} (ha : inN a) (hb : inN b) (h0 : b ≠ 0) : Calls T 202 [.int .i64 a, .int .i64 b] H fun r H' => H' = H ∧ r = .int .i64 (floorR a b).2 := by
  refine Calls.fn D.pr D.fn ?_
  simp [ir202]
  refine WC.of (c201 D.d201 ha hb h0) ?_
  rintro r H ⟨rfl, rfl⟩
  simp

theorem bits_val {op : Int} {a b : Int} (ha : inN a) (hb : inN b) (h1 : 0 ≤ a) (h2 : 0 ≤ b) : ((bitN op a.toNat b.toNat : Nat) : Int) < 18014398509481984 := by
  unfold inN at ha hb
  have := bitN_lt (op := op) (x := a.toNat) (y := b.toNat) (n := 54) (by omega) (by omega)
  omega

theorem ofI {a : Int} (h0 : 0 ≤ a) (h1 : a < 9223372036854775808) : (BitVec.ofInt 64 a).toNat = a.toNat := by
  rw [BitVec.toNat_ofInt, Int.emod_eq_of_lt h0 (by omega)]

theorem c205 (D : D205 T) {H : AHeap} {a b : Int} (ha : inN a) (hb : inN b) (h1 : 0 ≤ a) (h2 : 0 ≤ b) : Calls T 205 [.int .i64 a, .int .i64 b] H fun r H' => H' = H ∧ r = .int .i64 (bitN 6 a.toNat b.toNat : Nat) := by
  refine Calls.fn D.pr D.fn ?_
  have hl := bits_val (op := 6) ha hb h1 h2
  unfold inN at ha hb
  have e : (BitVec.ofInt IntKind.i64.bits a &&& BitVec.ofInt IntKind.i64.bits b).toNat = bitN 6 a.toNat b.toNat := by
    show (BitVec.ofInt 64 a &&& BitVec.ofInt 64 b).toNat = _
    rw [BitVec.toNat_and, ofI h1 (by omega), ofI h2 (by omega)]; rfl
  have w := wrap64 (n := ((bitN 6 a.toNat b.toNat : Nat) : Int)) (by omega) (by omega)
  simp [-BitVec.toNat_and, ir205, e, w]
theorem c206 (D : D206 T) {H : AHeap} {a b : Int} (ha : inN a) (hb : inN b) (h1 : 0 ≤ a) (h2 : 0 ≤ b) : Calls T 206 [.int .i64 a, .int .i64 b] H fun r H' => H' = H ∧ r = .int .i64 (bitN 7 a.toNat b.toNat : Nat) := by
  refine Calls.fn D.pr D.fn ?_
  have hl := bits_val (op := 7) ha hb h1 h2
  unfold inN at ha hb
  have e : (BitVec.ofInt IntKind.i64.bits a ||| BitVec.ofInt IntKind.i64.bits b).toNat = bitN 7 a.toNat b.toNat := by
    show (BitVec.ofInt 64 a ||| BitVec.ofInt 64 b).toNat = _
    rw [BitVec.toNat_or, ofI h1 (by omega), ofI h2 (by omega)]; rfl
  have w := wrap64 (n := ((bitN 7 a.toNat b.toNat : Nat) : Int)) (by omega) (by omega)
  simp [-BitVec.toNat_or, ir206, e, w]
theorem c207 (D : D207 T) {H : AHeap} {a b : Int} (ha : inN a) (hb : inN b) (h1 : 0 ≤ a) (h2 : 0 ≤ b) : Calls T 207 [.int .i64 a, .int .i64 b] H fun r H' => H' = H ∧ r = .int .i64 (bitN 8 a.toNat b.toNat : Nat) := by
  refine Calls.fn D.pr D.fn ?_
  have hl := bits_val (op := 8) ha hb h1 h2
  unfold inN at ha hb
  have e : (BitVec.ofInt IntKind.i64.bits a ^^^ BitVec.ofInt IntKind.i64.bits b).toNat = bitN 8 a.toNat b.toNat := by
    show (BitVec.ofInt 64 a ^^^ BitVec.ofInt 64 b).toNat = _
    rw [BitVec.toNat_xor, ofI h1 (by omega), ofI h2 (by omega)]; rfl
  have w := wrap64 (n := ((bitN 8 a.toNat b.toNat : Nat) : Int)) (by omega) (by omega)
  simp [-BitVec.toNat_xor, ir207, e, w]


theorem tmod2 (b : Int) (h : 0 ≤ b) : 0 ≤ b.tmod 2 ∧ b.tmod 2 < 2 := ⟨Int.tmod_nonneg 2 h, Int.tmod_lt_of_pos b (by omega)⟩

theorem c203 (D : D203 T) {H : AHeap} {a b : Int} (ha : inN a) (hb : inN b) : Calls T 203 [.int .i64 a, .int .i64 b] H fun r H' => H' = H ∧ r = pr2 (powR a b) := by
  refine Calls.fn D.pr D.fn ?_
  have hb' := hb
  unfold inN at hb'
  by_cases h1 : b < 0
  · simp [ir203, h1, powR]
  simp [ir203, h1]
  by_cases h2 : a = 0
  · subst h2
    by_cases h3 : b = 0 <;> simp [h1, h3, powR]
  by_cases h3 : a = 1
  · subst h3
    simp [h1, powR]
  by_cases h4 : a = -1
  · subst h4
    have := tmod2 b (by omega)
    simp (disch := omega) [h1, powR, wrap64]
  have e : powR a b = powL a b.toNat 1 := by unfold powR; rw [if_neg h1, if_neg h2, if_neg h3, if_neg h4]
  rw [e]
  simp [h2, h3, h4]
  refine W_loop (fun (i : Nat) e K => K = H ∧ e 0 = .int .i64 a ∧ e 23 = .int .i64 b ∧ ∃ j : Nat, i + j = b.toNat ∧ e 24 = .int .i64 j ∧ ∃ n, e 6 = .int .i64 n ∧ inN n ∧ powL a b.toNat 1 = powL a i n) id b.toNat ?_ ?_
  · exact ⟨rfl, by simp, by simp, 0, by simp, by simp, 1, by simp, by unfold inN; omega, rfl⟩
  · rintro i e H ⟨rfl, h0, h23, j, hj, h24, n, h6, hn, hp⟩
    simp [h23, h24]
    refine WB.bool ?_ ?_
    · intro hlt
      simp at hlt
      obtain ⟨i, rfl⟩ : ∃ m, i = m + 1 := ⟨i - 1, by omega⟩
      rw [powL] at hp
      simp [h0, h6]
      refine WC.of (c198 D.d198 hn ha) ?_
      rintro r H ⟨rfl, rfl⟩
      simp
      by_cases h5 : inN (n * a)
      · rw [if_pos h5] at hp
        simp (disch := omega) [lim, h5, h0, h23, h24, wrap64]
        exact ⟨i, by omega, j + 1, by omega, by omega, hp⟩
      · rw [if_neg h5] at hp
        simp [lim, h5, hp]
    · intro hlt
      simp at hlt
      have : i = 0 := by omega
      subst this
      simp [h6, hp, powL]
end Go.Am

/- Contracts: the map of operations, and an operation by its number. -/
set_option linter.unusedVariables false
set_option linter.unusedSimpArgs false
namespace Go.Am
variable {T : Tab}

theorem c199 (D : D199 T) {H : AHeap} (hw : WF H) {g : Nat} : Calls T 199 [.fn g [] []] H fun r H' => H' = H.new [.fn g [] []] ∧ r = .fn 210 [] [.ptr (some (H.next, 0))] := by
  refine Calls.fn D.pr D.fn ?_
  simp [ir199, AV.cells, AV.cell]
theorem c204 (D : D204 T) {H : AHeap} (hw : WF H) {g : Nat} : Calls T 204 [.fn g [] []] H fun r H' => H' = H.new [.fn g [] []] ∧ r = .fn 211 [] [.ptr (some (H.next, 0))] := by
  refine Calls.fn D.pr D.fn ?_
  simp [ir204, AV.cells, AV.cell]

theorem c210 (D : D210 T) {H : AHeap} {bk fk g : Nat} {a b d : Int} (bx : Box H bk fk [.fn g [] []]) (hdo : b ≠ 0 → Calls T g [.int .i64 a, .int .i64 b] H fun r H' => H' = H ∧ r = .int .i64 d) :
    Calls T 210 [.int .i64 a, .int .i64 b, .ptr (some (bk, 0))] H fun r H' => H' = H ∧ r = pr2 (if b = 0 then (0, 2) else lim d) := by
  refine Calls.fn D.pr D.fn ?_
  by_cases h : b = 0
  · simp [ir210, h]
  · simp [ir210, h, bx.ld1]
    refine WC.of (hdo h) ?_
    rintro r H ⟨rfl, rfl⟩
    simp
    refine WC.of (c196 D.d196) ?_
    rintro r H ⟨rfl, rfl⟩
    simp
theorem c211 (D : D211 T) {H : AHeap} {bk fk g : Nat} {a b d : Int} (bx : Box H bk fk [.fn g [] []]) (hdo : ¬ a < 0 → ¬ b < 0 → Calls T g [.int .i64 a, .int .i64 b] H fun r H' => H' = H ∧ r = .int .i64 d) :
    Calls T 211 [.int .i64 a, .int .i64 b, .ptr (some (bk, 0))] H fun r H' => H' = H ∧ r = pr2 (if a < 0 ∨ b < 0 then (0, 1) else lim d) := by
  refine Calls.fn D.pr D.fn ?_
  by_cases h : a < 0
  · simp [ir211, h]
  · by_cases h2 : b < 0
    · simp [ir211, h, h2]
    · simp [ir211, h, h2, bx.ld1]
      refine WC.of (hdo h h2) ?_
      rintro r H ⟨rfl, rfl⟩
      simp
      refine WC.of (c196 D.d196) ?_
      rintro r H ⟨rfl, rfl⟩
      simp

/-! ### A map that is filled -/
theorem mset_new {H0 K : AHeap} {m : Nat} {es : List (AV × AV)} {i : Int} {v : AV} (fr : Fr H0 K) (hm : H0.next ≤ m) (mp : Mp K m es) (hf : findK .int (encI i) es 0 = some none) :
    ∃ K', wsem0 (.mset .int) [.map (some m), .int .i64 i, v] K = some (.undef, K') ∧ Fr H0 K' ∧ Mp K' m (es ++ [(encI i, v)]) ∧ Keeps (fun g => g = m) K K' ∧ K'.next = K.next := by
  obtain ⟨w, mp', k⟩ := mp.set fr.wf (es ++ [(encI i, v)])
  exact ⟨_, mp.mset rfl hf, fr.step w k fun g hg => by omega, mp', k, rfl⟩
theorem chain_set {K K' E : AHeap} {m : Nat} (k : Keeps (fun g => g = m) K K') (hn : K'.next = K.next) (c : Keeps (fun g => g = m ∨ K'.next ≤ g) K' E) : Keeps (fun g => g = m ∨ K.next ≤ g) K E :=
  (k.mono fun g hg => .inl hg).trans (c.mono fun g hg => by omega)
theorem chain_new {K E : AHeap} {m : Nat} {cs : List AV} (hw : WF K) (c : Keeps (fun g => g = m ∨ (K.new cs).next ≤ g) (K.new cs) E) : Keeps (fun g => g = m ∨ K.next ≤ g) K E :=
  (hw.keeps_new (D := fun g => g = m ∨ K.next ≤ g)).trans (c.mono fun g hg => hg.imp id fun h => Nat.le_trans (Nat.le_succ _) h)
theorem chain_box {K E : AHeap} {m : Nat} {x : AV} (hw : WF K) (hm : m < K.next) (c : Keeps (fun g => g = m ∨ (K.new [x]).next ≤ g) (K.new [x]) E) : Box E K.next K.next [x] :=
  (Box.new (H := K) (cs := [x])).keeps hw.new c (by show ¬ (K.next = m ∨ K.next + 1 ≤ K.next); omega)

def opsM (b3 b4 b6 b7 b8 : Nat) : List (AV × AV) :=
  [(encI 0, .fn 195 [] []), (encI 1, .fn 197 [] []), (encI 2, .fn 198 [] []), (encI 3, .fn 210 [] [.ptr (some (b3, 0))]), (encI 4, .fn 210 [] [.ptr (some (b4, 0))]), (encI 5, .fn 203 [] []),
    (encI 6, .fn 211 [] [.ptr (some (b6, 0))]), (encI 7, .fn 211 [] [.ptr (some (b7, 0))]), (encI 8, .fn 211 [] [.ptr (some (b8, 0))])]

structure Ops (H : AHeap) (m b3 b4 b6 b7 b8 : Nat) : Prop where
  mp : Mp H m (opsM b3 b4 b6 b7 b8)
  x3 : Box H b3 b3 [.fn 200 [] []]
  x4 : Box H b4 b4 [.fn 202 [] []]
  x6 : Box H b6 b6 [.fn 205 [] []]
  x7 : Box H b7 b7 [.fn 206 [] []]
  x8 : Box H b8 b8 [.fn 207 [] []]

theorem c184 (D : D184 T) {H : AHeap} (hw : WF H) : Calls T 184 [] H fun r H' => Fr H H' ∧ ∃ m b3 b4 b6 b7 b8, r = .map (some m) ∧ Ops H' m b3 b4 b6 b7 b8 := by
  refine Calls.fn D.pr D.fn ?_
  obtain ⟨w0, m0, k0⟩ := hw.newMap
  have f0 : Fr H H.newMap := ⟨w0, k0 _⟩
  have hn0 : H.newMap.next = H.next + 1 := rfl
  obtain ⟨K1, s1, f1, m1, k1, n1⟩ := mset_new (i := 0) (v := .fn 195 [] []) f0 (Nat.le_refl _) m0 rfl
  obtain ⟨K2, s2, f2, m2, k2, n2⟩ := mset_new (i := 1) (v := .fn 197 [] []) f1 (Nat.le_refl _) m1 rfl
  obtain ⟨K3, s3, f3, m3, k3, n3⟩ := mset_new (i := 2) (v := .fn 198 [] []) f2 (Nat.le_refl _) m2 rfl
  simp only [List.nil_append, List.cons_append] at m1 m2 m3
  have g3 : Fr H (K3.new [.fn 200 [] []]) := f3.trans f3.wf.fr_new
  have q3 : Mp (K3.new [.fn 200 [] []]) H.next _ := m3.keeps (f3.wf.keeps_new (D := fun _ => False)) (by simp)
  have p3 : (K3.new [.fn 200 [] []]).next = K3.next + 1 := rfl
  obtain ⟨K4, s4, f4, m4, k4, n4⟩ := mset_new (i := 3) (v := .fn 210 [] [.ptr (some (K3.next, 0))]) g3 (Nat.le_refl _) q3 rfl
  have g4 : Fr H (K4.new [.fn 202 [] []]) := f4.trans f4.wf.fr_new
  have q4 : Mp (K4.new [.fn 202 [] []]) H.next _ := m4.keeps (f4.wf.keeps_new (D := fun _ => False)) (by simp)
  have p4 : (K4.new [.fn 202 [] []]).next = K4.next + 1 := rfl
  obtain ⟨K5, s5, f5, m5, k5, n5⟩ := mset_new (i := 4) (v := .fn 210 [] [.ptr (some (K4.next, 0))]) g4 (Nat.le_refl _) q4 rfl
  obtain ⟨K6, s6, f6, m6, k6, n6⟩ := mset_new (i := 5) (v := .fn 203 [] []) f5 (Nat.le_refl _) m5 rfl
  have g6 : Fr H (K6.new [.fn 205 [] []]) := f6.trans f6.wf.fr_new
  have q6 : Mp (K6.new [.fn 205 [] []]) H.next _ := m6.keeps (f6.wf.keeps_new (D := fun _ => False)) (by simp)
  have p6 : (K6.new [.fn 205 [] []]).next = K6.next + 1 := rfl
  obtain ⟨K7, s7, f7, m7, k7, n7⟩ := mset_new (i := 6) (v := .fn 211 [] [.ptr (some (K6.next, 0))]) g6 (Nat.le_refl _) q6 rfl
  have g7 : Fr H (K7.new [.fn 206 [] []]) := f7.trans f7.wf.fr_new
  have q7 : Mp (K7.new [.fn 206 [] []]) H.next _ := m7.keeps (f7.wf.keeps_new (D := fun _ => False)) (by simp)
  have p7 : (K7.new [.fn 206 [] []]).next = K7.next + 1 := rfl
  obtain ⟨K8, s8, f8, m8, k8, n8⟩ := mset_new (i := 7) (v := .fn 211 [] [.ptr (some (K7.next, 0))]) g7 (Nat.le_refl _) q7 rfl
  have g8 : Fr H (K8.new [.fn 207 [] []]) := f8.trans f8.wf.fr_new
  have q8 : Mp (K8.new [.fn 207 [] []]) H.next _ := m8.keeps (f8.wf.keeps_new (D := fun _ => False)) (by simp)
  have p8 : (K8.new [.fn 207 [] []]).next = K8.next + 1 := rfl
  obtain ⟨K9, s9, f9, m9, k9, n9⟩ := mset_new (i := 8) (v := .fn 211 [] [.ptr (some (K8.next, 0))]) g8 (Nat.le_refl _) q8 rfl
  have c9 : Keeps (fun g => g = H.next ∨ K9.next ≤ g) K9 K9 := .refl
  have c8 := chain_set k9 n9 c9
  have b8 := chain_box f8.wf (by omega) c8
  have c7 := chain_set k8 n8 (chain_new f8.wf c8)
  have b7 := chain_box f7.wf (by omega) c7
  have c6 := chain_set k7 n7 (chain_new f7.wf c7)
  have b6 := chain_box f6.wf (by omega) c6
  have c4 := chain_set k5 n5 (chain_set k6 n6 (chain_new f6.wf c6))
  have b4 := chain_box f4.wf (by omega) c4
  have c3 := chain_set k4 n4 (chain_new f4.wf c4)
  have b3 := chain_box f3.wf (by omega) c3
  have fin : Ops K9 H.next K3.next K4.next K6.next K7.next K8.next := ⟨m9, b3, b4, b6, b7, b8⟩
  simp [ir184, s1, s2, s3]
  refine WC.of (c199 D.d199 f3.wf) ?_
  rintro r K ⟨rfl, rfl⟩
  simp [s4]
  refine WC.of (c199 D.d199 f4.wf) ?_
  rintro r K ⟨rfl, rfl⟩
  simp [s5, s6]
  refine WC.of (c204 D.d204 f6.wf) ?_
  rintro r K ⟨rfl, rfl⟩
  simp [s7]
  refine WC.of (c204 D.d204 f7.wf) ?_
  rintro r K ⟨rfl, rfl⟩
  simp [s8]
  refine WC.of (c204 D.d204 f8.wf) ?_
  rintro r K ⟨rfl, rfl⟩
  simp [s9]
  exact ⟨f9, _, _, _, _, _, fin⟩

theorem Ops.look {H : AHeap} {m b3 b4 b6 b7 b8 : Nat} (h : Ops H m b3 b4 b6 b7 b8) {op : Int} {i : Nat} {v : AV} (hf : findK .int (encI op) (opsM b3 b4 b6 b7 b8) 0 = some (some (i, v))) :
    rsem (.look .int .nilFn false) [.map (some m), .int .i64 op] H = some v := h.mp.look (zero := .nilFn) (k := encI op) rfl hf
theorem Ops.look0 {H : AHeap} {m b3 b4 b6 b7 b8 : Nat} (h : Ops H m b3 b4 b6 b7 b8) {op : Int} (hf : findK .int (encI op) (opsM b3 b4 b6 b7 b8) 0 = some none) :
    rsem (.look .int .nilFn false) [.map (some m), .int .i64 op] H = some .nilFn := h.mp.look (zero := .nilFn) (k := encI op) rfl hf

/-- A result of three parts. -/
abbrev pr3 (p : Int × Int × Int) : AV := .tup [.int .i64 p.1, .int .i64 p.2.1, .int .i64 p.2.2]

theorem c167 (D : D167 T) {H : AHeap} (hw : WF H) {op a b : Int} : Calls T 167 [.int .i64 op, .int .i64 a, .int .i64 b] H fun r H' => Fr H H' ∧ r = pr3 (doR op a b) := by
  refine Calls.fn D.pr D.fn ?_
  simp [ir167]
  refine WC.of (c184 D.d184 hw) ?_
  rintro r H1 ⟨f1, m, b3, b4, b6, b7, b8, rfl, hops⟩
  by_cases hop : op < 0 ∨ 8 < op
  · have hl := hops.look0 (op := op) (by
      have z : ∀ i : Int, 0 ≤ i → i ≤ 8 → (op == i) = false := by intro i _ _; simp; omega
      simp [opsM, findK, keyEq, z 0 (by omega) (by omega), z 1 (by omega) (by omega), z 2 (by omega) (by omega), z 3 (by omega) (by omega), z 4 (by omega) (by omega), z 5 (by omega) (by omega), z 6 (by omega) (by omega), z 7 (by omega) (by omega), z 8 (by omega) (by omega)])
    have e : doR op a b = (0, 0, 1) := by unfold doR; rw [if_pos (by omega)]
    simp [hl, e, f1]
  · have hlook : ∃ f caps, rsem (.look .int .nilFn false) [.map (some m), .int .i64 op] H1 = some (.fn f [] caps) ∧ (inN a → inN b → Calls T f (.int .i64 a :: .int .i64 b :: caps) H1 fun r H' => H' = H1 ∧ r = pr2 ((doR op a b).1, (doR op a b).2.1)) := by
      have hd : inN a → inN b → doR op a b = _ := fun h1 h2 => by unfold doR; rw [if_neg (by simp [h1, h2]; omega)]
      have cases : op = 0 ∨ op = 1 ∨ op = 2 ∨ op = 3 ∨ op = 4 ∨ op = 5 ∨ op = 6 ∨ op = 7 ∨ op = 8 := by omega
      have S : D195 T ∧ D197 T ∧ D198 T ∧ D199 T ∧ D200 T ∧ D202 T ∧ D203 T ∧ D204 T ∧ D205 T ∧ D206 T ∧ D207 T := ⟨D.d184.d195, D.d184.d197, D.d184.d198, D.d184.d199, D.d184.d200, D.d184.d202, D.d184.d203, D.d184.d204, D.d184.d205, D.d184.d206, D.d184.d207⟩
      rcases cases with rfl | rfl | rfl | rfl | rfl | rfl | rfl | rfl | rfl
      · refine ⟨195, [], hops.look (i := 0) (v := .fn 195 [] []) rfl, fun h1 h2 => ?_⟩
        rw [hd h1 h2]
        exact c195 D.d184.d195 h1 h2
      · refine ⟨197, [], hops.look (i := 1) (v := .fn 197 [] []) rfl, fun h1 h2 => ?_⟩
        rw [hd h1 h2]
        exact c197 D.d184.d197 h1 h2
      · refine ⟨198, [], hops.look (i := 2) (v := .fn 198 [] []) rfl, fun h1 h2 => ?_⟩
        rw [hd h1 h2]
        exact c198 D.d184.d198 h1 h2
      · refine ⟨210, [.ptr (some (b3, 0))], hops.look (i := 3) (v := .fn 210 [] [.ptr (some (b3, 0))]) rfl, fun h1 h2 => ?_⟩
        rw [hd h1 h2]
        exact c210 D.d184.d199.d210 hops.x3 fun h0 => c200 D.d184.d200 h1 h2 h0
      · refine ⟨210, [.ptr (some (b4, 0))], hops.look (i := 4) (v := .fn 210 [] [.ptr (some (b4, 0))]) rfl, fun h1 h2 => ?_⟩
        rw [hd h1 h2]
        exact c210 D.d184.d199.d210 hops.x4 fun h0 => c202 D.d184.d202 h1 h2 h0
      · refine ⟨203, [], hops.look (i := 5) (v := .fn 203 [] []) rfl, fun h1 h2 => ?_⟩
        rw [hd h1 h2]
        exact c203 D.d184.d203 h1 h2
      · refine ⟨211, [.ptr (some (b6, 0))], hops.look (i := 6) (v := .fn 211 [] [.ptr (some (b6, 0))]) rfl, fun h1 h2 => ?_⟩
        rw [hd h1 h2]
        exact c211 D.d184.d204.d211 hops.x6 fun h3 h4 => c205 D.d184.d205 h1 h2 (by omega) (by omega)
      · refine ⟨211, [.ptr (some (b7, 0))], hops.look (i := 7) (v := .fn 211 [] [.ptr (some (b7, 0))]) rfl, fun h1 h2 => ?_⟩
        rw [hd h1 h2]
        exact c211 D.d184.d204.d211 hops.x7 fun h3 h4 => c206 D.d184.d206 h1 h2 (by omega) (by omega)
      · refine ⟨211, [.ptr (some (b8, 0))], hops.look (i := 8) (v := .fn 211 [] [.ptr (some (b8, 0))]) rfl, fun h1 h2 => ?_⟩
        rw [hd h1 h2]
        exact c211 D.d184.d204.d211 hops.x8 fun h3 h4 => c207 D.d184.d207 h1 h2 (by omega) (by omega)
    obtain ⟨f, caps, hl, hcall⟩ := hlook
    simp [hl]
    refine WC.of (c185 D.d185) ?_
    rintro r H1 ⟨rfl, rfl⟩
    by_cases h1 : inN a
    · simp [h1]
      refine WC.of (c185 D.d185) ?_
      rintro r H1 ⟨rfl, rfl⟩
      by_cases h2 : inN b
      · simp [h2]
        refine WC.of (hcall h1 h2) ?_
        rintro r H1 ⟨rfl, rfl⟩
        have e : (doR op a b).2.2 = 0 := by unfold doR; rw [if_neg (by simp [h1, h2]; omega)]
        simp [e, f1]
      · have e : doR op a b = (0, 0, 1) := by unfold doR; rw [if_pos (by simp [h2])]
        simp [h2, e, f1]
    · have e : doR op a b = (0, 0, 1) := by unfold doR; rw [if_pos (by simp [h1])]
      simp [h1, e, f1]
end Go.Am

/- Contracts: the document's operations of numbers. -/
set_option linter.unusedVariables false
set_option linter.unusedSimpArgs false
namespace Go.Am
variable {T : Tab}

theorem c194 (D : D194 T) {H : AHeap} {n : Int} (h0 : -9223372036854775808 < n) (h1 : n < 9223372036854775808) : Calls T 194 [.int .i64 n] H fun r H' => H' = H ∧ r = .int .i64 (max n (-n)) := by
  refine Calls.fn D.pr D.fn ?_
  by_cases h : n < 0
  · simp (disch := omega) [ir194, h, wrap64]; omega
  · simp [ir194, h]; omega

theorem limBig : lim 9007199254740993 = (0, 1) := by simp [lim, inN]
@[simp] theorem wrapz : IntKind.i64.wrap 0 = 0 := rfl
@[simp] theorem wrapz1 : IntKind.i64.wrap 1 = 1 := rfl
@[simp] theorem wrapz2 : IntKind.i64.wrap 2 = 2 := rfl

theorem divM {a : Int} (h : a ≠ 0) : IntKind.i64.wrap (Int.tdiv 9007199254740992 (max a (-a))) = Int.tdiv 9007199254740992 (max a (-a)) ∧ 0 ≤ Int.tdiv 9007199254740992 (max a (-a)) ∧ Int.tdiv 9007199254740992 (max a (-a)) ≤ 9007199254740992 := by
  have hmax : 0 < max a (-a) := by omega
  rw [tdivM hmax]
  have h3 : 0 ≤ (9007199254740992 : Int) / max a (-a) := Int.ediv_nonneg (by omega) (by omega)
  have h4 : (9007199254740992 : Int) / max a (-a) ≤ 9007199254740992 := Int.ediv_le_self _ (by omega)
  exact ⟨wrap64 (by omega) (by omega), h3, h4⟩

theorem c180 (D : D180 T) {H : AHeap} {a b : Int} (ha : inN a) (hb : inN b) : Calls T 180 [.int .i64 a, .int .i64 b] H fun r H' => H' = H ∧ ∃ p, r = .int .i64 p ∧ lim p = lim (a * b) := by
  refine Calls.fn D.pr D.fn ?_
  have ha' := ha
  have hb' := hb
  unfold inN at ha' hb'
  by_cases h1 : a = 0
  · subst h1; simp [ir180, lim]
  simp [ir180, h1]
  refine WC.of (c194 D.d194 (by omega) (by omega)) ?_
  rintro r H ⟨rfl, rfl⟩
  simp [h1]
  refine WC.of (c194 D.d194 (by omega) (by omega)) ?_
  rintro r H ⟨rfl, rfl⟩
  obtain ⟨q1, q2, q3⟩ := divM h1
  have hz : ¬ max a (-a) = 0 := by omega
  by_cases h2 : b = 0
  · subst h2
    simp [hz, q1, lim, show ¬ Int.tdiv 9007199254740992 (max a (-a)) < 0 by omega]
  have hp := prod_big h2 h1
  rw [Int.mul_comm b a] at hp
  by_cases h3 : inN (a * b)
  · have h4 : ¬ Int.tdiv 9007199254740992 (max a (-a)) < max b (-b) := fun h => (hp.1 h) h3
    have wm : IntKind.i64.wrap (a * b) = a * b := by unfold inN at h3; exact wrap64 (by omega) (by omega)
    simp [hz, q1, h4, wm]
  · have e2 : lim (a * b) = (0, 1) := by simp [lim, h3]
    simp [hz, q1, hp.2 h3, limBig, e2]

theorem c181 (D : D181 T) {H : AHeap} {a b : Int} (ha : inN a) (hb : inN b) (h0 : b ≠ 0) : Calls T 181 [.int .i64 a, .int .i64 b] H fun r H' => H' = H ∧ r = .int .i64 (floorR a b).1 := by
  refine Calls.fn D.pr D.fn ?_
  have h1 := tmod_small (a := a) h0
  have h2 : (a.tdiv b).natAbs = a.natAbs / b.natAbs := Int.natAbs_tdiv a b
  have h3 : a.natAbs / b.natAbs ≤ a.natAbs := Nat.div_le_self _ _
  have h4 := tdiv_eqn a b
  rw [Int.mul_comm] at h4
  unfold inN at ha hb
  rw [← quot_eq h0]
  obtain ⟨q, hq⟩ : ∃ q, a.tdiv b = q := ⟨_, rfl⟩
  rw [hq] at h2 h4
  rw [hq]
  obtain ⟨p, hp⟩ : ∃ p, q * b = p := ⟨_, rfl⟩
  rw [hp] at h4
  rw [hp]
  have wp : IntKind.i64.wrap p = p := wrap64 (by omega) (by omega)
  by_cases c1 : p = a
  · simp (disch := omega) [ir181, h0, wrap64, hq, hp, wp, c1]
  · by_cases c2 : a < 0 <;> by_cases c3 : b < 0 <;> simp (disch := omega) [ir181, h0, wrap64, hq, hp, wp, c1, c2, c3]

theorem c182 (D : D182 T) {H : AHeap} {a b : Int} (ha : inN a) (hb : inN b) (h0 : 0 ≤ b) : Calls T 182 [.int .i64 a, .int .i64 b] H fun r H' => H' = H ∧ ∃ p, r = .int .i64 p ∧ lim p = powR a b := by
  refine Calls.fn D.pr D.fn ?_
  have ha' := ha
  have hb' := hb
  unfold inN at ha' hb'
  have h1 : ¬ b < 0 := by omega
  by_cases h2 : a = 0
  · subst h2
    by_cases h3 : b = 0 <;> simp [ir182, h1, h3, powR, lim, inN]
  by_cases h3 : a = 1
  · subst h3
    by_cases h3 : b = 0 <;> simp [ir182, h1, h3, powR, lim, inN]
  by_cases h4 : a = -1
  · subst h4
    have := tmod2 b (by omega)
    have e2 : lim (1 - 2 * b.tmod 2) = (1 - 2 * b.tmod 2, 0) := by unfold lim; rw [if_pos (by unfold inN; omega)]
    simp (disch := omega) [ir182, h1, powR, e2, wrap64]
  have e : powR a b = powL a b.toNat 1 := by unfold powR; rw [if_neg h1, if_neg h2, if_neg h3, if_neg h4]
  rw [e]
  simp [ir182, h2, h3, h4]
  refine W_loop (fun (i : Nat) e K => K = H ∧ e 0 = .int .i64 a ∧ e 1 = .int .i64 b ∧ ∃ j : Nat, i + j = b.toNat ∧ e 6 = .int .i64 j ∧ ∃ n, e 5 = .int .i64 n ∧ inN n ∧ n ≠ 0 ∧ powL a b.toNat 1 = powL a i n) id b.toNat ?_ ?_
  · exact ⟨rfl, by simp, by simp, 0, by simp, by simp, 1, by simp, by unfold inN; omega, by omega, rfl⟩
  · rintro i e H ⟨rfl, g0, g1, j, hj, g6, n, g5, hn, hnz, hp⟩
    have hn' := hn
    unfold inN at hn'
    simp [g1, g6]
    refine WB.bool ?_ ?_
    · intro hlt
      simp at hlt
      obtain ⟨i, rfl⟩ : ∃ m, i = m + 1 := ⟨i - 1, by omega⟩
      rw [powL] at hp
      obtain ⟨q1, q2, q3⟩ := divM h2
      have hz : ¬ max a (-a) = 0 := by omega
      have hbig := prod_big hnz h2
      simp [g0, g5]
      refine WC.of (c194 D.d194 (by omega) (by omega)) ?_
      rintro r H ⟨rfl, rfl⟩
      by_cases c1 : Int.tdiv 9007199254740992 (max a (-a)) < n
      · have h5 : ¬ inN (n * a) := hbig.1 (by omega)
        rw [if_neg h5] at hp
        simp [hz, q1, c1, hp, limBig]
      · simp [hz, q1, c1, g0, g5]
        refine WC.of (c194 D.d194 (by omega) (by omega)) ?_
        rintro r H ⟨rfl, rfl⟩
        have wn := wrap64 (n := -(Int.tdiv 9007199254740992 (max a (-a)))) (by omega) (by omega)
        by_cases c2 : n < -(Int.tdiv 9007199254740992 (max a (-a)))
        · have h5 : ¬ inN (n * a) := hbig.1 (by omega)
          rw [if_neg h5] at hp
          simp [hz, q1, wn, c2, hp, limBig]
        · have h5 : inN (n * a) := by
            apply Decidable.byContradiction
            intro h
            have := hbig.2 h
            omega
          rw [if_pos h5] at hp
          have wm : IntKind.i64.wrap (n * a) = n * a := by unfold inN at h5; exact wrap64 (by omega) (by omega)
          simp (disch := omega) [hz, q1, wn, c2, g0, g1, g5, g6, wm, wrap64]
          exact ⟨i, by omega, j + 1, by omega, by omega, h5, ⟨hnz, h2⟩, hp⟩
    · intro hlt
      simp at hlt
      have : i = 0 := by omega
      subst this
      simp [g5, hp, powL, lim, hn]

theorem c183 (D : D183 T) {H : AHeap} {op a b : Int} (hop : op = 6 ∨ op = 7 ∨ op = 8) (ha : inN a) (hb : inN b) (h1 : 0 ≤ a) (h2 : 0 ≤ b) : Calls T 183 [.int .i64 op, .int .i64 a, .int .i64 b] H fun r H' => H' = H ∧ r = .int .i64 (bitN op a.toNat b.toNat : Nat) := by
  refine Calls.fn D.pr D.fn ?_
  unfold inN at ha hb
  obtain ⟨x, rfl⟩ : ∃ x : Nat, a = x := ⟨a.toNat, by omega⟩
  obtain ⟨y, rfl⟩ : ∃ y : Nat, b = y := ⟨b.toNat, by omega⟩
  simp only [Int.toNat_natCast]
  simp [ir183]
  refine W_loop (fun (c : Nat) e K => K = H ∧ e 0 = .int .i64 op ∧ e 1 = .int .i64 x ∧ e 2 = .int .i64 y ∧ ∃ i : Nat, c + i = 54 ∧ e 8 = .int .i64 ((2 ^ i : Nat) : Int) ∧ e 7 = .int .i64 ((bitN op x y % 2 ^ i : Nat) : Int)) id 54 ?_ ?_
  · exact ⟨rfl, by simp, by simp, by simp, 0, by simp, by simp, by simp [Nat.mod_one]⟩
  · rintro c e H ⟨rfl, g0, g1, g2, i, hi, g8, g7⟩
    by_cases hlt : i < 54
    · have hb1 := bit_of x i
      have hb2 := bit_of y i
      have hst := bitN_step op x y i
      have hp1 : 2 ^ i ≤ 2 ^ 53 := Nat.pow_le_pow_right (by omega) (by omega)
      have hp0 : 1 ≤ 2 ^ i := Nat.one_le_two_pow
      have hps : 2 ^ (i + 1) = 2 ^ i * 2 := Nat.pow_succ 2 i
      have hm : bitN op x y % 2 ^ i < 2 ^ i := Nat.mod_lt _ (by omega)
      have hx : (x : Int).tdiv ((2 ^ i : Nat) : Int) = ((x / 2 ^ i : Nat) : Int) := by rw [Int.tdiv_eq_ediv_of_nonneg (Int.natCast_nonneg _), Int.natCast_ediv]
      have hy : (y : Int).tdiv ((2 ^ i : Nat) : Int) = ((y / 2 ^ i : Nat) : Int) := by rw [Int.tdiv_eq_ediv_of_nonneg (Int.natCast_nonneg _), Int.natCast_ediv]
      have hxl : x / 2 ^ i ≤ x := Nat.div_le_self _ _
      have hyl : y / 2 ^ i ≤ y := Nat.div_le_self _ _
      rw [hx] at hb1
      rw [hy] at hb2
      rw [hps] at hst
      generalize bitN op x y % 2 ^ i = N at *
      generalize x / 2 ^ i = X at *
      generalize y / 2 ^ i = Y at *
      obtain ⟨Q, hQ⟩ : ∃ Q : Nat, Q = 2 ^ (i + 1) := ⟨_, rfl⟩
      have hQP : Q = 2 ^ i * 2 := by rw [hQ, hps]
      rw [← hQP] at hst
      generalize 2 ^ i = P at *
      have hz : ¬ P = 0 := by omega
      have wN : IntKind.i64.wrap ((N : Int) + (P : Int)) = (N : Int) + P := wrap64 (by omega) (by omega)
      have hPQ : (P : Int) * 2 = Q := by omega
      have wP : IntKind.i64.wrap (Q : Int) = Q := wrap64 (by omega) (by omega)
      have wX : IntKind.i64.wrap (X : Int) = X := wrap64 (by omega) (by omega)
      have wY : IntKind.i64.wrap (Y : Int) = Y := wrap64 (by omega) (by omega)
      have fin : ∀ M : Int, M = ((bitN op x y % Q : Nat) : Int) → ∃ j, j < c ∧ ∃ k : Nat, j + k = 54 ∧ AV.int .i64 (Q : Int) = .int .i64 ((2 ^ k : Nat) : Int) ∧ AV.int .i64 M = .int .i64 ((bitN op x y % 2 ^ k : Nat) : Int) := by
        intro M hM
        exact ⟨c - 1, by omega, i + 1, by omega, by rw [hQ], by rw [hM, hQ]⟩
      generalize x.testBit i = tx at *
      generalize y.testBit i = ty at *
      rcases hop with rfl | rfl | rfl <;> cases tx <;> cases ty <;> simp [bitC] at hst hb1 hb2 <;>
        simp [-AV.int.injEq, g0, g1, g2, g7, g8, show ((P : Int) ≤ 9007199254740992) by omega, hx, hy, hz, wX, wY, wN, wP, hb1, hb2, hPQ] <;> exact fin _ (by omega)
    · have hi2 : i = 54 := by omega
      subst hi2
      have hlt2 := bitN_lt (op := op) (x := x) (y := y) (n := 54) (by omega) (by omega)
      rw [Nat.mod_eq_of_lt hlt2] at g7
      simp [g8, g7]
end Go.Am
