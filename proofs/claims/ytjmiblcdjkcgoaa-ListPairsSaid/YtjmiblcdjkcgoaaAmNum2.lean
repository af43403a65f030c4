/- Contracts: the map of operations, and an operation by its number. -/
import Derived.Test.YtjmiblcdjkcgoaaAmNum
set_option linter.unusedVariables false
set_option linter.unusedSimpArgs false
namespace Go.Am
variable {T : Tab}

theorem c199 (D : D199 T) {H : AHeap} (hw : WF H) {g : Nat} : Calls T 199 [.fn g [] []] H fun r H' => H' = H.new [.fn g [] []] ∧ r = .fn 210 [] [.ptr (some (H.next, 0))] := by
  refine Calls.fn D.pr D.fn ?_
  simp [ir199, AV.cells, AV.cell]
theorem c204 (D : D204 T) {H : AHeap} (hw : WF H) {g : Nat} : Calls T 204 [.fn g [] []] H fun r H' => H' = H.new [.fn g [] []] ∧ r = .fn 211 [] [.ptr (some (H.next, 0))] := by
  refine Calls.fn D.pr D.fn ?_
  simp [ir204, AV.cells, AV.cell]

theorem c210 (D : D210 T) {H : AHeap} {bk fk g : Nat} {a b d : Int} (bx : Box H bk fk [.fn g [] []]) (hdo : b ≠ 0 → Calls T g [.int .i64 a, .int .i64 b] H fun r H' => H' = H ∧ r = .int .i64 d) :
    Calls T 210 [.int .i64 a, .int .i64 b, .ptr (some (bk, 0))] H fun r H' => H' = H ∧ r = pr2 (if b = 0 then (0, 2) else lim d) := by
  refine Calls.fn D.pr D.fn ?_
  by_cases h : b = 0
  · simp [ir210, h]
  · simp [ir210, h, bx.ld1]
    refine WC.of (hdo h) ?_
    rintro r H ⟨rfl, rfl⟩
    simp
    refine WC.of (c196 D.d196) ?_
    rintro r H ⟨rfl, rfl⟩
    simp
theorem c211 (D : D211 T) {H : AHeap} {bk fk g : Nat} {a b d : Int} (bx : Box H bk fk [.fn g [] []]) (hdo : ¬ a < 0 → ¬ b < 0 → Calls T g [.int .i64 a, .int .i64 b] H fun r H' => H' = H ∧ r = .int .i64 d) :
    Calls T 211 [.int .i64 a, .int .i64 b, .ptr (some (bk, 0))] H fun r H' => H' = H ∧ r = pr2 (if a < 0 ∨ b < 0 then (0, 1) else lim d) := by
  refine Calls.fn D.pr D.fn ?_
  by_cases h : a < 0
  · simp [ir211, h]
  · by_cases h2 : b < 0
    · simp [ir211, h, h2]
    · simp [ir211, h, h2, bx.ld1]
      refine WC.of (hdo h h2) ?_
      rintro r H ⟨rfl, rfl⟩
      simp
      refine WC.of (c196 D.d196) ?_
      rintro r H ⟨rfl, rfl⟩
      simp

/-! ### A map that is filled -/
theorem mset_new {H0 K : AHeap} {m : Nat} {es : List (AV × AV)} {i : Int} {v : AV} (fr : Fr H0 K) (hm : H0.next ≤ m) (mp : Mp K m es) (hf : findK .int (encI i) es 0 = some none) :
    ∃ K', wsem0 (.mset .int) [.map (some m), .int .i64 i, v] K = some (.undef, K') ∧ Fr H0 K' ∧ Mp K' m (es ++ [(encI i, v)]) ∧ Keeps (fun g => g = m) K K' ∧ K'.next = K.next := by
  obtain ⟨w, mp', k⟩ := mp.set fr.wf (es ++ [(encI i, v)])
  exact ⟨_, mp.mset rfl hf, fr.step w k fun g hg => by omega, mp', k, rfl⟩
theorem chain_set {K K' E : AHeap} {m : Nat} (k : Keeps (fun g => g = m) K K') (hn : K'.next = K.next) (c : Keeps (fun g => g = m ∨ K'.next ≤ g) K' E) : Keeps (fun g => g = m ∨ K.next ≤ g) K E :=
  (k.mono fun g hg => .inl hg).trans (c.mono fun g hg => by omega)
theorem chain_new {K E : AHeap} {m : Nat} {cs : List AV} (hw : WF K) (c : Keeps (fun g => g = m ∨ (K.new cs).next ≤ g) (K.new cs) E) : Keeps (fun g => g = m ∨ K.next ≤ g) K E :=
  (hw.keeps_new (D := fun g => g = m ∨ K.next ≤ g)).trans (c.mono fun g hg => hg.imp id fun h => Nat.le_trans (Nat.le_succ _) h)
theorem chain_box {K E : AHeap} {m : Nat} {x : AV} (hw : WF K) (hm : m < K.next) (c : Keeps (fun g => g = m ∨ (K.new [x]).next ≤ g) (K.new [x]) E) : Box E K.next K.next [x] :=
  (Box.new (H := K) (cs := [x])).keeps hw.new c (by show ¬ (K.next = m ∨ K.next + 1 ≤ K.next); omega)

def opsM (b3 b4 b6 b7 b8 : Nat) : List (AV × AV) :=
  [(encI 0, .fn 195 [] []), (encI 1, .fn 197 [] []), (encI 2, .fn 198 [] []), (encI 3, .fn 210 [] [.ptr (some (b3, 0))]), (encI 4, .fn 210 [] [.ptr (some (b4, 0))]), (encI 5, .fn 203 [] []),
    (encI 6, .fn 211 [] [.ptr (some (b6, 0))]), (encI 7, .fn 211 [] [.ptr (some (b7, 0))]), (encI 8, .fn 211 [] [.ptr (some (b8, 0))])]

structure Ops (H : AHeap) (m b3 b4 b6 b7 b8 : Nat) : Prop where
  mp : Mp H m (opsM b3 b4 b6 b7 b8)
  x3 : Box H b3 b3 [.fn 200 [] []]
  x4 : Box H b4 b4 [.fn 202 [] []]
  x6 : Box H b6 b6 [.fn 205 [] []]
  x7 : Box H b7 b7 [.fn 206 [] []]
  x8 : Box H b8 b8 [.fn 207 [] []]

theorem c184 (D : D184 T) {H : AHeap} (hw : WF H) : Calls T 184 [] H fun r H' => Fr H H' ∧ ∃ m b3 b4 b6 b7 b8, r = .map (some m) ∧ Ops H' m b3 b4 b6 b7 b8 := by
  refine Calls.fn D.pr D.fn ?_
  obtain ⟨w0, m0, k0⟩ := hw.newMap
  have f0 : Fr H H.newMap := ⟨w0, k0 _⟩
  have hn0 : H.newMap.next = H.next + 1 := rfl
  obtain ⟨K1, s1, f1, m1, k1, n1⟩ := mset_new (i := 0) (v := .fn 195 [] []) f0 (Nat.le_refl _) m0 rfl
  obtain ⟨K2, s2, f2, m2, k2, n2⟩ := mset_new (i := 1) (v := .fn 197 [] []) f1 (Nat.le_refl _) m1 rfl
  obtain ⟨K3, s3, f3, m3, k3, n3⟩ := mset_new (i := 2) (v := .fn 198 [] []) f2 (Nat.le_refl _) m2 rfl
  simp only [List.nil_append, List.cons_append] at m1 m2 m3
  have g3 : Fr H (K3.new [.fn 200 [] []]) := f3.trans f3.wf.fr_new
  have q3 : Mp (K3.new [.fn 200 [] []]) H.next _ := m3.keeps (f3.wf.keeps_new (D := fun _ => False)) (by simp)
  have p3 : (K3.new [.fn 200 [] []]).next = K3.next + 1 := rfl
  obtain ⟨K4, s4, f4, m4, k4, n4⟩ := mset_new (i := 3) (v := .fn 210 [] [.ptr (some (K3.next, 0))]) g3 (Nat.le_refl _) q3 rfl
  have g4 : Fr H (K4.new [.fn 202 [] []]) := f4.trans f4.wf.fr_new
  have q4 : Mp (K4.new [.fn 202 [] []]) H.next _ := m4.keeps (f4.wf.keeps_new (D := fun _ => False)) (by simp)
  have p4 : (K4.new [.fn 202 [] []]).next = K4.next + 1 := rfl
  obtain ⟨K5, s5, f5, m5, k5, n5⟩ := mset_new (i := 4) (v := .fn 210 [] [.ptr (some (K4.next, 0))]) g4 (Nat.le_refl _) q4 rfl
  obtain ⟨K6, s6, f6, m6, k6, n6⟩ := mset_new (i := 5) (v := .fn 203 [] []) f5 (Nat.le_refl _) m5 rfl
  have g6 : Fr H (K6.new [.fn 205 [] []]) := f6.trans f6.wf.fr_new
  have q6 : Mp (K6.new [.fn 205 [] []]) H.next _ := m6.keeps (f6.wf.keeps_new (D := fun _ => False)) (by simp)
  have p6 : (K6.new [.fn 205 [] []]).next = K6.next + 1 := rfl
  obtain ⟨K7, s7, f7, m7, k7, n7⟩ := mset_new (i := 6) (v := .fn 211 [] [.ptr (some (K6.next, 0))]) g6 (Nat.le_refl _) q6 rfl
  have g7 : Fr H (K7.new [.fn 206 [] []]) := f7.trans f7.wf.fr_new
  have q7 : Mp (K7.new [.fn 206 [] []]) H.next _ := m7.keeps (f7.wf.keeps_new (D := fun _ => False)) (by simp)
  have p7 : (K7.new [.fn 206 [] []]).next = K7.next + 1 := rfl
  obtain ⟨K8, s8, f8, m8, k8, n8⟩ := mset_new (i := 7) (v := .fn 211 [] [.ptr (some (K7.next, 0))]) g7 (Nat.le_refl _) q7 rfl
  have g8 : Fr H (K8.new [.fn 207 [] []]) := f8.trans f8.wf.fr_new
  have q8 : Mp (K8.new [.fn 207 [] []]) H.next _ := m8.keeps (f8.wf.keeps_new (D := fun _ => False)) (by simp)
  have p8 : (K8.new [.fn 207 [] []]).next = K8.next + 1 := rfl
  obtain ⟨K9, s9, f9, m9, k9, n9⟩ := mset_new (i := 8) (v := .fn 211 [] [.ptr (some (K8.next, 0))]) g8 (Nat.le_refl _) q8 rfl
  have c9 : Keeps (fun g => g = H.next ∨ K9.next ≤ g) K9 K9 := .refl
  have c8 := chain_set k9 n9 c9
  have b8 := chain_box f8.wf (by omega) c8
  have c7 := chain_set k8 n8 (chain_new f8.wf c8)
  have b7 := chain_box f7.wf (by omega) c7
  have c6 := chain_set k7 n7 (chain_new f7.wf c7)
  have b6 := chain_box f6.wf (by omega) c6
  have c4 := chain_set k5 n5 (chain_set k6 n6 (chain_new f6.wf c6))
  have b4 := chain_box f4.wf (by omega) c4
  have c3 := chain_set k4 n4 (chain_new f4.wf c4)
  have b3 := chain_box f3.wf (by omega) c3
  have fin : Ops K9 H.next K3.next K4.next K6.next K7.next K8.next := ⟨m9, b3, b4, b6, b7, b8⟩
  simp [ir184, s1, s2, s3]
  refine WC.of (c199 D.d199 f3.wf) ?_
  rintro r K ⟨rfl, rfl⟩
  simp [s4]
  refine WC.of (c199 D.d199 f4.wf) ?_
  rintro r K ⟨rfl, rfl⟩
  simp [s5, s6]
  refine WC.of (c204 D.d204 f6.wf) ?_
  rintro r K ⟨rfl, rfl⟩
  simp [s7]
  refine WC.of (c204 D.d204 f7.wf) ?_
  rintro r K ⟨rfl, rfl⟩
  simp [s8]
  refine WC.of (c204 D.d204 f8.wf) ?_
  rintro r K ⟨rfl, rfl⟩
  simp [s9]
  exact ⟨f9, _, _, _, _, _, fin⟩

theorem Ops.look {H : AHeap} {m b3 b4 b6 b7 b8 : Nat} (h : Ops H m b3 b4 b6 b7 b8) {op : Int} {i : Nat} {v : AV} (hf : findK .int (encI op) (opsM b3 b4 b6 b7 b8) 0 = some (some (i, v))) :
    rsem (.look .int .nilFn false) [.map (some m), .int .i64 op] H = some v := h.mp.look (zero := .nilFn) (k := encI op) rfl hf
theorem Ops.look0 {H : AHeap} {m b3 b4 b6 b7 b8 : Nat} (h : Ops H m b3 b4 b6 b7 b8) {op : Int} (hf : findK .int (encI op) (opsM b3 b4 b6 b7 b8) 0 = some none) :
    rsem (.look .int .nilFn false) [.map (some m), .int .i64 op] H = some .nilFn := h.mp.look (zero := .nilFn) (k := encI op) rfl hf

/-- A result of three parts. -/
abbrev pr3 (p : Int × Int × Int) : AV := .tup [.int .i64 p.1, .int .i64 p.2.1, .int .i64 p.2.2]

theorem c167 (D : D167 T) {H : AHeap} (hw : WF H) {op a b : Int} : Calls T 167 [.int .i64 op, .int .i64 a, .int .i64 b] H fun r H' => Fr H H' ∧ r = pr3 (doR op a b) := by
  refine Calls.fn D.pr D.fn ?_
  simp [ir167]
  refine WC.of (c184 D.d184 hw) ?_
  rintro r H1 ⟨f1, m, b3, b4, b6, b7, b8, rfl, hops⟩
  by_cases hop : op < 0 ∨ 8 < op
  · have hl := hops.look0 (op := op) (by
      have z : ∀ i : Int, 0 ≤ i → i ≤ 8 → (op == i) = false := by intro i _ _; simp; omega
      simp [opsM, findK, keyEq, z 0 (by omega) (by omega), z 1 (by omega) (by omega), z 2 (by omega) (by omega), z 3 (by omega) (by omega), z 4 (by omega) (by omega), z 5 (by omega) (by omega), z 6 (by omega) (by omega), z 7 (by omega) (by omega), z 8 (by omega) (by omega)])
    have e : doR op a b = (0, 0, 1) := by unfold doR; rw [if_pos (by omega)]
    simp [hl, e, f1]
  · have hlook : ∃ f caps, rsem (.look .int .nilFn false) [.map (some m), .int .i64 op] H1 = some (.fn f [] caps) ∧ (inN a → inN b → Calls T f (.int .i64 a :: .int .i64 b :: caps) H1 fun r H' => H' = H1 ∧ r = pr2 ((doR op a b).1, (doR op a b).2.1)) := by
      have hd : inN a → inN b → doR op a b = _ := fun h1 h2 => by unfold doR; rw [if_neg (by simp [h1, h2]; omega)]
      have cases : op = 0 ∨ op = 1 ∨ op = 2 ∨ op = 3 ∨ op = 4 ∨ op = 5 ∨ op = 6 ∨ op = 7 ∨ op = 8 := by omega
      have S : D195 T ∧ D197 T ∧ D198 T ∧ D199 T ∧ D200 T ∧ D202 T ∧ D203 T ∧ D204 T ∧ D205 T ∧ D206 T ∧ D207 T := ⟨D.d184.d195, D.d184.d197, D.d184.d198, D.d184.d199, D.d184.d200, D.d184.d202, D.d184.d203, D.d184.d204, D.d184.d205, D.d184.d206, D.d184.d207⟩
      rcases cases with rfl | rfl | rfl | rfl | rfl | rfl | rfl | rfl | rfl
      · refine ⟨195, [], hops.look (i := 0) (v := .fn 195 [] []) rfl, fun h1 h2 => ?_⟩
        rw [hd h1 h2]
        exact c195 D.d184.d195 h1 h2
      · refine ⟨197, [], hops.look (i := 1) (v := .fn 197 [] []) rfl, fun h1 h2 => ?_⟩
        rw [hd h1 h2]
        exact c197 D.d184.d197 h1 h2
      · refine ⟨198, [], hops.look (i := 2) (v := .fn 198 [] []) rfl, fun h1 h2 => ?_⟩
        rw [hd h1 h2]
        exact c198 D.d184.d198 h1 h2
      · refine ⟨210, [.ptr (some (b3, 0))], hops.look (i := 3) (v := .fn 210 [] [.ptr (some (b3, 0))]) rfl, fun h1 h2 => ?_⟩
        rw [hd h1 h2]
        exact c210 D.d184.d199.d210 hops.x3 fun h0 => c200 D.d184.d200 h1 h2 h0
      · refine ⟨210, [.ptr (some (b4, 0))], hops.look (i := 4) (v := .fn 210 [] [.ptr (some (b4, 0))]) rfl, fun h1 h2 => ?_⟩
        rw [hd h1 h2]
        exact c210 D.d184.d199.d210 hops.x4 fun h0 => c202 D.d184.d202 h1 h2 h0
      · refine ⟨203, [], hops.look (i := 5) (v := .fn 203 [] []) rfl, fun h1 h2 => ?_⟩
        rw [hd h1 h2]
        exact c203 D.d184.d203 h1 h2
      · refine ⟨211, [.ptr (some (b6, 0))], hops.look (i := 6) (v := .fn 211 [] [.ptr (some (b6, 0))]) rfl, fun h1 h2 => ?_⟩
        rw [hd h1 h2]
        exact c211 D.d184.d204.d211 hops.x6 fun h3 h4 => c205 D.d184.d205 h1 h2 (by omega) (by omega)
      · refine ⟨211, [.ptr (some (b7, 0))], hops.look (i := 7) (v := .fn 211 [] [.ptr (some (b7, 0))]) rfl, fun h1 h2 => ?_⟩
        rw [hd h1 h2]
        exact c211 D.d184.d204.d211 hops.x7 fun h3 h4 => c206 D.d184.d206 h1 h2 (by omega) (by omega)
      · refine ⟨211, [.ptr (some (b8, 0))], hops.look (i := 8) (v := .fn 211 [] [.ptr (some (b8, 0))]) rfl, fun h1 h2 => ?_⟩
        rw [hd h1 h2]
        exact c211 D.d184.d204.d211 hops.x8 fun h3 h4 => c207 D.d184.d207 h1 h2 (by omega) (by omega)
    obtain ⟨f, caps, hl, hcall⟩ := hlook
    simp [hl]
    refine WC.of (c185 D.d185) ?_
    rintro r H1 ⟨rfl, rfl⟩
    by_cases h1 : inN a
    · simp [h1]
      refine WC.of (c185 D.d185) ?_
      rintro r H1 ⟨rfl, rfl⟩
      by_cases h2 : inN b
      · simp [h2]
        refine WC.of (hcall h1 h2) ?_
        rintro r H1 ⟨rfl, rfl⟩
        have e : (doR op a b).2.2 = 0 := by unfold doR; rw [if_neg (by simp [h1, h2]; omega)]
        simp [e, f1]
      · have e : doR op a b = (0, 0, 1) := by unfold doR; rw [if_pos (by simp [h2])]
        simp [h2, e, f1]
    · have e : doR op a b = (0, 0, 1) := by unfold doR; rw [if_pos (by simp [h1])]
      simp [h1, e, f1]
end Go.Am
