/- The heap of package heap: its roots; and contracts of the lock of package sync. -/
import Derived.Test.YtpdedphkjkhddaaAmHeapB
import Derived.Test.YtpdedphkjkhddaaAmIrHeap
set_option linter.unusedVariables false
set_option linter.unusedSimpArgs false
namespace Go.Am

def rget : List (Int × Int) → Int → Int
  | [], _ => 0
  | (a, v) :: r, k => if a = k then v else rget r k
def rset : List (Int × Int) → Int → Int → List (Int × Int)
  | [], k, v => [(k, v)]
  | (a, w) :: r, k, v => if a = k then (k, v) :: r else (a, w) :: rset r k v
def rdel : List (Int × Int) → Int → List (Int × Int)
  | [], _ => []
  | (a, w) :: r, k => if a = k then r else (a, w) :: rdel r k

theorem rfind (k : Int) : ∀ (es : List (Int × Int)) (i : Nat),
    (∃ j v, findK .int (.int .i64 k) (es.map encE) i = some (some (i + j, .int .i64 v)) ∧ rget es k = v ∧ (∀ w, (es.map encE).set j (.int .i64 k, .int .i64 w) = (rset es k w).map encE) ∧ (es.map encE).eraseIdx j = (rdel es k).map encE) ∨
    (findK .int (.int .i64 k) (es.map encE) i = some none ∧ rget es k = 0 ∧ (∀ w, es.map encE ++ [(.int .i64 k, .int .i64 w)] = (rset es k w).map encE) ∧ rdel es k = es)
  | [], i => .inr ⟨rfl, rfl, fun w => rfl, rfl⟩
  | (a, v) :: r, i => by
    by_cases e : a = k
    · subst e
      refine .inl ⟨0, v, ?_, by simp [rget], fun w => by simp [rset, encE], by simp [rdel]⟩
      simp [findK, encE, keyEq]
    · have hne : (k == a) = false := by simpa using fun h : k = a => e h.symm
      have hf : findK .int (.int .i64 k) (((a, v) :: r).map encE) i = findK .int (.int .i64 k) (r.map encE) (i + 1) := by simp [findK, encE, keyEq, hne]
      rcases rfind k r (i + 1) with ⟨j, x, h1, h2, h3, h4⟩ | ⟨h1, h2, h3, h4⟩
      · refine .inl ⟨j + 1, x, ?_, by simp [rget, e, h2], fun w => ?_, ?_⟩
        · rw [hf, h1]; congr 3; omega
        · have := h3 w; simp [rset, e, this]
        · simp [rdel, e, h4]
      · refine .inr ⟨by rw [hf, h1], by simp [rget, e, h2], fun w => ?_, by simp [rdel, e, h4]⟩
        have := h3 w
        simp only [rset, if_neg e, List.map_cons, List.cons_append, this]

section
variable {k : Nat} {tg tg' : Tags} {H H' : AHeap} {b : Nat} {lk : Int} {S : Hp} {fb m : Nat} {cv nv : AV} {fc fn : Option Nat} {xs : List (AV × Cel)} {ff : Nat → Option Nat}

theorem HpI.setMp (h : HpI k tg H b lk S fb m cv nv fc fn xs ff) (hw : WF H) (hk : TagOk tg H) {rs : List (Int × Int)} (ht : MpTo H H' m (rs.map encE)) : H'.next = H.next ∧ Up k tg tg H H' ∧ HpI k tg H' b lk { S with roots := rs } fb m cv nv fc fn xs ff := by
  have r5 := ht.keeps
  refine ⟨ht.next, Up.one hk h.tm ht.wf ht.next r5, h.box.keeps hw r5 (h.ne h.tb h.tm (by simp)), h.tb, h.cs.keeps hw r5 fun g hg => h.ne (h.tc g hg) h.tm (by simp), h.tc, h.ns.keeps hw r5 fun g hg => h.ne (h.tn g hg) h.tm (by simp), h.tn, h.xc, fun i x hx => ?_, ht.mp, h.tm⟩
  obtain ⟨h1, h2⟩ := h.fs i x hx
  exact ⟨h1.keeps hw r5 fun g hg => h.ne (h2 g hg) h.tm (by simp), h2⟩

theorem HpI.look (h : HpI k tg H b lk S fb m cv nv fc fn xs ff) (a : Int) : rsem (.look .int (.int .i64 0) false) [.map (some m), .int .i64 a] H = some (.int .i64 (rget S.roots a)) := by
  rcases rfind a S.roots 0 with ⟨j, x, h1, h2, _⟩ | ⟨h1, h2, _⟩
  · rw [h.mp.look rfl h1, h2]
  · rw [h.mp.look rfl h1, h2]

theorem HpI.setRoot (h : HpI k tg H b lk S fb m cv nv fc fn xs ff) (hw : WF H) (hk : TagOk tg H) (a w : Int) :
    ∃ H', wsem0 (.mset .int) [.map (some m), .int .i64 a, .int .i64 w] H = some (.undef, H') ∧ H'.next = H.next ∧ Up k tg tg H H' ∧ HpI k tg H' b lk { S with roots := rset S.roots a w } fb m cv nv fc fn xs ff := by
  rcases rfind a S.roots 0 with ⟨j, x, h1, h2, h3, _⟩ | ⟨h1, h2, h3, _⟩
  · obtain ⟨H', q1, q2⟩ := h.mp.mset' hw (v := .int .i64 w) rfl h1
    rw [Nat.zero_add, h3] at q2
    exact ⟨H', q1, h.setMp hw hk q2⟩
  · obtain ⟨H', q1, q2⟩ := h.mp.mset hw (v := .int .i64 w) rfl h1
    rw [h3] at q2
    exact ⟨H', q1, h.setMp hw hk q2⟩

theorem HpI.delRoot (h : HpI k tg H b lk S fb m cv nv fc fn xs ff) (hw : WF H) (hk : TagOk tg H) (a : Int) :
    ∃ H', wsem0 (.mdel .int) [.map (some m), .int .i64 a] H = some (.undef, H') ∧ H'.next = H.next ∧ Up k tg tg H H' ∧ HpI k tg H' b lk { S with roots := rdel S.roots a } fb m cv nv fc fn xs ff := by
  rcases rfind a S.roots 0 with ⟨j, x, h1, h2, h3, h4⟩ | ⟨h1, h2, h3, h4⟩
  · obtain ⟨H', q1, q2⟩ := h.mp.mdel hw rfl h1
    rw [Nat.zero_add, h4] at q2
    exact ⟨H', q1, h.setMp hw hk q2⟩
  · obtain ⟨H', q1, q2⟩ := h.mp.mdel' hw (ck := .int) (k := .int .i64 a) rfl h1
    rw [h4]
    exact ⟨H', q1, h.setMp hw hk q2⟩
end

/-! ### The lock -/
@[simp] theorem one_nil : one [] = .tup [] := rfl
theorem wrap32_0 : IntKind.i32.wrap (1 + -1) = 0 := by decide
variable {T : Tab}
theorem c385 (D : D385 T) {H H' : AHeap} {b o : Nat} (h0 : H.ld b o 1 = some [.int .i32 0]) (h1 : H.st b o [.int .i32 1] = some H') (h2 : H'.ld b o 1 = some [.int .i32 1]) :
    Calls T 385 [.ptr (some (b, o))] H fun r K => r = .tup [] ∧ K = H' := by
  refine Calls.fn D.pr D.fn ?_
  simp [ir385]
  refine WC.of (Calls.prim D.p387 (v := .tup []) (H' := H) rfl ⟨rfl, rfl⟩) (Q := fun v K => v = .tup [] ∧ K = H) ?_
  rintro r K ⟨rfl, rfl⟩
  simp
  refine WC.of (Calls.prim D.p388 (v := .bool true) (H' := H') (by simp [casPrim, h0, h1]) ⟨rfl, rfl⟩) (Q := fun v K => v = .bool true ∧ K = H') ?_
  rintro r K ⟨rfl, rfl⟩
  simp
  refine WC.of (Calls.prim D.p389 (v := .tup []) (H' := K) rfl ⟨rfl, rfl⟩) (Q := fun v X => v = .tup [] ∧ X = K) ?_
  rintro r K ⟨rfl, rfl⟩
  simp [rsem, h2]
  refine WC.of (Calls.prim D.p390 (v := .tup []) (H' := K) rfl ⟨rfl, rfl⟩) (Q := fun v X => v = .tup [] ∧ X = K) ?_
  rintro r K ⟨rfl, rfl⟩
  simp [RV]

theorem c380 (D : D380 T) {H H' : AHeap} {b o : Nat} (h0 : H.ld b o 1 = some [.int .i32 0]) (h1 : H.st b o [.int .i32 1] = some H') (h2 : H'.ld b o 1 = some [.int .i32 1]) :
    Calls T 380 [.ptr (some (b, o))] H fun r K => r = .tup [] ∧ K = H' := by
  refine Calls.fn D.pr D.fn ?_
  simp [ir380]
  refine WC.of (c385 D.d385 h0 h1 h2) ?_
  rintro r K ⟨rfl, rfl⟩
  simp

theorem c386 (D : D386 T) {H H' : AHeap} {b o : Nat} (h0 : H.ld b o 1 = some [.int .i32 1]) (h1 : H.st b o [.int .i32 0] = some H') :
    Calls T 386 [.ptr (some (b, o))] H fun r K => r = .tup [] ∧ K = H' := by
  refine Calls.fn D.pr D.fn ?_
  simp [ir386, rsem, h0]
  refine WC.of (Calls.prim D.p392 (v := .tup []) (H' := H) rfl ⟨rfl, rfl⟩) (Q := fun v K => v = .tup [] ∧ K = H) ?_
  rintro r K ⟨rfl, rfl⟩
  simp
  refine WC.of (Calls.prim D.p387 (v := .tup []) (H' := K) rfl ⟨rfl, rfl⟩) (Q := fun v X => v = .tup [] ∧ X = K) ?_
  rintro r K ⟨rfl, rfl⟩
  simp
  refine WC.of (Calls.prim D.p393 (v := .int .i32 0) (H' := H') (by simp only [addPrim, h0, wrap32_0, h1]) ⟨rfl, rfl⟩) (Q := fun v K => v = .int .i32 0 ∧ K = H') ?_
  rintro r K ⟨rfl, rfl⟩
  simp
  refine WC.of (Calls.prim D.p389 (v := .tup []) (H' := K) rfl ⟨rfl, rfl⟩) (Q := fun v X => v = .tup [] ∧ X = K) ?_
  rintro r K ⟨rfl, rfl⟩
  simp [RV]

/-- Unlock as a deferred call. -/
theorem c381 (D : D381 T) {H H' : AHeap} {b o : Nat} (h0 : H.ld b o 1 = some [.int .i32 1]) (h1 : H.st b o [.int .i32 0] = some H') :
    DCalls T 381 [.ptr (some (b, o))] H fun K => K = H' := by
  refine DCalls.fn D.fn ?_
  simp [ir381]
  refine WC.of (c386 D.d386 h0 h1) ?_
  rintro r K ⟨rfl, rfl⟩
  simp
end Go.Am
