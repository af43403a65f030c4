/- The law HeapNil: the methods of no heap. -/
import Derived.Test.YtpdedphkjkhddaaAmHeapQ
import Derived.Test.YtpdedphkjkhddaaAmTops
set_option linter.unusedVariables false
set_option linter.unusedSimpArgs false
namespace Go.Am
variable {T : Tab}

theorem n343 (D : D343 T) {H : AHeap} {v0 v1 : AV} : Calls T 343 [.ptr none, v0, v1] H fun r K => r = .tup [.int .i64 0, .int .i64 9] ∧ K = H := by
  refine Calls.fnD D.pr D.fn ?_
  simp [ir343]
theorem n344 (D : D344 T) {H : AHeap} {v0 v1 : AV} : Calls T 344 [.ptr none, v0, v1] H fun r K => r = .tup [.int .i64 0, .bool false, .bool false, .int .i64 9] ∧ K = H := by
  refine Calls.fnD D.pr D.fn ?_
  simp [ir344]
theorem n341 (D : D341 T) {H : AHeap} {v0 : AV} : Calls T 341 [.ptr none, v0] H fun r K => r = .tup [.int .i64 0, .int .i64 9] ∧ K = H := by
  refine Calls.fnD D.pr D.fn ?_
  simp [ir341]
theorem n340 (D : D340 T) {H : AHeap} {v0 : AV} : Calls T 340 [.ptr none, v0] H fun r K => r = .tup [.int .i64 0, .int .i64 9] ∧ K = H := by
  refine Calls.fnD D.pr D.fn ?_
  simp [ir340]
theorem n323 (D : D323 T) {H : AHeap} : Calls T 323 [.ptr none] H fun r K => r = .tup [.int .i64 0, .bool false] ∧ K = H := by
  refine Calls.fnD D.pr D.fn ?_
  simp [ir323]
theorem n345 (D : D345 T) {H : AHeap} {v0 v1 v2 v3 : AV} : Calls T 345 [.ptr none, v0, v1, v2, v3] H fun r K => r = .int .i64 9 ∧ K = H := by
  refine Calls.fnD D.pr D.fn ?_
  simp [ir345]
theorem n346 (D : D346 T) {H : AHeap} {v0 v1 : AV} : Calls T 346 [.ptr none, v0, v1] H fun r K => r = .int .i64 9 ∧ K = H := by
  refine Calls.fnD D.pr D.fn ?_
  simp [ir346]
theorem n324 (D : D324 T) {H : AHeap} {v0 : AV} : Calls T 324 [.ptr none, v0] H fun r K => r = .int .i64 9 ∧ K = H := by
  refine Calls.fnD D.pr D.fn ?_
  simp [ir324]
theorem n325 (D : D325 T) {H : AHeap} {v0 : AV} : Calls T 325 [.ptr none, v0] H fun r K => r = .int .i64 9 ∧ K = H := by
  refine Calls.fnD D.pr D.fn ?_
  simp [ir325]
theorem n339 (D : D339 T) {H : AHeap} : Calls T 339 [.ptr none] H fun r K => r = .slc none 0 0 none ∧ K = H := by
  refine Calls.fnD D.pr D.fn ?_
  simp [ir339]
theorem n337 (D : D337 T) {H : AHeap} : Calls T 337 [.ptr none] H fun r K => r = .slc none 0 0 none ∧ K = H := by
  refine Calls.fnD D.pr D.fn ?_
  simp [ir337]
theorem n334 (D : D334 T) {H : AHeap} : Calls T 334 [.ptr none] H fun r K => r = .slc none 0 0 none ∧ K = H := by
  refine Calls.fnD D.pr D.fn ?_
  simp [ir334]
theorem n332 (D : D332 T) {H : AHeap} : Calls T 332 [.ptr none] H fun r K => r = .slc none 0 0 none ∧ K = H := by
  refine Calls.fnD D.pr D.fn ?_
  simp [ir332]
theorem n328 (D : D328 T) {H : AHeap} : Calls T 328 [.ptr none] H fun r K => r = .ptr none ∧ K = H := by
  refine Calls.fnD D.pr D.fn ?_
  simp [ir328]
theorem n330 (D : D330 T) {H : AHeap} {p : Option (Nat × Nat)} : Calls T 330 [.ptr none, .ptr p] H fun r K => r = .bool p.isNone ∧ K = H := by
  refine Calls.fn D.pr D.fn ?_
  simp [ir330]

theorem c318 (D : D318 T) {H : AHeap} (hw : WF H) {a b : Int} : Calls T 318 [.int .i64 a, .int .i64 b] H fun r K => r = .bool true := by
  refine Calls.fn D.pr D.fn ?_
  simp [ir318]
  refine WC.of (n343 D.d343) ?_
  rintro r K ⟨rfl, rfl⟩
  simp
  refine WC.of (n344 D.d344) ?_
  rintro r K ⟨rfl, rfl⟩
  simp
  refine WC.of (n341 D.d341) ?_
  rintro r K ⟨rfl, rfl⟩
  simp
  refine WC.of (n340 D.d340) ?_
  rintro r K ⟨rfl, rfl⟩
  simp
  refine WC.of (n323 D.d323) ?_
  rintro r K ⟨rfl, rfl⟩
  simp
  refine WC.of (n345 D.d345) ?_
  rintro r K ⟨rfl, rfl⟩
  simp
  refine WC.of (n346 D.d346) ?_
  rintro r K ⟨rfl, rfl⟩
  simp
  refine WC.of (n324 D.d324) ?_
  rintro r K ⟨rfl, rfl⟩
  simp
  refine WC.of (n325 D.d325) ?_
  rintro r K ⟨rfl, rfl⟩
  simp
  refine WC.of (n339 D.d339) ?_
  rintro r K ⟨rfl, rfl⟩
  simp
  refine WC.of (n337 D.d337) ?_
  rintro r K ⟨rfl, rfl⟩
  simp
  refine WC.of (n334 D.d334) ?_
  rintro r K ⟨rfl, rfl⟩
  simp
  refine WC.of (n332 D.d332) ?_
  rintro r K ⟨rfl, rfl⟩
  have w0 : IntKind.i64.wrap 0 = 0 := by decide
  simp [w0]
  refine WC.of (n328 D.d328) ?_
  rintro r K ⟨rfl, rfl⟩
  simp
  refine WC.of (n330 D.d330) ?_
  rintro r K ⟨rfl, rfl⟩
  simp
  refine WC.of (c320 (tg := fun _ => none) D.d320 0 hw (fun _ _ => rfl)) ?_
  rintro r K ⟨rfl, tg1, u1, h1⟩
  simp
  refine WC.of (n330 D.d330) ?_
  rintro r K' ⟨rfl, rfl⟩
  simp
  refine WC.of (c319 D.d319 u1.wf) ?_
  rintro r K' rfl
  simp

theorem law318 (D : D318 T) {K : AHeap} {as : List AV} (hw : WF K) (hg : Goods K [.int .i64, .int .i64] as) : Calls T 318 as K fun v _ => v = .bool true := by
  obtain ⟨a, r, rfl, g1, b, r2, rfl, g2, rfl⟩ := hg
  obtain ⟨s, rfl, _⟩ := g1.int
  obtain ⟨t, rfl, _⟩ := g2.int
  exact c318 D hw
end Go.Am
