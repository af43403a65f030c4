/- The state of a walk: what was made and may be written (rows, slices of their own), and what is only read; everything is carried along at once. -/
import Derived.Test.YtdgkaachkodimaaDoorAmLibs
set_option linter.unusedVariables false
set_option linter.unusedSimpArgs false
namespace Go.Am
@[simp] theorem cell_bool {b : Bool} : (AV.bool b).cell = true := rfl
@[simp] theorem cell_int {k : IntKind} {n : Int} : (AV.int k n).cell = true := rfl
@[simp] theorem cell_str {s : List UInt8} : (AV.str s).cell = true := rfl
@[simp] theorem cell_ptr {p : Option (Nat × Nat)} : (AV.ptr p).cell = true := rfl
@[simp] theorem cell_slc {p : Option (Nat × Nat)} {a b : Nat} {c : Option Nat} : (AV.slc p a b c).cell = true := rfl
@[simp] theorem cell_map {m : Option Nat} : (AV.map m).cell = true := rfl
@[simp] theorem cell_fn {f : Nat} {a b : List AV} : (AV.fn f a b).cell = true := rfl
@[simp] theorem cell_nilFn : AV.nilFn.cell = true := rfl
@[simp] theorem cell_nilI : AV.nilI.cell = true := rfl
@[simp] theorem cell_iface {t : Nat} {v : AV} : (AV.iface t v).cell = true := rfl
@[simp] theorem cells_bool {b : Bool} : (AV.bool b).cells = [.bool b] := rfl
@[simp] theorem cells_int {k : IntKind} {n : Int} : (AV.int k n).cells = [.int k n] := rfl
@[simp] theorem cells_str {s : List UInt8} : (AV.str s).cells = [.str s] := rfl
@[simp] theorem cells_ptr {p : Option (Nat × Nat)} : (AV.ptr p).cells = [.ptr p] := rfl
@[simp] theorem cells_slc {p : Option (Nat × Nat)} {a b : Nat} {c : Option Nat} : (AV.slc p a b c).cells = [.slc p a b c] := rfl
@[simp] theorem cells_map {m : Option Nat} : (AV.map m).cells = [.map m] := rfl
@[simp] theorem cells_fn {f : Nat} {a b : List AV} : (AV.fn f a b).cells = [.fn f a b] := rfl
@[simp] theorem cells_nilFn : AV.nilFn.cells = [.nilFn] := rfl
@[simp] theorem cells_nilI : AV.nilI.cells = [.nilI] := rfl
@[simp] theorem cells_iface {t : Nat} {v : AV} : (AV.iface t v).cells = [.iface t v] := rfl
@[simp] theorem cells_agg {cs : List AV} : (AV.agg cs).cells = cs := rfl
/-- Something of some families that may be written. -/
structure Ob where
  fam : List Nat
  P : AHeap → Prop
  lt : ∀ H, WF H → P H → ∀ g ∈ fam, g < H.next
  keeps : ∀ (D : Nat → Prop) H H', WF H → P H → Keeps D H H' → (∀ g ∈ fam, ¬D g) → P H'
abbrev Ob.box (b : Nat) (cs : List AV) : Ob := ⟨[b], fun H => Box H b b cs, fun _ hw h g hg => by simp at hg; subst hg; exact hw.row_fam h.row, fun _ _ _ hw h k hd => h.keeps hw k (hd b (by simp))⟩
abbrev Ob.own {α : Type} (enc : α → AV) (sz : Nat) (v : AV) (l : List α) (f : Option Nat) : Ob :=
  ⟨f.toList, fun H => Own enc sz H v l f, fun _ hw h g hg => by simp at hg; subst hg; exact h.2.lt hw, fun _ _ _ hw h k hd => h.keeps hw k fun g hg => hd g (by simp [hg])⟩
abbrev Ob.mp (m : Nat) (es : List (AV × AV)) : Ob := ⟨[m], fun H => Mp H m es, fun _ hw h g hg => by simp at hg; subst hg; exact h.lt hw, fun _ _ _ hw h k hd => h.keeps k (hd m (by simp))⟩
/-- Something that is read, of no family in D. -/
structure Pb where
  P : (Nat → Prop) → AHeap → Prop
  keeps : ∀ (D D' : Nat → Prop) H H', WF H → P D H → Keeps (fun g => D g ∨ H.next ≤ g) H H' → (∀ g, D' g → D g ∨ H.next ≤ g) → P D' H'
theorem Rd.go {α : Type} {enc : α → AV} {sz : Nat} {D D' : Nat → Prop} {H H' : AHeap} {v : AV} {l : List α} (hw : WF H) (h : Rd D enc sz H v l) (k : Keeps (fun g => D g ∨ H.next ≤ g) H H') (hd : ∀ g, D' g → D g ∨ H.next ≤ g) : Rd D' enc sz H' v l := by
  have h3 : Rd (fun g => D g ∨ H.next ≤ g) enc sz H v l := ⟨h.1, fun b off sv n c f cs e hr hg => by
    rcases hg with hg | hg
    · exact h.2 b off sv n c f cs e hr hg
    · have := hw.row_fam hr; omega⟩
  exact (h3.keepsD k).mono hd
abbrev Pb.rd {α : Type} (enc : α → AV) (sz : Nat) (v : AV) (l : List α) : Pb := ⟨fun D H => Rd D enc sz H v l, fun _ _ _ _ hw h k hd => h.go hw k hd⟩
@[reducible] def obsAll : List Ob → AHeap → Prop
  | [], _ => True
  | o :: os, H => o.P H ∧ obsAll os H
@[reducible] def pbsAll : List Pb → (Nat → Prop) → AHeap → Prop
  | [], _, _ => True
  | p :: ps, D, H => p.P D H ∧ pbsAll ps D H
/-- The families of what may be written. -/
def fams (D : Nat → Prop) (os : List Ob) : Nat → Prop := fun g => D g ∨ g ∈ os.flatMap Ob.fam
theorem obsAll_keeps {D : Nat → Prop} {H H' : AHeap} (hw : WF H) (k : Keeps D H H') : ∀ {os : List Ob}, obsAll os H → (∀ o ∈ os, ∀ g ∈ o.fam, ¬D g) → obsAll os H'
  | [], _, _ => trivial
  | o :: os, h, hd => ⟨o.keeps D H H' hw h.1 k (hd o (by simp)), obsAll_keeps hw k h.2 fun p hp => hd p (by simp [hp])⟩
theorem obsAll_mem {H : AHeap} : ∀ {os : List Ob}, obsAll os H → ∀ o ∈ os, o.P H
  | [], _, o, hm => by simp at hm
  | p :: os, h, o, hm => by
    rcases List.mem_cons.1 hm with rfl | hm
    · exact h.1
    · exact obsAll_mem h.2 o hm
theorem pbsAll_keeps {D D' : Nat → Prop} {H H' : AHeap} (hw : WF H) (k : Keeps (fun g => D g ∨ H.next ≤ g) H H') (hd : ∀ g, D' g → D g ∨ H.next ≤ g) : ∀ {ps : List Pb}, pbsAll ps D H → pbsAll ps D' H'
  | [], _ => trivial
  | p :: ps, h => ⟨p.keeps D D' H H' hw h.1 k hd, pbsAll_keeps hw k hd h.2⟩
theorem pbsAll_append {D : Nat → Prop} {H : AHeap} : ∀ {ps qs : List Pb}, pbsAll ps D H → pbsAll qs D H → pbsAll (ps ++ qs) D H
  | [], _, _, h => h
  | p :: ps, qs, h, k => ⟨h.1, pbsAll_append h.2 k⟩
structure Fx (H0 : AHeap) (D : Nat → Prop) (os : List Ob) (ps : List Pb) (H : AHeap) : Prop where
  fr : Fr H0 H
  dlt : ∀ g, D g → g < H0.next
  lo : ∀ g ∈ os.flatMap Ob.fam, H0.next ≤ g
  nd : (os.flatMap Ob.fam).Nodup
  o : obsAll os H
  p : pbsAll ps (fams D os) H
section
variable {H0 H H' : AHeap} {D : Nat → Prop} {os : List Ob} {ps : List Pb}
theorem Fx.wf (F : Fx H0 D os ps H) : WF H := F.fr.wf
theorem Fx.start (hw : WF H) (hd : ∀ g, D g → g < H.next) (hp : pbsAll ps D H) : Fx H D [] ps H :=
  ⟨.refl hw, hd, by simp, by simp, trivial, pbsAll_keeps hw .refl (fun g hg => .inl (by simpa [fams] using hg)) hp⟩
/-- A set that calls may be told. -/
theorem Fx.dn (F : Fx H0 D os ps H) : ∀ g, fams D os g → g < H.next := by
  intro g hg
  rcases hg with hg | hg
  · exact Nat.lt_of_lt_of_le (F.dlt g hg) F.fr.next
  · obtain ⟨o, ho, hg⟩ := List.mem_flatMap.1 hg
    exact o.lt H F.wf (obsAll_mem F.o o ho) g hg
theorem Fx.call (F : Fx H0 D os ps H) (k : Fr H H') : Fx H0 D os ps H' :=
  ⟨F.fr.trans k, F.dlt, F.lo, F.nd, obsAll_keeps F.wf k.keeps F.o (fun o ho g hg h => by have := o.lt H F.wf (obsAll_mem F.o o ho) g hg; omega),
    pbsAll_keeps F.wf (k.keeps.mono fun g hg => .inr hg) (fun g hg => .inl hg) F.p⟩
/-- More that is read. -/
theorem Fx.add (F : Fx H0 D os ps H) {qs : List Pb} (hq : pbsAll qs (fams D os) H) : Fx H0 D os (qs ++ ps) H :=
  ⟨F.fr, F.dlt, F.lo, F.nd, F.o, pbsAll_append hq F.p⟩
theorem Fx.callR (F : Fx H0 D os ps H) (k : Fr H H') {qs : List Pb} (hq : pbsAll qs (fams D os) H') : Fx H0 D os (qs ++ ps) H' := (F.call k).add hq
/-- Other things that are read. -/
theorem Fx.pbs (F : Fx H0 D os ps H) {qs : List Pb} (hq : pbsAll qs (fams D os) H) : Fx H0 D os qs H := ⟨F.fr, F.dlt, F.lo, F.nd, F.o, hq⟩
/-- Something new of its own families. -/
theorem Fx.mkO (F : Fx H0 D os ps H) (hw : WF H') (k : Keeps (H.next ≤ ·) H H') (o : Ob) (ho : ∀ g ∈ o.fam, H.next ≤ g) (hn : o.fam.Nodup) (hP : o.P H') : Fx H0 D (o :: os) ps H' := by
  have k' : Fr H H' := ⟨hw, k⟩
  have G := F.call k'
  refine ⟨G.fr, G.dlt, ?_, ?_, ⟨hP, G.o⟩, ?_⟩
  · intro g hg
    rw [List.flatMap_cons] at hg
    rcases List.mem_append.1 hg with hg | hg
    · have := F.fr.next; have := ho g hg; omega
    · exact F.lo g hg
  · rw [List.flatMap_cons, List.nodup_append]
    refine ⟨hn, F.nd, fun a ha b hb e => ?_⟩
    subst e
    have := F.dn a (.inr hb)
    have := ho a ha
    omega
  · refine pbsAll_keeps F.wf (k.mono fun g hg => .inr hg) ?_ F.p
    intro g hg
    rcases hg with hg | hg
    · exact .inl (.inl hg)
    · rw [List.flatMap_cons] at hg
      rcases List.mem_append.1 hg with hg | hg
      · exact .inr (ho g hg)
      · exact .inl (.inr hg)
theorem Fx.box (F : Fx H0 D os ps H) (cs : List AV) : Fx H0 D (.box H.next cs :: os) ps (H.new cs) :=
  F.mkO F.wf.new F.wf.keeps_new (.box H.next cs) (by simp) (by simp) Box.new
theorem Fx.bx (F : Fx H0 D os ps H) (b : Nat) (cs : List AV) (hb : H.next = b := by rfl) : Fx H0 D (.box b cs :: os) ps (H.new cs) := by
  subst hb; exact F.box cs
theorem obs_sub {os os' : List Ob} (h : os'.Sublist os) : (os'.flatMap Ob.fam).Sublist (os.flatMap Ob.fam) := by
  induction h with
  | slnil => exact List.Sublist.slnil
  | cons a h ih => rw [List.flatMap_cons]; exact ih.trans (List.sublist_append_right _ _)
  | cons_cons a h ih => rw [List.flatMap_cons, List.flatMap_cons]; exact (List.Sublist.refl _).append ih
/-- Rows that nobody owns any more. -/
theorem Fx.sub (F : Fx H0 D os ps H) {os' : List Ob} (h : os'.Sublist os) (ho : obsAll os' H) : Fx H0 D os' ps H := by
  have s := obs_sub h
  refine ⟨F.fr, F.dlt, fun g hg => F.lo g (s.mem hg), F.nd.sublist s, ho, ?_⟩
  refine pbsAll_keeps F.wf .refl ?_ F.p
  intro g hg
  rcases hg with hg | hg
  · exact .inl (.inl hg)
  · exact .inl (.inr (s.mem hg))
theorem Fx.drop {o : Ob} (F : Fx H0 D (o :: os) ps H) : Fx H0 D os ps H := F.sub (List.sublist_cons_self _ _) F.o.2
theorem obsAll_take {H : AHeap} : ∀ {os : List Ob} (n : Nat), obsAll os H → obsAll (os.take n) H
  | [], n, _ => by rw [List.take_nil]; trivial
  | o :: os, 0, _ => trivial
  | o :: os, n + 1, h => ⟨h.1, obsAll_take n h.2⟩
theorem Fx.take (F : Fx H0 D os ps H) (n : Nat) : Fx H0 D (os.take n) ps H := F.sub (List.take_sublist _ _) (obsAll_take n F.o)
/-- A write to one of them; it may come to lie elsewhere. -/
theorem Fx.upd (F : Fx H0 D os ps H) (i : Nat) {o : Ob} (hi : os[i]? = some o) (o' : Ob) (hw : WF H') (k : Keeps (fun g => g ∈ o.fam ∨ H.next ≤ g) H H') (hf : ∀ g ∈ o'.fam, g ∈ o.fam ∨ H.next ≤ g) (hn : o'.fam.Nodup) (hP : o'.P H') : Fx H0 D (os.set i o') ps H' := by
  have hmem : o ∈ os := List.mem_of_getElem? hi
  have hof : ∀ g ∈ o.fam, g ∈ os.flatMap Ob.fam := fun g hg => List.mem_flatMap.2 ⟨o, hmem, hg⟩
  -- the families behind it
  have key : ∀ (os : List Ob) (i : Nat), os[i]? = some o → (os.flatMap Ob.fam).Nodup → (∀ g ∈ os.flatMap Ob.fam, g < H.next) → obsAll os H →
      (∀ g ∈ (os.set i o').flatMap Ob.fam, g ∈ os.flatMap Ob.fam ∨ H.next ≤ g) ∧ ((os.set i o').flatMap Ob.fam).Nodup ∧ obsAll (os.set i o') H' := by
    intro os
    induction os with
    | nil => intro i h _ _ _; simp at h
    | cons p os ih =>
      intro i h nd lt hall
      rw [List.flatMap_cons, List.nodup_append] at nd
      obtain ⟨n1, n2, n3⟩ := nd
      cases i with
      | zero =>
        simp at h
        subst h
        refine ⟨?_, ?_, hP, obsAll_keeps F.wf k hall.2 fun q hq g hg e => ?_⟩
        · intro g hg
          rw [List.set_cons_zero, List.flatMap_cons] at hg
          rw [List.flatMap_cons]
          rcases List.mem_append.1 hg with hg | hg
          · exact (hf g hg).imp (fun h => List.mem_append.2 (.inl h)) id
          · exact .inl (List.mem_append.2 (.inr hg))
        · rw [List.set_cons_zero, List.flatMap_cons, List.nodup_append]
          refine ⟨hn, n2, fun a ha b hb e => ?_⟩
          subst e
          rcases hf a ha with h | h
          · exact n3 a h a hb rfl
          · have := lt a (by rw [List.flatMap_cons]; exact List.mem_append.2 (.inr hb)); omega
        · have hgm : g ∈ os.flatMap Ob.fam := List.mem_flatMap.2 ⟨q, hq, hg⟩
          rcases e with h | h
          · exact n3 g h g hgm rfl
          · have := lt g (by rw [List.flatMap_cons]; exact List.mem_append.2 (.inr hgm)); omega
      | succ i =>
        have h' : os[i]? = some o := by simpa using h
        have hom : ∀ g ∈ o.fam, g ∈ os.flatMap Ob.fam := fun g hg => List.mem_flatMap.2 ⟨o, List.mem_of_getElem? h', hg⟩
        obtain ⟨r1, r2, r3⟩ := ih i h' n2 (fun g hg => lt g (by rw [List.flatMap_cons]; exact List.mem_append.2 (.inr hg))) hall.2
        refine ⟨?_, ?_, p.keeps _ H H' F.wf hall.1 k fun g hg e => ?_, r3⟩
        · intro g hg
          rw [List.set_cons_succ, List.flatMap_cons] at hg
          rw [List.flatMap_cons]
          rcases List.mem_append.1 hg with hg | hg
          · exact .inl (List.mem_append.2 (.inl hg))
          · exact (r1 g hg).imp (fun h => List.mem_append.2 (.inr h)) id
        · rw [List.set_cons_succ, List.flatMap_cons, List.nodup_append]
          refine ⟨n1, r2, fun a ha b hb e => ?_⟩
          subst e
          rcases r1 a hb with h | h
          · exact n3 a ha a h rfl
          · have := lt a (by rw [List.flatMap_cons]; exact List.mem_append.2 (.inl ha)); omega
        · rcases e with h | h
          · exact n3 g hg g (hom g h) rfl
          · have := lt g (by rw [List.flatMap_cons]; exact List.mem_append.2 (.inl hg)); omega
  obtain ⟨r1, r2, r3⟩ := key os i hi F.nd (fun g hg => F.dn g (.inr hg)) F.o
  have lo : ∀ g, (g ∈ o.fam ∨ H.next ≤ g) → H0.next ≤ g := by
    intro g hg
    rcases hg with h | h
    · exact F.lo g (hof g h)
    · have := F.fr.next; omega
  refine ⟨F.fr.step hw k lo, F.dlt, ?_, r2, r3, ?_⟩
  · intro g hg
    rcases r1 g hg with h | h
    · exact F.lo g h
    · have := F.fr.next; omega
  · refine pbsAll_keeps F.wf (k.mono fun g hg => ?_) ?_ F.p
    · exact hg.imp (fun h => .inr (hof g h)) id
    · intro g hg
      rcases hg with h | h
      · exact .inl (.inl h)
      · exact (r1 g h).imp .inr id
theorem Fx.at (F : Fx H0 D os ps H) (i : Nat) {o : Ob} (hi : os[i]? = some o) (o' : Ob) (hf : o'.fam = o.fam) (hw : WF H') (k : Keeps (fun g => g ∈ o.fam) H H') (hP : o'.P H') : Fx H0 D (os.set i o') ps H' := by
  have hmem : o ∈ os := List.mem_of_getElem? hi
  have hn : o.fam.Nodup := (F.nd.sublist (obs_sub (List.singleton_sublist.2 hmem))) |> fun h => by simpa using h
  exact F.upd i hi o' hw (k.mono fun g hg => .inl hg) (fun g hg => .inl (by rw [← hf]; exact hg)) (by rw [hf]; exact hn) hP
theorem Fx.st1 (F : Fx H0 D os ps H) (i : Nat) {b : Nat} {cs : List AV} (hi : os[i]? = some (.box b cs)) (off : Nat) (y : AV) (hc : y.cell = true) (ho : off < cs.length) :
    ∃ H', wsem0 (.st 1) [.ptr (some (b, off)), y] H = some (.undef, H') ∧ Fx H0 D (os.set i (.box b (cs.set off y))) ps H' := by
  have hb : Box H b b cs := obsAll_mem F.o _ (List.mem_of_getElem? hi)
  have hy : y.cells = [y] := by cases y <;> simp_all [AV.cells, AV.cell]
  obtain ⟨H', q1, q2, q3, q4, q5⟩ := hb.st F.wf (off := off) (vs := [y]) (by simp; omega) (by simpa using hc)
  rw [splice_one ho] at q3
  exact ⟨H', by simp [wsem0_st, hy, q1], F.at i hi (.box b _) rfl q2 (q4.mono fun g hg => by simp [hg]) q3⟩
theorem Fx.stA (F : Fx H0 D os ps H) (i : Nat) {b : Nat} {cs : List AV} (hi : os[i]? = some (.box b cs)) (n : Nat) (ds : List AV) (hc : cs.length = n) (hd : ds.length = n) (ha : ds.all AV.cell = true) :
    ∃ H', wsem0 (.st n) [.ptr (some (b, 0)), .agg ds] H = some (.undef, H') ∧ Fx H0 D (os.set i (.box b ds)) ps H' := by
  have hb : Box H b b cs := obsAll_mem F.o _ (List.mem_of_getElem? hi)
  obtain ⟨H', q1, q2, q3, q4, q5⟩ := hb.stA F.wf hc hd ha
  exact ⟨H', q1, F.at i hi (.box b _) rfl q2 (q4.mono fun g hg => by simp [hg]) q3⟩
/-- One more behind a slice of one's own. -/
theorem Fx.push (F : Fx H0 D os ps H) (i : Nat) {α : Type} {enc : α → AV} [Cell enc] {v : AV} {l : List α} {f : Option Nat} (hi : os[i]? = some (.own enc 1 v l f)) (bytes : Nat) (x : α) (hb : (l.length + 1) * bytes ≤ 2 ^ 46) (hb2 : l.length + 1 ≤ 2 ^ 60) :
    ∃ v' H' f', wsem0 (.app 1 bytes) [v, .slc (some (H.next, 0)) 1 1 (some 1)] (H.new [enc x]) = some (v', H') ∧ v'.cell = true ∧ Fx H0 D (os.set i (.own enc 1 v' (l ++ [x]) f')) ps H' := by
  have ho : Own enc 1 H v l f := obsAll_mem F.o _ (List.mem_of_getElem? hi)
  obtain ⟨v', H', f', q1, q2, q3, q4, q5⟩ := push1 (bytes := bytes) F.wf ho x hb hb2
  refine ⟨v', H', f', q1, q3.1.form.1, F.upd i hi (.own enc 1 v' (l ++ [x]) f') q2 (q4.mono fun g hg => .inl (by simp [hg])) (fun g hg => ?_) (by cases f' <;> simp) q3⟩
  have hg : f' = some g := by simpa using hg
  exact (q5 g hg).imp (fun h => by simp [h]) id
theorem Fx.pushA (F : Fx H0 D os ps H) (i : Nat) {α : Type} {enc : α → AV} {sz : Nat} {v : AV} {l : List α} {f : Option Nat} (hi : os[i]? = some (.own enc sz v l f)) (bytes : Nat) (x : α) (hs : sz ≠ 0) (hx : (enc x).cells.length = sz) (hc : (enc x).cells.all AV.cell = true) (hb : (l.length + 1) * bytes ≤ 2 ^ 46) (hb2 : l.length + 1 ≤ 2 ^ 60) :
    ∃ v' H' f', wsem0 (.app sz bytes) [v, .slc (some (H.next, 0)) sz 1 (some 1)] (H.new (enc x).cells) = some (v', H') ∧ v'.cell = true ∧ Fx H0 D (os.set i (.own enc sz v' (l ++ [x]) f')) ps H' := by
  have ho : Own enc sz H v l f := obsAll_mem F.o _ (List.mem_of_getElem? hi)
  have := app_push (bytes := bytes) (ys := [x]) F.wf ho hs (by simpa using hx) (by simpa using hc) (by simpa using hb) (by simpa using hb2)
  simp only [List.flatMap_cons, List.flatMap_nil, List.append_nil, List.length_cons, List.length_nil, Nat.zero_add] at this
  obtain ⟨v', H', f', q1, q2, q3, q4, q5⟩ := this
  refine ⟨v', H', f', q1, q3.1.form.1, F.upd i hi (.own enc sz v' (l ++ [x]) f') q2 (q4.mono fun g hg => .inl (by simp [hg])) (fun g hg => ?_) (by cases f' <;> simp) q3⟩
  have hg : f' = some g := by simpa using hg
  exact (q5 g hg).imp (fun h => by simp [h]) id
/-- More of them. -/
theorem Fx.appd (F : Fx H0 D os ps H) (i : Nat) {α : Type} {enc : α → AV} {sz : Nat} {v x : AV} {l ys : List α} {f : Option Nat} (hi : os[i]? = some (.own enc sz v l f)) (bytes : Nat) (hx : Sl enc sz H x ys) (hs : sz ≠ 0) (hc : ∀ y ∈ ys, (enc y).cells.all AV.cell = true) (hb : (l.length + ys.length) * bytes ≤ 2 ^ 46) (hb2 : l.length + ys.length ≤ 2 ^ 60) :
    ∃ v' H' f', wsem0 (.app sz bytes) [v, x] H = some (v', H') ∧ v'.cell = true ∧ Fx H0 D (os.set i (.own enc sz v' (l ++ ys) f')) ps H' := by
  have ho : Own enc sz H v l f := obsAll_mem F.o _ (List.mem_of_getElem? hi)
  obtain ⟨v', H', f', q1, q2, q3, q4, q5⟩ := app_own (bytes := bytes) F.wf ho hx hs hc hb hb2
  refine ⟨v', H', f', q1, q3.1.form.1, F.upd i hi (.own enc sz v' (l ++ ys) f') q2 (q4.mono fun g hg => .inl (by simp [hg])) (fun g hg => ?_) (by cases f' <;> simp) q3⟩
  have hg : f' = some g := by simpa using hg
  exact (q5 g hg).imp (fun h => by simp [h]) id
/-- A nil slice that may grow. -/
theorem Fx.nil (F : Fx H0 D os ps H) {α : Type} (enc : α → AV) (sz z : Nat) : Fx H0 D (.own enc sz (.slc none z 0 none) ([] : List α) none :: os) ps H :=
  F.mkO F.wf .refl _ (by simp) (by simp) (Own.nil (by simp))
/-- A slice that was made by a call. -/
theorem Fx.made (F : Fx H0 D os ps H) {α : Type} {enc : α → AV} {sz : Nat} {v : AV} {l : List α} (k : Fr H H') (hm : Made enc sz H.next H' v l) : ∃ f, Fx H0 D (.own enc sz v l f :: os) ps H' := by
  obtain ⟨f, h1, h2⟩ := hm
  exact ⟨f, F.mkO k.wf k.keeps _ (fun g hg => h2 g (by simpa using hg)) (by cases f <;> simp) h1⟩
/-- A slice of one's own is only read from now on. -/
theorem Fx.read {α : Type} {enc : α → AV} {sz : Nat} {v : AV} {l : List α} {f : Option Nat} (F : Fx H0 D (.own enc sz v l f :: os) ps H) : Fx H0 D os (.rd enc sz v l :: ps) H := by
  have G := F.drop
  have ho : Own enc sz H v l f := F.o.1
  refine ⟨G.fr, G.dlt, G.lo, G.nd, G.o, ⟨ho.1, ?_⟩, G.p⟩
  intro b off sv n c g cs e hr hg
  subst e
  obtain ⟨g', cs', q1, q2, _⟩ := ho.2
  rw [hr] at q1
  cases q1
  rcases hg with hg | hg
  · have h1 := F.dlt _ hg
    have h2 := F.lo g (by rw [List.flatMap_cons]; exact List.mem_append.2 (.inl (by simp [q2])))
    omega
  · have nd := F.nd
    rw [List.flatMap_cons, List.nodup_append] at nd
    exact nd.2.2 g (by simp [q2]) g hg rfl
/-- What a function leaves. -/
theorem Fx.end (F : Fx H0 D os ps H) : Fr H0 H ∧ pbsAll ps D H := ⟨F.fr, pbsAll_keeps F.wf .refl (fun g hg => .inl (.inl hg)) F.p⟩
end
/-- A part of the text is walked by itself. -/
theorem W_cut {T : Mach} {a b : ACode} {k : List Fm} {e : Env} {H : AHeap} {R : AExit → AState → Prop} (Q : Env → AHeap → Prop) (h1 : W T a [] (e, H) (fun x s' => x = .normal ∧ Q s'.1 s'.2)) (h2 : ∀ e' H', Q e' H' → W T b k (e', H') R) : W T (.seq a b) k (e, H) R := by
  rw [W_seq]
  refine AC.imp h1 fun x s h => ?_
  obtain ⟨rfl, h⟩ : x = .normal ∧ Q s.1 s.2 := h
  exact h2 s.1 s.2 h
theorem Box.at {H : AHeap} {b f : Nat} {cs : List AV} (h : Box H b f cs) (i : Nat) {c : AV} (hi : cs[i]? = some c) : rsem (.ld 1 false) [.ptr (some (b, i))] H = some c := by
  have hlt := (List.getElem?_eq_some_iff.1 hi).1
  simp only [rsem, AHeap.ld, h.row]
  rw [if_pos (by omega)]
  simp [hi]
theorem Box.all {H : AHeap} {b f : Nat} {cs : List AV} (h : Box H b f cs) (n : Nat) (hc : cs.length = n) : rsem (.ld n true) [.ptr (some (b, 0))] H = some (.agg cs) := h.ldA hc
theorem Box.part {H : AHeap} {b f : Nat} {cs : List AV} (h : Box H b f cs) (i n : Nat) (hi : i + n ≤ cs.length) : rsem (.ld n true) [.ptr (some (b, i))] H = some (.agg ((cs.drop i).take n)) := by
  simp only [rsem, AHeap.ld, h.row]
  rw [if_pos hi]
  rfl
/-- A row that was just made. -/
theorem wsem0_boxA {cs : List AV} {H : AHeap} (h : cs.all AV.cell = true) : wsem0 .box [.agg cs] H = some (.ptr (some (H.next, 0)), H.new cs) := by
  have h' : (AV.agg cs).cells.all AV.cell = true := h
  rw [wsem0_box, if_pos h']; rfl
theorem ares_cellA {e : Env} {H : AHeap} {t n b : Nat} {r : List ARes} {cs : List AV} (he : e t = .ptr (some (b, 0))) (hb : Box H b b cs) (hn : cs.length = n) : ares e H (.cell t n true :: r) = consO (.agg cs) (ares e H r) := by
  subst hn
  simp only [ares, he, AHeap.ld, hb.row]
  rw [if_pos (by omega)]
  cases ares e H r <;> simp [consO]
/-- The bytes of a text. -/
theorem made_s2bF {H : AHeap} {s : List UInt8} (hs : s.length ≤ 2 ^ 46) : ∃ v, wsem0 .s2b [.str s] H = some (v, H.new (s.map encU)) ∧ Made encU 1 H.next (H.new (s.map encU)) v s := by
  refine ⟨.slc (some (H.next, 0)) 1 s.length none, ?_, some H.next, ⟨⟨Cell.len _, some (H.next, 0), 1, none, rfl, by simp, rfl, H.next, _, (Box.new (H := H) (cs := s.map encU)).row, by simp, ?_⟩, H.next, _, (Box.new (H := H) (cs := s.map encU)).row, rfl, (Box.new (H := H) (cs := s.map encU)).fam⟩, by simp⟩
  · show wsem _ .s2b [.str s] H = _
    simp only [wsem]
    rw [if_pos hs]
  · rw [Cell.flat, List.drop_zero, List.take_of_length_le (by simp)]
end Go.Am
