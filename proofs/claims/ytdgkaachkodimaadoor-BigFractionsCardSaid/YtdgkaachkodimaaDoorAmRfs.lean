/- Texts of functions for the small machine, printed by mkir2.py out of the compiled functions, and for each what a table has to hold. -/
import Derived.Test.YtdgkaachkodimaaDoorAmIrBig
import Derived.Test.YtdgkaachkodimaaDoorAmBigsO
import Derived.Test.YtdgkaachkodimaaDoorAmBigsH
set_option linter.unusedVariables false
namespace Go.Am
/-- motley/motleyref26.Fraction -/
def ir413 : AFunc := ⟨.seq (.region [
  ⟨(some 6),.p .mv,[.c (.str [])],none,[]⟩,
  ⟨(some 7),.p .mv,[.c (.int .i64 0)],none,[]⟩] false []) <|
 .seq (.region [
  ⟨(some 16),.p .mv,[.t 0],none,[]⟩,
  ⟨(some 17),.p .mv,[.t 1],none,[]⟩,
  ⟨(some 18),.w (.bsl 1 2 [(.str []),(.str [])] [(0,1),(1,1)]),[.t 16,.t 17],none,[]⟩,
  ⟨(some 19),.w .call,[.c (.fn 447 [] []),.t 18],none,[]⟩,
  ⟨(some 8),.p .mv,[.t 19],none,[]⟩] false []) <|
 .seq (.seq (.region [
  ⟨(some 20),.p .mv,[.t 8],none,[]⟩,
  ⟨(some 21),.p (.bin .neq),[.t 20,.c (.int .i64 0)],none,[]⟩] false []) <|
 .cond (.t 21) (.seq (.region [
  ⟨(some 22),.p .mv,[.t 8],none,[]⟩,
  ⟨(some 6),.p .mv,[.c (.str [])],none,[]⟩,
  ⟨(some 7),.p .mv,[.t 22],none,[]⟩] false []) <|
 .ret) (.skip)) <|
 .seq (.seq (.region [
  ⟨(some 23),.p .mv,[.t 1],none,[]⟩,
  ⟨(some 24),.p (.bin .eql),[.t 23,.c (.str [48])],none,[]⟩,
  ⟨(some 25),.p .mv,[.t 24],none,[]⟩,
  ⟨(some 26),.p .mv,[.t 2],(some (25,false)),[]⟩,
  ⟨(some 27),.p (.bin .lss),[.t 26,.c (.int .i64 0)],(some (25,false)),[]⟩,
  ⟨(some 28),.p .pick,[.t 25,.c (.bool true),.t 27],none,[]⟩,
  ⟨(some 29),.p .mv,[.t 28],none,[]⟩,
  ⟨(some 30),.p .mv,[.t 2],(some (29,false)),[]⟩,
  ⟨(some 31),.p (.bin .gtr),[.t 30,.c (.int .i64 200)],(some (29,false)),[]⟩,
  ⟨(some 32),.p .pick,[.t 29,.c (.bool true),.t 31],none,[]⟩] false []) <|
 .cond (.t 32) (.seq (.region [
  ⟨(some 6),.p .mv,[.c (.str [])],none,[]⟩,
  ⟨(some 7),.p .mv,[.c (.int .i64 1)],none,[]⟩] false []) <|
 .ret) (.skip)) <|
 .seq (.region [
  ⟨(some 33),.p .mv,[.t 0],none,[]⟩,
  ⟨(some 34),.w .call,[.c (.fn 448 [] []),.t 33],none,[]⟩,
  ⟨(some 35),.p .mv,[.t 1],none,[]⟩,
  ⟨(some 36),.w .call,[.c (.fn 448 [] []),.t 35],none,[]⟩,
  ⟨(some 9),.w .box,[.c (.agg [(.slc none 0 0 none),(.bool false)])],none,[]⟩,
  ⟨(some 10),.w .box,[.c (.agg [(.slc none 0 0 none),(.bool false)])],none,[]⟩,
  ⟨none,.w (.st 2),[.t 9,.t 34],none,[]⟩,
  ⟨none,.w (.st 2),[.t 10,.t 36],none,[]⟩] false []) <|
 .seq (.region [
  ⟨(some 37),.p (.fa 1),[.t 9],none,[]⟩,
  ⟨(some 38),.r (.ld 1 false),[.t 37],none,[]⟩,
  ⟨(some 39),.p (.fa 1),[.t 10],none,[]⟩,
  ⟨(some 40),.r (.ld 1 false),[.t 39],none,[]⟩,
  ⟨(some 41),.p (.eqB true),[.t 38,.t 40],none,[]⟩,
  ⟨(some 11),.p .mv,[.t 41],none,[]⟩] false []) <|
 .seq (.region [
  ⟨(some 42),.p .mv,[.t 2],none,[]⟩,
  ⟨(some 44),.r (.ld 2 true),[.t 9],none,[]⟩,
  ⟨(some 45),.w .call,[.c (.fn 449 [] []),.t 44],none,[]⟩,
  ⟨(some 46),.p (.fld 0 1 false),[.t 45],none,[]⟩,
  ⟨(some 43),.w (.mks 8 [(.int .i64 0)]),[.t 42,.t 42],none,[]⟩,
  ⟨(some 47),.w (.app 1 8),[.t 43,.t 46],none,[]⟩,
  ⟨(some 48),.p (.bld [(.slc none 0 0 none),(.bool false)] [(0,1),(1,1)]),[.t 47,.c (.bool false)],none,[]⟩,
  ⟨(some 12),.w .box,[.c (.agg [(.slc none 0 0 none),(.bool false)])],none,[]⟩,
  ⟨none,.w (.st 2),[.t 12,.t 48],none,[]⟩] true [(1,4),(1,7)]) <|
 .seq (.region [
  ⟨(some 50),.r (.ld 2 true),[.t 12],none,[]⟩,
  ⟨(some 51),.w .call,[.c (.fn 453 [] []),.t 50],none,[]⟩,
  ⟨(some 52),.w .call,[.c (.fn 454 [] []),.c (.int .i64 2)],none,[]⟩,
  ⟨(some 53),.w .call,[.c (.fn 452 [] []),.t 51,.t 52],none,[]⟩,
  ⟨(some 54),.r (.ld 2 true),[.t 10],none,[]⟩,
  ⟨(some 55),.w .call,[.c (.fn 449 [] []),.t 54],none,[]⟩,
  ⟨(some 56),.w .call,[.c (.fn 451 [] []),.t 53,.t 55],none,[]⟩,
  ⟨(some 57),.r (.ld 2 true),[.t 10],none,[]⟩,
  ⟨(some 58),.w .call,[.c (.fn 449 [] []),.t 57],none,[]⟩,
  ⟨(some 59),.w .call,[.c (.fn 454 [] []),.c (.int .i64 2)],none,[]⟩,
  ⟨(some 60),.w .call,[.c (.fn 452 [] []),.t 58,.t 59],none,[]⟩,
  ⟨(some 61),.w .call,[.c (.fn 450 [] []),.t 56,.t 60],none,[]⟩,
  ⟨(some 49),.p .mv,[.t 61],none,[]⟩,
  ⟨(some 62),.p (.ext 0),[.t 49],none,[]⟩,
  ⟨(some 63),.p (.ext 1),[.t 49],none,[]⟩,
  ⟨(some 13),.w .box,[.c (.agg [(.slc none 0 0 none),(.bool false)])],none,[]⟩,
  ⟨(some 14),.w .box,[.c (.agg [(.slc none 0 0 none),(.bool false)])],none,[]⟩,
  ⟨none,.w (.st 2),[.t 13,.t 62],none,[]⟩,
  ⟨none,.w (.st 2),[.t 14,.t 63],none,[]⟩] true [(4,1),(4,2),(4,3),(7,1),(7,2),(7,3),(7,5),(7,6),(0,15),(4,15),(7,15),(0,16),(4,16),(7,16)]) <|
 .seq (.seq (.region [
  ⟨(some 64),.p (.fa 0),[.t 13],none,[]⟩,
  ⟨(some 65),.r (.ld 1 false),[.t 64],none,[]⟩,
  ⟨(some 66),.p .len,[.t 65],none,[]⟩,
  ⟨(some 67),.p .mv,[.t 2],none,[]⟩,
  ⟨(some 68),.p (.bin .add),[.c (.int .i64 400),.t 67],none,[]⟩,
  ⟨(some 69),.p (.bin .gtr),[.t 66,.t 68],none,[]⟩] false []) <|
 .cond (.t 69) (.seq (.region [
  ⟨(some 6),.p .mv,[.c (.str [])],none,[]⟩,
  ⟨(some 7),.p .mv,[.c (.int .i64 3)],none,[]⟩] false []) <|
 .ret) (.skip)) <|
 .seq (.region [
  ⟨(some 70),.p .mv,[.t 11],none,[]⟩,
  ⟨(some 71),.p .mv,[.t 70],none,[]⟩,
  ⟨(some 72),.p (.fa 0),[.t 13],(some (71,true)),[]⟩,
  ⟨(some 73),.r (.ld 1 false),[.t 72],(some (71,true)),[]⟩,
  ⟨(some 74),.p .len,[.t 73],(some (71,true)),[]⟩,
  ⟨(some 75),.p (.bin .gtr),[.t 74,.c (.int .i64 0)],(some (71,true)),[]⟩,
  ⟨(some 76),.p .pick,[.t 71,.t 75,.c (.bool false)],none,[]⟩,
  ⟨(some 77),.p (.fa 1),[.t 13],none,[]⟩,
  ⟨none,.w (.st 1),[.t 77,.t 76],none,[]⟩] false []) <|
 .seq (.region [
  ⟨(some 78),.r (.ld 2 true),[.t 13],none,[]⟩,
  ⟨(some 79),.w .call,[.c (.fn 449 [] []),.t 78],none,[]⟩,
  ⟨(some 80),.w .call,[.c (.fn 455 [] []),.t 79],none,[]⟩,
  ⟨(some 15),.p .mv,[.t 80],none,[]⟩] false []) <|
 .seq (.block 0 (.loop (.seq (.seq (.region [
  ⟨(some 81),.p .mv,[.t 15],none,[]⟩,
  ⟨(some 82),.p .lenS,[.t 81],none,[]⟩,
  ⟨(some 83),.p .mv,[.t 2],none,[]⟩,
  ⟨(some 84),.p (.bin .leq),[.t 82,.t 83],none,[]⟩] false []) <|
 .cond (.t 84) (.skip) (.exit 0)) <|
 .block 1 (.region [
  ⟨(some 85),.p .mv,[.t 15],none,[]⟩,
  ⟨(some 86),.p (.bin .add),[.c (.str [48]),.t 85],none,[]⟩,
  ⟨(some 15),.p .mv,[.t 86],none,[]⟩] false [])))) <|
 .seq (.seq (.region [
  ⟨(some 87),.p .mv,[.t 2],none,[]⟩,
  ⟨(some 88),.p (.bin .gtr),[.t 87,.c (.int .i64 0)],none,[]⟩] false []) <|
 .cond (.t 88) (.region [
  ⟨(some 89),.p .mv,[.t 15],none,[]⟩,
  ⟨(some 90),.p .mv,[.t 15],none,[]⟩,
  ⟨(some 91),.p .lenS,[.t 90],none,[]⟩,
  ⟨(some 92),.p .mv,[.t 2],none,[]⟩,
  ⟨(some 93),.p (.bin .sub),[.t 91,.t 92],none,[]⟩,
  ⟨(some 94),.p (.slS false true),[.t 89,.t 93],none,[]⟩,
  ⟨(some 95),.p (.bin .add),[.t 94,.c (.str [46])],none,[]⟩,
  ⟨(some 96),.p .mv,[.t 15],none,[]⟩,
  ⟨(some 97),.p .mv,[.t 15],none,[]⟩,
  ⟨(some 98),.p .lenS,[.t 97],none,[]⟩,
  ⟨(some 99),.p .mv,[.t 2],none,[]⟩,
  ⟨(some 100),.p (.bin .sub),[.t 98,.t 99],none,[]⟩,
  ⟨(some 101),.p (.slS true false),[.t 96,.t 100],none,[]⟩,
  ⟨(some 102),.p (.bin .add),[.t 95,.t 101],none,[]⟩,
  ⟨(some 15),.p .mv,[.t 102],none,[]⟩] true []) (.skip)) <|
 .seq (.seq (.region [
  ⟨(some 103),.p (.fa 1),[.t 13],none,[]⟩,
  ⟨(some 104),.r (.ld 1 false),[.t 103],none,[]⟩] false []) <|
 .cond (.t 104) (.region [
  ⟨(some 105),.p .mv,[.t 15],none,[]⟩,
  ⟨(some 106),.p (.bin .add),[.c (.str [45]),.t 105],none,[]⟩,
  ⟨(some 15),.p .mv,[.t 106],none,[]⟩] false []) (.skip)) <|
 .seq (.region [
  ⟨(some 107),.p .mv,[.t 15],none,[]⟩,
  ⟨(some 6),.p .mv,[.t 107],none,[]⟩,
  ⟨(some 7),.p .mv,[.c (.int .i64 0)],none,[]⟩] false []) <|
 .ret, [.tmp 6,.tmp 7]⟩
structure D413 (T : Tab) : Prop where
  fn : T.fn 413 = some ir413
  pr : T.prim 413 = none
  d447 : D447 T
  d448 : D448 T
  d449 : D449 T
  d453 : D453 T
  d454 : D454 T
  d452 : D452 T
  d451 : D451 T
  d450 : D450 T
  d455 : D455 T
/-- motley/motleylaw26.BigFractions -/
def ir402 : AFunc := ⟨.seq (.region [
  ⟨(some 6),.p .mv,[.c (.bool false)],none,[]⟩] false []) <|
 .seq (.seq (.region [
  ⟨(some 11),.p .mv,[.t 0],none,[]⟩,
  ⟨(some 12),.w .call,[.c (.fn 411 [] []),.t 11],none,[]⟩,
  ⟨(some 13),.p .mv,[.t 12],none,[]⟩,
  ⟨(some 14),.p .mv,[.t 1],(some (13,false)),[]⟩,
  ⟨(some 15),.w .call,[.c (.fn 411 [] []),.t 14],(some (13,false)),[]⟩,
  ⟨(some 16),.p .pick,[.t 13,.c (.bool true),.t 15],none,[]⟩] false []) <|
 .cond (.t 16) (.seq (.region [
  ⟨(some 17),.w .call,[.c (.fn 412 [] [])],none,[]⟩,
  ⟨(some 6),.p .mv,[.t 17],none,[]⟩] false []) <|
 .ret) (.skip)) <|
 .seq (.region [
  ⟨(some 19),.p .mv,[.t 0],none,[]⟩,
  ⟨(some 20),.p .mv,[.t 1],none,[]⟩,
  ⟨(some 21),.p .mv,[.t 2],none,[]⟩,
  ⟨(some 22),.w .call,[.c (.fn 413 [] []),.t 19,.t 20,.t 21],none,[]⟩,
  ⟨(some 18),.p .mv,[.t 22],none,[]⟩,
  ⟨(some 23),.p (.ext 0),[.t 18],none,[]⟩,
  ⟨(some 24),.p (.ext 1),[.t 18],none,[]⟩,
  ⟨(some 7),.p .mv,[.t 23],none,[]⟩,
  ⟨(some 8),.p .mv,[.t 24],none,[]⟩] false []) <|
 .seq (.region [
  ⟨(some 26),.p .mv,[.t 0],none,[]⟩,
  ⟨(some 27),.p .mv,[.t 1],none,[]⟩,
  ⟨(some 28),.p .mv,[.t 2],none,[]⟩,
  ⟨(some 29),.w .call,[.c (.fn 414 [] []),.t 26,.t 27,.t 28],none,[]⟩,
  ⟨(some 25),.p .mv,[.t 29],none,[]⟩,
  ⟨(some 30),.p (.ext 0),[.t 25],none,[]⟩,
  ⟨(some 31),.p (.ext 1),[.t 25],none,[]⟩,
  ⟨(some 9),.p .mv,[.t 30],none,[]⟩,
  ⟨(some 10),.p .mv,[.t 31],none,[]⟩] false []) <|
 .seq (.region [
  ⟨(some 32),.p .mv,[.t 9],none,[]⟩,
  ⟨(some 33),.p .mv,[.t 7],none,[]⟩,
  ⟨(some 34),.p (.bin .eql),[.t 32,.t 33],none,[]⟩,
  ⟨(some 35),.p .mv,[.t 34],none,[]⟩,
  ⟨(some 36),.p .mv,[.t 10],(some (35,true)),[]⟩,
  ⟨(some 37),.p .mv,[.t 8],(some (35,true)),[]⟩,
  ⟨(some 38),.p (.bin .eql),[.t 36,.t 37],(some (35,true)),[]⟩,
  ⟨(some 39),.p .pick,[.t 35,.t 38,.c (.bool false)],none,[]⟩,
  ⟨(some 40),.p .mv,[.t 39],none,[]⟩,
  ⟨(some 41),.w .call,[.c (.fn 412 [] [])],(some (40,true)),[]⟩,
  ⟨(some 42),.p .pick,[.t 40,.t 41,.c (.bool false)],none,[]⟩,
  ⟨(some 6),.p .mv,[.t 42],none,[]⟩] false []) <|
 .ret, [.tmp 6]⟩
structure D402 (T : Tab) : Prop where
  fn : T.fn 402 = some ir402
  pr : T.prim 402 = none
  d411 : D411 T
  d412 : D412 T
  d413 : D413 T
  d414 : D414 T
end Go.Am

/- Fractions: the plain law. -/
set_option linter.unusedVariables false
set_option linter.unusedSimpArgs false
namespace Go.Am
/-- Rounding, reckoned in halves. -/
theorem fracN_half {x y : Nat} (hy : 0 < y) : (x * 2 + y) / (y * 2) = fracN x y := by
  unfold fracN
  have h1 := Nat.div_add_mod x y
  have h2 := Nat.mod_lt x hy
  obtain ⟨k, hk⟩ : ∃ k, x / y = k := ⟨_, rfl⟩
  obtain ⟨r, hr⟩ : ∃ r, x % y = r := ⟨_, rfl⟩
  rw [hk, hr] at h1
  rw [hr] at h2
  rw [hk, hr]
  have e : x * 2 + y = (2 * r + y) + y * 2 * k := by
    have : y * 2 * k = 2 * (y * k) := by rw [Nat.mul_assoc, Nat.mul_left_comm]
    rw [this]; omega
  rw [e, Nat.add_mul_div_left _ _ (by omega)]
  split
  · have : (2 * r + y) / (y * 2) = 1 := by
      apply Nat.div_eq_of_lt_le
      · omega
      · omega
    omega
  · have : (2 * r + y) / (y * 2) = 0 := Nat.div_eq_of_lt (by omega)
    omega
theorem fracN_le {x y : Nat} (hy : 0 < y) : fracN x y ≤ x := by
  unfold fracN
  have h1 := Nat.div_add_mod x y
  have h2 := Nat.mod_lt x hy
  split
  · rename_i h
    rcases Nat.lt_or_ge x y with hlt | hge
    · rw [Nat.div_eq_of_lt hlt]
      rw [Nat.mod_eq_of_lt hlt] at h
      omega
    · by_cases hy1 : y = 1
      · subst hy1; rw [Nat.mod_one] at h; omega
      · have : x / y ≤ x / 2 := Nat.div_le_div_left (by omega) (by decide)
        omega
  · exact Nat.div_le_self _ _
/-- The text of places, by parts. -/
theorem fracW_parts (D : List Int) (c : Nat) : ∀ j, j ≤ D.length → fracW D c j = if j ≤ c then (D.take j).map chS else (D.take c).map chS ++ [46] ++ ((D.take j).drop c).map chS
  | 0, _ => by simp [fracW]
  | j + 1, h => by
    rw [fracW_succ, fracW_parts D c j (by omega)]
    have hn : D.take (j + 1) = D.take j ++ [nth D (j : Int)] := take_nth (by omega)
    by_cases h1 : j + 1 ≤ c
    · rw [if_pos (by omega), if_pos h1, if_neg (by omega), hn]
      simp
    · by_cases h2 : j = c
      · subst h2
        rw [if_pos (Nat.le_refl _), if_pos rfl, if_neg h1, hn]
        have e1 : (D.take j).length = j := by simp; omega
        rw [List.drop_append_of_le_length (by omega), List.drop_of_length_le (by omega)]
        simp
      · rw [if_neg (show ¬ j ≤ c by omega), if_neg h2, if_neg h1, hn]
        have e1 : (D.take j).length = j := by simp; omega
        rw [List.drop_append_of_le_length (by omega)]
        simp
theorem fracD_len (p q : Nat) : (fracD p q).length = (dig q).length + (p + 1 - (dig q).length) := by
  unfold fracD; simp; omega
theorem chS_zero : chS 0 = 48 := by decide
theorem showS_nat (q : Nat) : showS (q : Int) = if q = 0 then [48] else (dig q).map chS := by
  unfold showS
  by_cases h : q = 0
  · subst h; rfl
  · rw [if_neg (by omega), if_neg h]
    have : bel (q : Int) = false := by simp [bel]
    rw [this]; simp
/-- What the loop fills up. -/
theorem pad_show (p q : Nat) : List.replicate (p + 1 - (showS (q : Int)).length) 48 ++ showS (q : Int) = (fracD p q).map chS := by
  rw [showS_nat]
  unfold fracD
  by_cases h : q = 0
  · subst h
    rw [if_pos rfl, dig_zero, ← chS_zero, List.append_nil, List.map_replicate, List.length_singleton, List.length_nil, Nat.sub_zero, ← List.replicate_succ']
    congr 1
  · rw [if_neg h, List.map_append, List.map_replicate, chS_zero, List.length_map]
theorem fracT_parts (neg : Bool) (p q : Nat) : fracT neg p q = (if neg && decide (q ≠ 0) then [45] else []) ++
    (if p = 0 then (fracD p q).map chS else ((fracD p q).map chS).take ((fracD p q).length - p) ++ [46] ++ ((fracD p q).map chS).drop ((fracD p q).length - p)) := by
  unfold fracT
  congr 1
  have hl : p < (fracD p q).length := by rw [fracD_len]; omega
  rw [fracW_parts _ _ _ (Nat.le_refl _), List.take_of_length_le (Nat.le_refl _), List.map_take, List.map_drop]
  by_cases h : p = 0
  · subst h; rw [if_pos rfl, if_pos (by omega)]
  · rw [if_neg h, if_neg (by omega)]
end Go.Am

/- Contracts of the reference's numbers: trimming, reading, comparing. -/
set_option linter.unusedVariables false
set_option linter.unusedSimpArgs false
namespace Go.Am
variable {T : Tab}
/-- A number of the reference: its digits, the lowest one first, and its sign. -/
def NV (D : Nat → Prop) (H : AHeap) (v : AV) (z : Int) : Prop := ∃ s, v = .agg [s, .bool (bel z)] ∧ Rd D encI 1 H s (rdig z.natAbs)
abbrev Pb.nv (v : AV) (z : Int) : Pb := ⟨fun D H => NV D H v z, fun _ _ _ _ hw h k hd => by obtain ⟨s, e, h⟩ := h; exact ⟨s, e, h.go hw k hd⟩⟩
theorem NV.to {D : Nat → Prop} {H : AHeap} {v : AV} {z z' : Int} (h : NV D H v z) (e : z = z') : NV D H v z' := e ▸ h
theorem NV.box {D : Nat → Prop} {H : AHeap} {v : AV} {z : Int} (h : NV D H v z) : ∃ s, v = .agg [s, .bool (bel z)] ∧ s.cell = true ∧ Rd D encI 1 H s (rdig z.natAbs) := by
  obtain ⟨s, e, h⟩ := h; exact ⟨s, e, h.sl.form.1, h⟩
def rtrim (l : List Int) : List Int := (trimZ l.reverse).reverse
theorem rtrim_nil : rtrim [] = [] := rfl
theorem rtrim_snoc (l : List Int) (d : Int) : rtrim (l ++ [d]) = if d = 0 then rtrim l else l ++ [d] := by
  unfold rtrim
  rw [List.reverse_append, List.reverse_singleton, List.singleton_append]
  simp only [trimZ]
  split <;> simp
/-- The lowest digits, the lowest one first. -/
def rfd (L n : Nat) : List Int := (fd L n).reverse
theorem rfd_len (L n : Nat) : (rfd L n).length = L := by simp [rfd, fd_len]
theorem rtrim_rfd {L n : Nat} (h : n < 10 ^ L) : rtrim (rfd L n) = rdig n := by
  unfold rtrim rfd
  rw [List.reverse_reverse, trimZ_fd L n h]
  simp [dig]
theorem rdig_len (n : Nat) : (rdig n).length = (dig n).length := (dig_len n).symm
theorem nth_rdig (n i : Nat) : nth (rdig n) (i : Int) = ((n / 10 ^ i % 10 : Nat) : Int) := by
  rw [← rdig_get]; rfl
theorem rfd_succ (L n : Nat) : rfd (L + 1) n = rfd L n ++ [((n / 10 ^ L % 10 : Nat) : Int)] := by
  unfold rfd; rw [fd_head]; simp
theorem rdig_rfd (n : Nat) : rdig n = rfd (rdig n).length n := by
  unfold rfd
  rw [rdig_len, ← dig_fd]; simp [dig]
theorem rdig_len0 {n : Nat} : (rdig n).length = 0 ↔ n = 0 := by rw [rdig_len]; exact dig_len0
theorem rdig_pos_len {n : Nat} : 0 < (rdig n).length ↔ n ≠ 0 := by rw [rdig_len]; exact dig_pos_len
/-- A part of a slice of a family that may not be written. -/
theorem Rd.cut0 {α : Type} {enc : α → AV} {sz : Nat} {D : Nat → Prop} {H : AHeap} {v : AV} {l : List α} (h : Rd D enc sz H v l) (j : Nat) (hj : j ≤ l.length) :
    ∃ v', (∀ k : IntKind, psem (.sl sz false true false) [v, .int k j] = some v') ∧ Rd D enc sz H v' (l.take j) := by
  obtain ⟨v', q1, q2, q3, q4⟩ := h.cut 0 j (Nat.zero_le _) hj
  exact ⟨v', fun k => q3 k rfl, by simpa using q4⟩
theorem c453 (Dt : D453 T) {D : Nat → Prop} {H : AHeap} (hw : WF H) (hd : ∀ g, D g → g < H.next) {b : Bool} {s : AV} {l : List Int} (hs : Rd D encI 1 H s l) (hl : l.length < 2 ^ 40) :
    Calls T 453 [.agg [s, .bool b]] H fun r H' => Fr H H' ∧ ∃ s', r = .agg [s', .bool (b && decide (0 < (rtrim l).length))] ∧ Rd D encI 1 H' s' (rtrim l) := by
  refine Calls.fn Dt.pr Dt.fn ?_
  have F := ((Fx.start hw hd (ps := [.rd encI 1 s l]) ⟨hs, trivial⟩).bx H.next [s, .bool b]).bx (H.next + 1) [.slc none 0 0 none, .bool false]
  simp [-Wk_seq, ir453, new_next, Nat.add_assoc, hs.sl.form.1]
  rw [Wk_seq]
  refine W_cut (fun e X => e 1 = .ptr (some (H.next, 0)) ∧ e 2 = .ptr (some (H.next + 1, 0)) ∧ ∃ s', Fx H D [.box (H.next + 1) [.slc none 0 0 none, .bool false], .box H.next [s', .bool b]] [.rd encI 1 s' (rtrim l)] X) ?_ ?_
  · simp only [W_block]
    refine W_loop (fun (w : Nat) e X => e 1 = .ptr (some (H.next, 0)) ∧ e 2 = .ptr (some (H.next + 1, 0)) ∧ ∃ s' l', l'.length = w ∧ rtrim l' = rtrim l ∧ l'.length ≤ l.length ∧ Fx H D [.box (H.next + 1) [.slc none 0 0 none, .bool false], .box H.next [s', .bool b]] [.rd encI 1 s' l'] X) id l.length ?_ ?_
    · exact ⟨rfl, rfl, s, l, rfl, rfl, Nat.le_refl _, F⟩
    · rintro w e X ⟨h1, h2, s', l', hw', ht, hle, G⟩
      have B : Box X H.next H.next _ := G.o.2.1
      have hs' : Rd _ encI 1 X s' l' := G.p.1
      have lens := hs'.sl.len
      rcases List.eq_nil_or_concat l' with rfl | ⟨m, d, rfl⟩
      · rw [rtrim_nil] at ht
        rw [← ht]
        simp [h1, h2, B.at 0 rfl, lens]
        exact ⟨s', G⟩
      · rw [List.concat_eq_append] at *
        have hn : nth (m ++ [d]) (m.length : Int) = d := by simp [nth]
        have hlen : (m ++ [d]).length = m.length + 1 := by simp
        rw [hlen] at lens hle hw'
        have w1 : IntKind.i64.wrap (((m.length + 1 : Nat) : Int) - 1) = (m.length : Int) := by rw [wrap_small (by omega) (by omega)]; omega
        have hp : (0 : Int) < ((m.length + 1 : Nat) : Int) := by omega
        have ia : psem (.ia 1) [s', .int .i64 (m.length : Int)] = some (elt s' 1 (m.length : Int)) := hs'.sl.ia (by omega) (by simp; omega)
        have ld : rsem (.ld 1 false) [elt s' 1 (m.length : Int)] X = some (.int .i64 d) := by rw [hs'.sl.ld (by omega) (by simp; omega), hn]
        rw [rtrim_snoc] at ht
        by_cases h0 : d = 0
        · subst h0
          rw [if_pos rfl] at ht
          obtain ⟨v', c1, c2⟩ := hs'.cut0 m.length (by simp)
          rw [show (m ++ [(0 : Int)]).take m.length = m by simp] at c2
          have G2 := G.pbs (qs := [.rd encI 1 v' m]) ⟨c2, trivial⟩
          obtain ⟨X2, s2, G3⟩ := G2.st1 1 rfl 0 v' c2.sl.form.1 (by simp)
          simp only [List.set_cons_zero] at G3
          simp [-Int.natCast_add, h1, h2, B.at 0 rfl, lens, hp, w1, ia, ld, c1, s2]
          exact ⟨m.length, by omega, v', m, rfl, ht, by omega, G3⟩
        · rw [if_neg h0] at ht
          simp [-Int.natCast_add, h1, h2, B.at 0 rfl, lens, hp, w1, ia, ld, h0]
          rw [ht] at G
          exact ⟨s', G⟩
  · rintro e X ⟨h1, h2, s', G⟩
    have B : Box X H.next H.next _ := G.o.2.1
    have sl' := (show Rd _ encI 1 X s' (rtrim l) from G.p.1).sl.len
    have sc' := (show Rd _ encI 1 X s' (rtrim l) from G.p.1).sl.form.1
    obtain ⟨X1, s1, G1⟩ := G.st1 1 rfl 1 (.bool (b && decide (0 < (rtrim l).length))) rfl (by simp)
    have B1 : Box X1 H.next H.next [s', .bool (b && decide (0 < (rtrim l).length))] := G1.o.2.1
    obtain ⟨X2, s2, G2⟩ := G1.stA 0 rfl 2 [s', .bool (b && decide (0 < (rtrim l).length))] rfl rfl (by simp [sc'])
    have B2 : Box X2 (H.next + 1) (H.next + 1) _ := G2.o.1
    have e2 := G2.end
    obtain ⟨c, hc⟩ : ∃ c, (b && decide (0 < (rtrim l).length)) = c := ⟨_, rfl⟩
    rw [hc] at s1 s2 B1 B2 ⊢
    cases b with
    | false =>
      simp at hc
      subst hc
      simp [h1, h2, B.at 1 rfl, s1, B1.all 2 rfl, s2, ares_cellA (hb := B2)]
      exact ⟨e2.1, e2.2.1⟩
    | true =>
      simp only [Bool.true_and] at hc
      simp [h1, h2, B.at 1 rfl, B.at 0 rfl, sl', hc, s1, B1.all 2 rfl, s2, ares_cellA (hb := B2)]
      exact ⟨e2.1, e2.2.1⟩
theorem c496 (Dt : D496 T) {H : AHeap} {n : Int} : Calls T 496 [.int .i64 n] H fun r H' => H' = H ∧ r = .int .i64 (cmpZ n 0) := by
  refine Calls.fn Dt.pr Dt.fn ?_
  simp [ir496]
  refine WB.bool ?_ ?_
  · intro h; simp at h; simp [cmpZ, h]
  · intro h
    simp at h
    simp
    refine WB.bool ?_ ?_
    · intro h2; simp at h2; simp [cmpZ, h2]; omega
    · intro h2; simp at h2; simp [cmpZ]; omega
theorem div_pow_step (m i : Nat) : m / 10 ^ i = 10 * (m / 10 ^ (i + 1)) + m / 10 ^ i % 10 := by
  rw [Nat.pow_succ, ← Nat.div_div_eq_div_mul]
  omega
theorem cmpZ_nat {m n : Nat} : cmpZ (m : Int) n = if m < n then -1 else if n < m then 1 else 0 := by
  unfold cmpZ
  by_cases h1 : m < n
  · rw [if_pos h1, if_pos (by omega)]
  · rw [if_neg h1, if_neg (by omega)]
    by_cases h2 : n < m
    · rw [if_pos h2, if_pos (by omega)]
    · rw [if_neg h2, if_neg (by omega)]
theorem c475 (Dt : D475 T) {D : Nat → Prop} {H : AHeap} (hw : WF H) (hd : ∀ g, D g → g < H.next) {u v : AV} {x y : Int} (hu : NV D H u x) (hv : NV D H v y) (hx : (rdig x.natAbs).length < 2 ^ 40) (hy : (rdig y.natAbs).length < 2 ^ 40) :
    Calls T 475 [u, v] H fun r H' => Fr H H' ∧ r = .int .i64 (cmpZ (x.natAbs : Int) y.natAbs) := by
  obtain ⟨s, rfl, sc, hs⟩ := hu.box
  obtain ⟨t, rfl, tc, ht⟩ := hv.box
  refine Calls.fn Dt.pr Dt.fn ?_
  have F := ((Fx.start hw hd (ps := [.rd encI 1 s (rdig x.natAbs), .rd encI 1 t (rdig y.natAbs)]) ⟨hs, ht, trivial⟩).bx H.next [s, .bool (bel x)]).bx (H.next + 1) [t, .bool (bel y)]
  simp [ir475, new_next, sc, tc]
  obtain ⟨X, hX⟩ : ∃ X, (H.new [s, .bool (bel x)]).new [t, .bool (bel y)] = X := ⟨_, rfl⟩
  rw [hX] at F ⊢
  have B2 : Box X H.next H.next _ := F.o.2.1
  have B3 : Box X (H.next + 1) (H.next + 1) _ := F.o.1
  have ls : psem .len [s] = some (.int .i64 (rdig x.natAbs).length) := hs.sl.len
  have lt : psem .len [t] = some (.int .i64 (rdig y.natAbs).length) := ht.sl.len
  obtain ⟨m, hm⟩ : ∃ m, x.natAbs = m := ⟨_, rfl⟩
  obtain ⟨n, hn⟩ : ∃ n, y.natAbs = n := ⟨_, rfl⟩
  rw [hm] at ls hx
  rw [hn] at lt hy
  have hsX := (show Rd _ encI 1 X s (rdig x.natAbs) from F.p.1)
  have htX := (show Rd _ encI 1 X t (rdig y.natAbs) from F.p.2.1)
  rw [hm] at hsX
  rw [hn] at htX
  rw [hm, hn]
  have lenlt : ∀ {a b : Nat}, (rdig a).length < (rdig b).length → a < b := by
    intro a b h
    rw [rdig_len, rdig_len] at h
    apply Classical.byContradiction
    intro hn
    have := dig_len_mono (show b ≤ a by omega)
    omega
  simp [B2.at 0 rfl, B3.at 0 rfl, ls, lt]
  refine WB.bool ?_ ?_
  · intro hne
    simp at hne
    simp [B2.at 0 rfl, B3.at 0 rfl, ls, lt]
    rw [wrap_small (by omega) (by omega)]
    refine WC.of (c496 Dt.d496) ?_
    rintro r X1 ⟨rfl, rfl⟩
    simp
    refine ⟨F.fr, ?_⟩
    rw [cmpZ_nat]
    unfold cmpZ
    rcases Nat.lt_or_gt_of_ne (show (rdig m).length ≠ (rdig n).length by omega) with h | h
    · rw [if_pos (by omega), if_pos (lenlt h)]
    · have := lenlt h
      rw [if_neg (by omega), if_pos (by omega), if_neg (by omega), if_pos (by omega)]
  · intro heq
    simp at heq
    obtain ⟨L, hL⟩ : ∃ L, (rdig m).length = L := ⟨_, rfl⟩
    rw [hL] at heq ls hx
    have heq : L = (rdig n).length := by omega
    rw [← heq] at lt
    have w0 : IntKind.i64.wrap ((L : Int) - 1) = (L : Int) - 1 := wrap_small (by omega) (by omega)
    have mlt : m / 10 ^ L = 0 := Nat.div_eq_of_lt (by rw [← hL, rdig_len]; exact dig_lt m)
    have nlt : n / 10 ^ L = 0 := Nat.div_eq_of_lt (by rw [heq, rdig_len]; exact dig_lt n)
    simp [B2.at 0 rfl, ls, w0]
    refine W_loop (fun (i : Nat) e Y => Y = X ∧ e 2 = .ptr (some (H.next, 0)) ∧ e 3 = .ptr (some (H.next + 1, 0)) ∧ i ≤ L ∧ e 5 = .int .i64 ((i : Int) - 1) ∧ m / 10 ^ i = n / 10 ^ i) id L ?_ ?_
    · exact ⟨rfl, rfl, rfl, Nat.le_refl _, rfl, by rw [mlt, nlt]⟩
    · rintro i e Y ⟨rfl, h2, h3, hi, h5, he⟩
      simp [h5]
      refine WB.bool ?_ ?_
      · intro hge
        simp at hge
        obtain ⟨j, rfl⟩ : ∃ j, i = j + 1 := ⟨i - 1, by omega⟩
        have hj : ((j + 1 : Nat) : Int) - 1 = (j : Int) := by omega
        rw [hj] at h5
        have d1 : nth (rdig m) (j : Int) = _ := nth_rdig m j
        have d2 : nth (rdig n) (j : Int) = _ := nth_rdig n j
        obtain ⟨a, ha⟩ : ∃ a, m / 10 ^ j % 10 = a := ⟨_, rfl⟩
        obtain ⟨b, hb⟩ : ∃ b, n / 10 ^ j % 10 = b := ⟨_, rfl⟩
        rw [ha] at d1
        rw [hb] at d2
        have ia1 : psem (.ia 1) [s, .int .i64 (j : Int)] = some (elt s 1 (j : Int)) := hsX.sl.ia (by omega) (by rw [hL]; omega)
        have ia2 : psem (.ia 1) [t, .int .i64 (j : Int)] = some (elt t 1 (j : Int)) := htX.sl.ia (by omega) (by omega)
        have ld1 : rsem (.ld 1 false) [elt s 1 (j : Int)] Y = some (.int .i64 (a : Int)) := by rw [hsX.sl.ld (by omega) (by rw [hL]; omega), d1]
        have ld2 : rsem (.ld 1 false) [elt t 1 (j : Int)] Y = some (.int .i64 (b : Int)) := by rw [htX.sl.ld (by omega) (by omega), d2]
        have e1 := div_pow_step m j
        have e2 := div_pow_step n j
        rw [ha] at e1
        rw [hb] at e2
        simp [h2, h3, h5, B2.at 0 rfl, B3.at 0 rfl, ia1, ia2, ld1, ld2]
        refine WB.bool ?_ ?_
        · intro hab
          simp at hab
          simp [h2, h3, h5, B2.at 0 rfl, B3.at 0 rfl, ia1, ia2, ld1, ld2]
          rw [wrap_small (by omega) (by omega)]
          refine WC.of (c496 Dt.d496) ?_
          rintro r X1 ⟨rfl, rfl⟩
          simp
          refine ⟨F.fr, ?_⟩
          rw [cmpZ_nat]
          unfold cmpZ
          have lt_of : ∀ {p q : Nat}, p / 10 ^ j < q / 10 ^ j → p < q := by
            intro p q h
            apply Classical.byContradiction
            intro hn
            have := Nat.div_le_div_right (c := 10 ^ j) (show q ≤ p by omega)
            omega
          rcases Nat.lt_or_gt_of_ne (show a ≠ b by omega) with h | h
          · rw [if_pos (by omega), if_pos (lt_of (by omega))]
          · have := lt_of (p := n) (q := m) (by omega)
            rw [if_neg (by omega), if_pos (by omega), if_neg (by omega), if_pos (by omega)]
        · intro hab
          simp at hab
          simp [h2, h3, h5]
          rw [wrap_small (by omega) (by omega)]
          exact ⟨j, by omega, by omega, rfl, by omega⟩
      · intro hlt
        simp at hlt
        have : i = 0 := by omega
        subst this
        rw [Nat.pow_zero, Nat.div_one, Nat.div_one] at he
        simp
        refine ⟨F.fr, ?_⟩
        subst he
        rw [cmpZ_nat, if_neg (by omega), if_neg (by omega)]
theorem c489 (Dt : D489 T) {D : Nat → Prop} {H : AHeap} (hw : WF H) (hd : ∀ g, D g → g < H.next) {u : AV} {x : Int} {i : Nat} (hu : NV D H u x) (hx : (rdig x.natAbs).length < 2 ^ 40) (hi : i < 2 ^ 40) :
    Calls T 489 [u, .int .i64 (i : Int)] H fun r H' => Fr H H' ∧ r = .int .i64 ((x.natAbs / 10 ^ i % 10 : Nat) : Int) := by
  obtain ⟨s, rfl, sc, hs⟩ := hu.box
  refine Calls.fn Dt.pr Dt.fn ?_
  have F := (Fx.start hw hd (ps := [.rd encI 1 s (rdig x.natAbs)]) ⟨hs, trivial⟩).bx H.next [s, .bool (bel x)]
  have B2 : Box _ H.next H.next _ := F.o.1
  have ls : psem .len [s] = some (.int .i64 (rdig x.natAbs).length) := hs.sl.len
  have hsX : Rd _ encI 1 _ s (rdig x.natAbs) := F.p.1
  have hn := nth_rdig x.natAbs i
  have hb := dig_beyond (n := x.natAbs) (i := i)
  obtain ⟨d, hd'⟩ : ∃ d, x.natAbs / 10 ^ i % 10 = d := ⟨_, rfl⟩
  rw [hd'] at hn hb ⊢
  simp [ir489, new_next, sc, B2.at 0 rfl, ls]
  refine WB.bool ?_ ?_
  · intro hlt
    simp at hlt
    simp (disch := omega) [B2.at 0 rfl, hsX.sl.ia, hsX.sl.ld, hn]
    exact F.fr
  · intro hge
    simp at hge
    have := hb (by rw [← rdig_len]; exact hge)
    subst this
    simp
    exact F.fr
theorem c485 (Dt : D485 T) {D : Nat → Prop} {H : AHeap} (hw : WF H) (hd : ∀ g, D g → g < H.next) {u : AV} {x : Int} (hu : NV D H u x) :
    Calls T 485 [u] H fun r H' => Fr H H' ∧ NV D H' r (-x) := by
  obtain ⟨s, rfl, sc, hs⟩ := hu.box
  refine Calls.fn Dt.pr Dt.fn ?_
  have F := ((Fx.start hw hd (ps := [.rd encI 1 s (rdig x.natAbs)]) ⟨hs, trivial⟩).bx H.next [s, .bool (bel x)]).bx (H.next + 1) [.slc none 0 0 none, .bool false]
  have B1 : Box _ H.next H.next _ := F.o.2.1
  have ls : psem .len [s] = some (.int .i64 (rdig x.natAbs).length) := hs.sl.len
  obtain ⟨X, s2, F2⟩ := F.stA 0 rfl 2 [s, .bool (bel (-x))] rfl rfl (by simp [sc])
  have B : Box X (H.next + 1) (H.next + 1) _ := F2.o.1
  have scs := hs.sl.form.2
  have fin : Fr H X ∧ NV D X (.agg [s, .bool (bel (-x))]) (-x) := ⟨F2.end.1, s, rfl, by rw [Int.natAbs_neg]; exact F2.end.2.1⟩
  by_cases h0 : x < 0
  · have e1 : bel x = true := by simp [bel, h0]
    have e2 : bel (-x) = false := by simp [bel]; omega
    rw [e1] at B1 s2
    rw [e1]
    rw [e2] at s2 B fin
    simp [ir485, new_next, sc, B1.at 0 rfl, B1.at 1 rfl, psem_bld', fill, splice, scs, s2, ares_cellA (hb := B)]
    exact fin
  · have e1 : bel x = false := by simp [bel]; omega
    have e2 : bel (-x) = decide (0 < (rdig x.natAbs).length) := by
      unfold bel
      rw [Bool.eq_iff_iff]
      simp only [decide_eq_true_eq]
      rw [rdig_pos_len]
      omega
    rw [e1] at B1 s2
    rw [e1]
    rw [e2] at s2 B fin
    simp [ir485, new_next, sc, B1.at 0 rfl, B1.at 1 rfl, ls, psem_bld', fill, splice, scs, s2, ares_cellA (hb := B)]
    exact fin
theorem c449 (Dt : D449 T) {D : Nat → Prop} {H : AHeap} (hw : WF H) (hd : ∀ g, D g → g < H.next) {u : AV} {x : Int} (hu : NV D H u x) :
    Calls T 449 [u] H fun r H' => Fr H H' ∧ NV D H' r (x.natAbs : Int) := by
  obtain ⟨s, rfl, sc, hs⟩ := hu.box
  refine Calls.fn Dt.pr Dt.fn ?_
  have F := ((Fx.start hw hd (ps := [.rd encI 1 s (rdig x.natAbs)]) ⟨hs, trivial⟩).bx H.next [s, .bool (bel x)]).bx (H.next + 1) [.slc none 0 0 none, .bool false]
  have B1 : Box _ H.next H.next _ := F.o.2.1
  obtain ⟨X, s2, F2⟩ := F.stA 0 rfl 2 [s, .bool false] rfl rfl (by simp [sc])
  have B : Box X (H.next + 1) (H.next + 1) _ := F2.o.1
  simp [ir449, new_next, sc, B1.at 0 rfl, psem_bld', fill, splice, hs.sl.form.2, s2, ares_cellA (hb := B)]
  refine ⟨F2.end.1, s, ?_, by rw [Int.natAbs_natCast]; exact F2.end.2.1⟩
  have : bel (x.natAbs : Int) = false := by simp [bel]
  rw [this]
end Go.Am

/- Contracts of the reference's numbers: reading and writing. -/
set_option linter.unusedVariables false
set_option linter.unusedSimpArgs false
namespace Go.Am
variable {T : Tab}
theorem dl_fd : ∀ (n : Nat) (d : List UInt8), d.length = n → d.all digB = true → dl d = fd d.length (valS d) ∧ valS d < 10 ^ d.length := by
  intro n
  induction n with
  | zero => intro d hl h; have := List.eq_nil_of_length_eq_zero hl; subst this; simp [dl, fd, valS]
  | succ n ih =>
    intro d hl h
    rcases List.eq_nil_or_concat d with rfl | ⟨d, c, rfl⟩
    · simp at hl
    · rw [List.concat_eq_append] at *
      simp only [List.all_append, List.all_cons, List.all_nil, Bool.and_true, Bool.and_eq_true] at h
      obtain ⟨i1, i2⟩ := ih d (by simpa using hl) h.1
      have hc := h.2
      simp only [digB, Bool.and_eq_true, decide_eq_true_eq] at hc
      rw [valS_snoc]
      refine ⟨?_, ?_⟩
      · rw [List.length_append, List.length_singleton, fd_succ, show (10 * valS d + (c.toNat - 48)) / 10 = valS d by omega, show (10 * valS d + (c.toNat - 48)) % 10 = c.toNat - 48 by omega, ← i1]
        simp [dl]
      · rw [List.length_append, List.length_singleton, Nat.pow_succ]; omega
theorem rtrim_dl {d : List UInt8} (h : d.all digB = true) : rtrim (dl d).reverse = rdig (valS d) := by
  obtain ⟨h1, h2⟩ := dl_fd d.length d rfl h
  rw [h1]
  exact rtrim_rfd h2
/-- A right text, in parts. -/
theorem readS_parts {s : List UInt8} {z : Int} (h : readS s = some z) : ∃ (d : List UInt8) (neg : Bool), s = (if neg then [45] else []) ++ d ∧ d.all digB = true ∧ d.length ≤ 400 ∧ z = sgn neg (valS d) ∧ (neg = true → valS d ≠ 0) := by
  unfold readS at h
  have hs : s = (if (cutP s [45]).2 then [45] else []) ++ (cutP s [45]).1 := by
    unfold cutP
    split
    · rename_i h
      simp only [List.length_singleton] at h ⊢
      conv => lhs; rw [← List.take_append_drop 1 s, h]
      rfl
    · rfl
  obtain ⟨d, hd⟩ : ∃ d, (cutP s [45]).1 = d := ⟨_, rfl⟩
  obtain ⟨neg, hneg⟩ : ∃ neg, (cutP s [45]).2 = neg := ⟨_, rfl⟩
  rw [hd, hneg] at h hs
  refine ⟨d, neg, hs, ?_⟩
  unfold readD at h
  split at h
  · rename_i h0
    obtain ⟨rfl, rfl⟩ := h0
    simp at h
    subst h
    exact ⟨by decide, by decide, rfl, by simp⟩
  · split at h
    · cases h
    · rename_i hn
      simp only [not_or, Bool.not_eq_false] at hn
      obtain ⟨b1, b2, b3, b4⟩ := hn
      simp at h
      exact ⟨b4, by omega, h.symm, fun _ => (dig_dl b1 b2 b4).1⟩
theorem c448 (Dt : D448 T) {D : Nat → Prop} {H : AHeap} (hw : WF H) (hd : ∀ g, D g → g < H.next) {s : List UInt8} (hr : (readS s).isSome = true) :
    Calls T 448 [.str s] H fun r H' => Fr H H' ∧ NV D H' r (rdS s) := by
  obtain ⟨z, hz⟩ := Option.isSome_iff_exists.1 hr
  have ez : rdS s = z := by unfold rdS; rw [hz]; rfl
  rw [ez]
  obtain ⟨d, neg, rfl, hall, hlen, rfl, hneg⟩ := readS_parts hz
  obtain ⟨off, hoff⟩ : ∃ off, (if neg then 1 else 0) = off := ⟨_, rfl⟩
  have lsg : (if neg then [(45 : UInt8)] else []).length = off := by rw [← hoff]; cases neg <;> rfl
  obtain ⟨S, hS⟩ : ∃ S, (if neg then [(45 : UInt8)] else []) ++ d = S := ⟨_, rfl⟩
  have lS : S.length = off + d.length := by rw [← hS, List.length_append, lsg]
  have off1 : off ≤ 1 := by rw [← hoff]; split <;> omega
  rw [hS]
  refine Calls.fn Dt.pr Dt.fn ?_
  have F := (((Fx.start hw hd (ps := []) trivial).bx H.next [.slc none 0 0 none, .bool false]).bx (H.next + 1) [.slc none 0 0 none, .bool false]).nil encI 1 0
  have w0 : IntKind.i64.wrap ((S.length : Int) - 1) = (S.length : Int) - 1 := wrap_small (by omega) (by omega)
  simp [-Wk_seq, ir448, new_next, w0]
  rw [Wk_seq]
  simp [-Wk_seq, w0]
  refine W_cut (fun e X => e 2 = .ptr (some (H.next, 0)) ∧ e 3 = .ptr (some (H.next + 1, 0)) ∧ ∃ v f, Fx H D [.own encI 1 v (dl d).reverse f, .box (H.next + 1) [v, .bool neg], .box H.next [.slc none 0 0 none, .bool false]] [] X) ?_ ?_
  · simp [w0]
    refine W_loop (fun (i : Nat) e X => e 0 = .str S ∧ e 2 = .ptr (some (H.next, 0)) ∧ e 3 = .ptr (some (H.next + 1, 0)) ∧ i ≤ S.length ∧ e 4 = .int .i64 ((i : Int) - 1) ∧ ∃ v f, Fx H D [.own encI 1 v (dl (d.drop (i - off))).reverse f, .box (H.next + 1) [v, .bool (neg && decide (i = 0))], .box H.next [.slc none 0 0 none, .bool false]] [] X) id S.length ?_ ?_
    · refine ⟨rfl, rfl, rfl, Nat.le_refl _, by simp, .slc none 0 0 none, none, ?_⟩
      have e1 : d.drop (S.length - off) = [] := by rw [List.drop_eq_nil_iff]; omega
      have e2 : (neg && decide (S.length = 0)) = false := by
        cases neg with
        | false => rfl
        | true => simp at hoff; simp; intro h; rw [h] at lS; simp at lS; omega
      rw [e1, e2]
      exact F
    · rintro i e X ⟨h0, h2, h3, hi, h4, v, f, G⟩
      simp [h4]
      refine WB.bool ?_ ?_
      · intro hge
        simp at hge
        obtain ⟨j, rfl⟩ : ∃ j, i = j + 1 := ⟨i - 1, by omega⟩
        have hj : ((j + 1 : Nat) : Int) - 1 = (j : Int) := by omega
        rw [hj] at h4
        have hjl : (j : Int) < (S.length : Int) := by omega
        have wj : IntKind.i64.wrap ((j : Int) - 1) = (j : Int) - 1 := wrap_small (by omega) (by omega)
        have B3 : Box X (H.next + 1) (H.next + 1) _ := G.o.2.1
        have jf : (neg && decide (j + 1 = 0)) = false := by simp
        rw [jf] at B3 G
        by_cases hjo : j < off
        · have hneg1 : neg = true := by
            cases neg with
            | true => rfl
            | false => simp at hoff; omega
          subst hneg1
          have hj0 : j = 0 := by omega
          subst hj0
          have hn : nth S ((0 : Nat) : Int) = 45 := by rw [← hS]; rfl
          obtain ⟨X1, s1, G1⟩ := G.st1 1 rfl 1 (.bool true) rfl (by simp)
          have hn' : nth S 0 = 45 := hn
          have hjl' : (0 : Int) < (S.length : Int) := by omega
          have h4' : e 4 = .int .i64 0 := by rw [h4]; rfl
          have wj' : IntKind.i64.wrap (-1) = -1 := wrap_small (by omega) (by omega)
          simp [h0, h2, h3, h4', hn', hjl', s1, wj']
          have e1 : d.drop (0 + 1 - off) = d := by rw [show 0 + 1 - off = 0 by omega]; rfl
          rw [e1] at G1
          exact ⟨by omega, v, f, G1⟩
        · obtain ⟨k, hk⟩ : ∃ k, j = off + k := ⟨j - off, by omega⟩
          have hkd : k < d.length := by omega
          have hn : nth S (j : Int) = nth d (k : Int) := by
            rw [← hS, hk]
            unfold nth
            simp only [List.getD_eq_getElem?_getD, Int.toNat_natCast]
            rw [List.getElem?_append_right (by omega), lsg]
            congr 2; omega
          obtain ⟨c, hc⟩ : ∃ c, nth d (k : Int) = c := ⟨_, rfl⟩
          have hmem : c ∈ d := by rw [← hc]; simp [nth, hkd]
          have hdg := List.all_eq_true.1 hall c hmem
          simp only [digB, Bool.and_eq_true, decide_eq_true_eq] at hdg
          have hc45 : ¬ ((c.toNat : Int) = 45) := by omega
          have w1 : IntKind.u8.wrap ((c.toNat : Int) - 48) = ((c.toNat - 48 : Nat) : Int) := by
            simp [IntKind.wrap, IntKind.bits, IntKind.signed]; omega
          have w2 : IntKind.i64.wrap ((c.toNat - 48 : Nat) : Int) = ((c.toNat - 48 : Nat) : Int) := wrap_small (by omega) (by omega)
          obtain ⟨b, hb⟩ : ∃ b, c.toNat - 48 = b := ⟨_, rfl⟩
          rw [hb] at w1 w2
          have ed : d.drop (j - off) = c :: d.drop (j + 1 - off) := by
            rw [show j - off = k by omega, show j + 1 - off = k + 1 by omega, List.drop_eq_getElem_cons hkd]
            congr 1
            rw [← hc]; simp [nth, hkd]
          have el : (dl (d.drop (j - off))).reverse = (dl (d.drop (j + 1 - off))).reverse ++ [(b : Int)] := by
            rw [ed, ← hb]; simp [dl]
          have lw : (dl (d.drop (j + 1 - off))).reverse.length ≤ 400 := by simp [dl]; omega
          obtain ⟨v', X1, f', p1, pc, G1⟩ := G.push 0 rfl 8 ((b : Nat) : Int) (by omega) (by omega)
          obtain ⟨X2, s2, G2⟩ := G1.st1 1 rfl 0 v' pc (by simp)
          have B3' : Box (X.new [.int .i64 (b : Int)]) (H.next + 1) (H.next + 1) _ := B3.keeps G.wf (G.wf.keeps_new (D := fun _ => False)) (fun h => h)
          simp (disch := omega) [h0, h2, h3, h4, hjl, hn, hc, hc45]
          refine W_floats ?_
          simp only [WT_cons, WT_nil]
          simp [h0, h3, h4, hjl, hn, hc, w1, w2, B3.at 0 rfl, wsem0_bsl1 (v := .int .i64 (b : Int)) rfl, p1, s2]
          simp [floatOk, wanted, AV.same_refl, h0, h2, h3, h4, wj, B3.at 0 rfl, B3'.at 0 rfl]
          refine ⟨j, by omega, by omega, rfl, v', f', ?_⟩
          rw [el]
          have jf2 : (neg && decide (j = 0)) = false := by
            cases neg with
            | false => rfl
            | true => simp at hoff; simp; omega
          rw [jf2]
          exact G2
      · intro hlt
        simp at hlt
        have : i = 0 := by omega
        subst this
        simp
        refine ⟨h2, h3, v, f, ?_⟩
        have e1 : d.drop (0 - off) = d := by rw [show 0 - off = 0 by omega]; rfl
        rw [e1] at G
        simpa using G
  · rintro e X ⟨h2, h3, v, f, G⟩
    have B3 : Box X (H.next + 1) (H.next + 1) _ := G.o.2.1
    have hlr : (dl d).reverse.length < 2 ^ 40 := by simp [dl]; omega
    have G1 := G.read
    have hv : Rd _ encI 1 X v (dl d).reverse := G1.p.1
    simp [h2, h3, B3.all 2 rfl]
    refine WC.of (c453 Dt.d453 G1.wf G1.dn hv hlr) ?_
    rintro r Y ⟨fr, s', rfl, hs'⟩
    rw [rtrim_dl hall] at hs' ⊢
    have G2 := G1.callR fr (qs := [.rd encI 1 s' _]) ⟨hs', trivial⟩
    have eb : (neg && decide (0 < (rdig (valS d)).length)) = bel (sgn neg (valS d)) := by
      unfold bel sgn
      rw [Bool.eq_iff_iff]
      simp only [Bool.and_eq_true, decide_eq_true_eq]
      rw [rdig_pos_len]
      cases neg with
      | false => simp
      | true => have := hneg rfl; simp; omega
    rw [eb]
    obtain ⟨Z, s2, G3⟩ := G2.stA 1 rfl 2 [s', .bool (bel (sgn neg (valS d)))] rfl rfl (by simp [hs'.sl.form.1])
    have B : Box Z H.next H.next _ := G3.o.2.1
    simp [h2, s2, ares_cellA (hb := B)]
    exact ⟨G3.end.1, s', rfl, by rw [sgn_abs]; exact G3.end.2.1⟩
end Go.Am

/- Contracts of the reference's numbers: of, write, Valid, checked, told. -/
set_option linter.unusedVariables false
set_option linter.unusedSimpArgs false
namespace Go.Am
variable {T : Tab}
theorem Sl.b2sF {H : AHeap} {v : AV} {l : List UInt8} (h : Sl encU 1 H v l) : rsem .b2s [v] H = some (.str l) := by
  obtain ⟨hx1, hx2⟩ := h.cells
  obtain ⟨_, p, sv, cap, rfl, _⟩ := h
  have hb : ∀ l : List UInt8, bytesOf (l.map encU) = some l := by
    intro l
    induction l with
    | nil => rfl
    | cons c l ih =>
      simp only [List.map_cons, bytesOf, ih]
      simp
  rw [Cell.flat] at hx2
  simp only [rsem, hx2, hb]
/-- Bytes that may grow, in a buffer of a known type. -/
abbrev Ob.buf (ta : Nat) (v : AV) (l : List UInt8) (f : Option Nat) : Ob :=
  ⟨f.toList, fun H => Own encU 1 H v l f ∧ BufT ta H v, fun _ hw h g hg => by simp at hg; subst hg; exact h.1.2.lt hw, fun _ _ _ hw h k hd => ⟨h.1.keeps hw k fun g hg => hd g (by simp [hg]), h.2.keeps hw k h.1.1⟩⟩
section
variable {H0 H H' : AHeap} {D : Nat → Prop} {os : List Ob} {ps : List Pb}
theorem Fx.nilB (F : Fx H0 D os ps H) (ta z : Nat) : Fx H0 D (.buf ta (.slc none z 0 none) [] none :: os) ps H :=
  F.mkO F.wf .refl _ (by simp) (by simp) ⟨Own.nil (by simp), trivial⟩
theorem Fx.pushB (F : Fx H0 D os ps H) (i : Nat) {ta : Nat} {v : AV} {l : List UInt8} {f : Option Nat} (hi : os[i]? = some (.buf ta v l f)) (c : UInt8) (hl : l.length + 1 ≤ 2 ^ 45) :
    ∃ v' H' f', wsem0 (.appT ta 1 1) [v, .slc (some (H.next, 0)) 1 1 (some 1)] (H.new [.int .u8 c.toNat]) = some (v', H') ∧ v'.cell = true ∧ Fx H0 D (os.set i (.buf ta v' (l ++ [c]) f')) ps H' := by
  obtain ⟨ho, hb⟩ : Own encU 1 H v l f ∧ BufT ta H v := obsAll_mem F.o _ (List.mem_of_getElem? hi)
  have fc := F.wf.fr_new (cs := [AV.int .u8 c.toNat])
  have o1 : Sl encU 1 (H.new [AV.int .u8 c.toNat]) (.slc (some (H.next, 0)) 1 1 (some 1)) [c] :=
    (F.wf.own_new (enc := encU) (l := [c]) (cs := [AV.int .u8 c.toNat]) (cap := some 1) (sz := 1) (Cell.len _) (by simp) (by simp) (by simp)).1
  obtain ⟨v', Y, f', q1, q2, q3, q4, q5, q6⟩ := app_t fc.wf (ho.fr F.wf fc) (hb.keeps F.wf fc.keeps ho.1) o1 (by simp; omega)
  have nx : (H.new [AV.int .u8 c.toNat]).next = H.next + 1 := rfl
  refine ⟨v', Y, f', q1, q3.1.form.1, F.upd i hi (.buf ta v' (l ++ [c]) f') q2 ?_ (fun g hg => ?_) (by cases f' <;> simp) ⟨q3, q4⟩⟩
  · exact (fc.keeps.mono fun g hg => .inr hg).trans (q5.mono fun g hg => .inl (by simp [hg]))
  · have hg : f' = some g := by simpa using hg
    rcases q6 g hg with h | h
    · exact .inl (by simp [h])
    · exact .inr (by omega)
end
theorem c454 (Dt : D454 T) {D : Nat → Prop} {H : AHeap} (hw : WF H) (hd : ∀ g, D g → g < H.next) {n : Int} (hn : n.natAbs < 2 ^ 63) :
    Calls T 454 [.int .i64 n] H fun r H' => Fr H H' ∧ NV D H' r n := by
  refine Calls.fn Dt.pr Dt.fn ?_
  obtain ⟨b, hb⟩ : ∃ b, bel n = b := ⟨_, rfl⟩
  have hb' : decide (n < 0) = b := hb
  have F := (Fx.start hw hd (ps := []) trivial).bx H.next [.slc none 0 0 none, .bool false]
  have F1 := F.bx (H.next + 1) [.slc none 0 0 none, .bool false]
  obtain ⟨X, s1, F2⟩ := F1.stA 0 rfl 2 [.slc none 0 0 none, .bool b] rfl rfl (by simp)
  have F3 := F2.nil encI 1 0
  simp [-Wk_seq, ir454]
  rw [Wk_seq]
  simp [-Wk_seq, new_next, psem_bld', fill, splice, hb', s1]
  rw [Wk_seq]
  simp [-Wk_seq]
  rw [Wk_seq]
  refine W_cut (fun e Y => Y = X ∧ e 2 = .ptr (some (H.next, 0)) ∧ e 3 = .ptr (some (H.next + 1, 0)) ∧ e 4 = .int .u64 n.natAbs) ?_ ?_
  · by_cases h0 : n < 0
    · have w1 : IntKind.u64.wrap n = 2 ^ 64 + n := by simp [IntKind.wrap, IntKind.bits, IntKind.signed]; omega
      have w2 : IntKind.u64.wrap (-(2 ^ 64 + n)) = n.natAbs := by simp [IntKind.wrap, IntKind.bits, IntKind.signed]; omega
      have w2' : IntKind.u64.wrap (-(18446744073709551616 + n)) = n.natAbs := by rw [← w2]; rfl
      have w1' : IntKind.u64.wrap n = 18446744073709551616 + n := by rw [w1]; rfl
      simp only [W_seq, W_region]
      simp [h0, w1']
      rw [← w2']
    · have w1 : IntKind.u64.wrap n = n.natAbs := by simp [IntKind.wrap, IntKind.bits, IntKind.signed]; omega
      simp [h0, w1]
  · rintro e Y ⟨rfl, h2, h3, h4⟩
    obtain ⟨m, hm⟩ : ∃ m, n.natAbs = m := ⟨_, rfl⟩
    rw [hm] at h4 hn
    have h19 : (rdig m).length ≤ 19 := rdig_len_le 19 m (by omega)
    refine W_cut (fun e X => e 2 = .ptr (some (H.next, 0)) ∧ e 3 = .ptr (some (H.next + 1, 0)) ∧ ∃ v f, Fx H D [.own encI 1 v (rdig m) f, .box (H.next + 1) [v, .bool b], .box H.next [.slc none 0 0 none, .bool false]] [] X) ?_ ?_
    · simp only [W_block]
      refine W_loop (fun (i : Nat) e X => e 2 = .ptr (some (H.next, 0)) ∧ e 3 = .ptr (some (H.next + 1, 0)) ∧ i ≤ m ∧ e 4 = .int .u64 i ∧ ∃ v l f, l ++ rdig i = rdig m ∧ Fx H D [.own encI 1 v l f, .box (H.next + 1) [v, .bool b], .box H.next [.slc none 0 0 none, .bool false]] [] X) id m ?_ ?_
      · exact ⟨h2, h3, Nat.le_refl _, h4, .slc none 0 0 none, [], none, rfl, F3⟩
      · rintro i e X ⟨h2, h3, hi, h4, v, l, f, hl, G⟩
        have B3 : Box X (H.next + 1) (H.next + 1) _ := G.o.2.1
        simp [h4]
        refine WB.bool ?_ ?_
        · intro hpos
          simp at hpos
          have r1 : (i : Int).tmod 10 = ((i % 10 : Nat) : Int) := rfl
          obtain ⟨d, hd'⟩ : ∃ d, i % 10 = d := ⟨_, rfl⟩
          rw [hd'] at r1
          obtain ⟨z, hz⟩ : ∃ z, i / 10 = z := ⟨_, rfl⟩
          have q4 : IntKind.u64.wrap ((i : Int) / 10) = (z : Int) := by
            rw [show (i : Int) / 10 = ((i / 10 : Nat) : Int) by omega, hz]; simp [IntKind.wrap, IntKind.bits, IntKind.signed]; omega
          have q5 : IntKind.u64.wrap ((i : Int).tdiv 10) = (z : Int) := by
            rw [show (i : Int).tdiv 10 = ((i / 10 : Nat) : Int) from rfl, hz]; simp [IntKind.wrap, IntKind.bits, IntKind.signed]; omega
          have w2 : IntKind.i64.wrap (d : Int) = (d : Int) := wrap_small (by omega) (by omega)
          have hll : l.length ≤ 19 := by
            have := congrArg List.length hl
            simp at this
            omega
          obtain ⟨v', X1, f', p1, pc, G1⟩ := G.push 0 rfl 8 ((d : Nat) : Int) (by omega) (by omega)
          obtain ⟨X2, s2, G2⟩ := G1.st1 1 rfl 0 v' pc (by simp)
          simp [h3, h4, B3.at 0 rfl, r1, w2, wsem0_bsl1 (v := .int .i64 (d : Int)) rfl, p1, s2, q4, q5]
          refine ⟨z, by omega, h2, by omega, rfl, v', l ++ [(d : Int)], ?_, f', G2⟩
          rw [← hl, rdig_pos (n := i) (by omega), hd', hz]
          simp
        · intro hz
          simp at hz
          have : i = 0 := by omega
          subst this
          rw [rdig_zero, List.append_nil] at hl
          subst hl
          simp
          exact ⟨h2, h3, v, f, G⟩
    · rintro e X ⟨h2, h3, v, f, G⟩
      have B3 : Box X (H.next + 1) (H.next + 1) _ := G.o.2.1
      have G1 := G.read
      have hv : Rd _ encI 1 X v (rdig m) := G1.p.1
      obtain ⟨Z, s2, G3⟩ := G1.stA 1 rfl 2 [v, .bool b] rfl rfl (by simp [hv.sl.form.1])
      have B : Box Z H.next H.next _ := G3.o.2.1
      simp [h2, h3, B3.all 2 rfl, s2, ares_cellA (hb := B)]
      exact ⟨G3.end.1, v, by rw [hb], by rw [hm]; exact G3.end.2.1⟩
theorem c455 (Dt : D455 T) {D : Nat → Prop} {H : AHeap} (hw : WF H) (hd : ∀ g, D g → g < H.next) {u : AV} {z : Int} (hu : NV D H u z) (hl : (rdig z.natAbs).length < 2 ^ 40) :
    Calls T 455 [u] H fun r H' => Fr H H' ∧ r = .str (showS z) := by
  obtain ⟨s, rfl, sc, hs⟩ := hu.box
  refine Calls.fn Dt.pr Dt.fn ?_
  have F := (Fx.start hw hd (ps := [.rd encI 1 s (rdig z.natAbs)]) ⟨hs, trivial⟩).bx H.next [s, .bool (bel z)]
  have B : Box _ H.next H.next _ := F.o.1
  have ls : psem .len [s] = some (.int .i64 (rdig z.natAbs).length) := hs.sl.len
  simp [ir455, sc, B.at 0 rfl, ls]
  by_cases h0 : z = 0
  · subst h0
    simp [rdig_zero, showS]
    exact F.fr
  · have hp := rdig_pos_len.2 (show z.natAbs ≠ 0 by omega)
    have hne' : ¬ rdig z.natAbs = [] := by intro e; rw [e] at hp; simp at hp
    have F1 := F.nilB 5 0
    simp [-Wk_seq, hne']
    rw [Wk_seq]
    simp [-Wk_seq]
    rw [Wk_seq]
    refine W_cut (fun e Y => e 1 = .ptr (some (H.next, 0)) ∧ ∃ f, Fx H D [.buf 5 (e 3) (if bel z then [45] else []) f, .box H.next [s, .bool (bel z)]] [.rd encI 1 s (rdig z.natAbs)] Y) ?_ ?_
    · simp [B.at 1 rfl]
      cases hz : bel z with
      | false =>
        rw [hz] at F1
        simp
        exact ⟨none, F1⟩
      | true =>
        rw [hz] at F1
        obtain ⟨v', X1, f', p1, pc, F2⟩ := F1.pushB 0 rfl 45 (by simp)
        have p1' : wsem0 (.appT 5 1 1) [.slc none 0 0 none, .slc (some ((H.new [s, .bool true]).next, 0)) 1 1 (some 1)] ((H.new [s, .bool true]).new [.int .u8 45]) = some (v', X1) := p1
        simp [wsem0_bsl1 (v := .int .u8 45) rfl, p1']
        exact ⟨f', F2⟩
    · rintro e Y ⟨h1, f, G⟩
      have BY : Box Y H.next H.next _ := G.o.2.1
      obtain ⟨L, hL⟩ : ∃ L, (rdig z.natAbs).length = L := ⟨_, rfl⟩
      rw [hL] at ls hl
      have w0 : IntKind.i64.wrap ((L : Int) - 1) = (L : Int) - 1 := wrap_small (by omega) (by omega)
      simp [h1, BY.at 0 rfl, ls, w0]
      refine W_loop (fun (i : Nat) e X => e 1 = .ptr (some (H.next, 0)) ∧ i ≤ L ∧ e 4 = .int .i64 ((i : Int) - 1) ∧ ∃ f, Fx H D [.buf 5 (e 3) ((if bel z then [45] else []) ++ (((rdig z.natAbs).drop i).reverse.map chS)) f, .box H.next [s, .bool (bel z)]] [.rd encI 1 s (rdig z.natAbs)] X) id L ?_ ?_
      · refine ⟨by simp [h1], Nat.le_refl _, by simp, f, ?_⟩
        rw [List.drop_of_length_le (by omega)]
        simpa using G
      · rintro i e X ⟨h1, hi, h4, f, G⟩
        simp [h4]
        refine WB.bool ?_ ?_
        · intro hge
          simp at hge
          obtain ⟨j, rfl⟩ : ∃ j, i = j + 1 := ⟨i - 1, by omega⟩
          have hj : ((j + 1 : Nat) : Int) - 1 = (j : Int) := by omega
          rw [hj] at h4
          have wj : IntKind.i64.wrap ((j : Int) - 1) = (j : Int) - 1 := wrap_small (by omega) (by omega)
          have hlt : j < (rdig z.natAbs).length := by omega
          have hsX : Rd _ encI 1 X s (rdig z.natAbs) := G.p.1
          have BX : Box X H.next H.next _ := G.o.2.1
          obtain ⟨d, hd'⟩ : ∃ d, nth (rdig z.natAbs) (j : Int) = d := ⟨_, rfl⟩
          have hmem : d ∈ rdig z.natAbs := by rw [← hd']; simp [nth, hlt]
          obtain ⟨d0, d9⟩ := rdig_mem _ d hmem
          have ec := chS_nat d0 d9
          have w1 : IntKind.i64.wrap (48 + d) = 48 + d := wrap_small (by omega) (by omega)
          have w2 : IntKind.u8.wrap (48 + d) = ((chS d).toNat : Int) := by
            rw [ec]; simp [IntKind.wrap, IntKind.bits, IntKind.signed]; omega
          have ia : psem (.ia 1) [s, .int .i64 (j : Int)] = some (elt s 1 (j : Int)) := hsX.sl.ia (by omega) (by omega)
          have ld : rsem (.ld 1 false) [elt s 1 (j : Int)] X = some (.int .i64 d) := by rw [hsX.sl.ld (by omega) (by omega), hd']
          obtain ⟨v', X1, f', p1, pc, G1⟩ := G.pushB 0 rfl (chS d) (by simp; split <;> simp <;> omega)
          simp [h1, h4, BX.at 0 rfl, ia, ld, w1, w2, wsem0_bsl1 (v := .int .u8 ((chS d).toNat : Int)) rfl, p1, wj]
          refine ⟨j, by omega, by omega, rfl, f', ?_⟩
          have ed : (rdig z.natAbs).drop j = d :: (rdig z.natAbs).drop (j + 1) := by
            rw [List.drop_eq_getElem_cons hlt]; congr 1; rw [← hd']; simp [nth, hlt]
          have ed2 : ((rdig z.natAbs).drop j).reverse.map chS = ((rdig z.natAbs).drop (j + 1)).reverse.map chS ++ [chS d] := by rw [ed]; simp
          have G1' : Fx H D [.buf 5 v' ((if bel z then [45] else []) ++ (((rdig z.natAbs).drop j).reverse.map chS)) f', .box H.next [s, .bool (bel z)]] [.rd encI 1 s (rdig z.natAbs)] X1 := by
            rw [ed2, ← List.append_assoc]; exact G1
          simpa using G1'
        · intro hlt
          simp at hlt
          have : i = 0 := by omega
          subst this
          have es : (if bel z then [45] else []) ++ ((rdig z.natAbs).drop 0).reverse.map chS = showS z := by unfold showS; rw [if_neg h0]; rfl
          rw [es] at G
          have hb := (show Own encU 1 X (e 3) (showS z) f ∧ BufT 5 X (e 3) from G.o.1).1.1.b2sF
          simp [hb]
          exact G.fr
end Go.Am

/- Contracts of the reference's numbers: Valid, checked, told. -/
set_option linter.unusedVariables false
set_option linter.unusedSimpArgs false
namespace Go.Am
variable {T : Tab}
theorem digB_of {c : UInt8} (h : ¬ ((c.toNat : Int) < 48)) (h2 : ¬ (57 < (c.toNat : Int))) : digB c = true := by
  simp only [digB, Bool.and_eq_true, decide_eq_true_eq]; omega
theorem digB_not {c : UInt8} (h : (c.toNat : Int) < 48 ∨ 57 < (c.toNat : Int)) : digB c = false := by
  rw [Bool.eq_false_iff]
  simp only [digB, ne_eq, Bool.and_eq_true, decide_eq_true_eq]; omega
theorem c421 (Dt : D421 T) {H : AHeap} {s : List UInt8} (hs : s.length < 2 ^ 40) : Calls T 421 [.str s] H fun r H' => H' = H ∧ r = .bool (readS s).isSome := by
  refine Calls.fn Dt.pr Dt.fn ?_
  by_cases h0 : s = [48]
  · subst h0
    have : (readS [48]).isSome = true := by decide
    rw [this]
    simp [ir421]
  · obtain ⟨d, hd⟩ : ∃ d, (cutP s [45]).1 = d := ⟨_, rfl⟩
    obtain ⟨neg, hneg⟩ : ∃ neg, (cutP s [45]).2 = neg := ⟨_, rfl⟩
    have hds : d.length ≤ s.length := by rw [← hd]; exact cutP_len _ _
    have hval : (readS s).isSome = (decide (0 < d.length) && decide (d.length ≤ 400) && d.all digB && decide (d.head? ≠ some 48)) := by
      unfold readS
      rw [hd, hneg]
      unfold readD
      have hn1 : ¬ (d = [48] ∧ neg = false) := by
        rintro ⟨rfl, rfl⟩
        unfold cutP at hd hneg
        split at hd
        · rename_i hc; rw [if_pos hc] at hneg; cases hneg
        · exact h0 hd
      rw [if_neg hn1]
      by_cases hb : d = [] ∨ d.head? = some 48 ∨ 400 < d.length ∨ d.all digB = false
      · rw [if_pos hb]
        rcases hb with rfl | hb | hb | hb
        · rfl
        · simp [hb]
        · simp; intro _ h; omega
        · rw [hb]; simp
      · rw [if_neg hb]
        simp only [not_or, Bool.not_eq_false] at hb
        obtain ⟨b1, b2, b3, b4⟩ := hb
        have : 0 < d.length := by cases d with | nil => exact absurd rfl b1 | cons => simp
        simp [b2, b4, this]
        omega
    rw [hval]
    simp [-Wk_seq, ir421]
    rw [Wk_seq]
    simp [-Wk_seq, h0]
    rw [Wk_seq]
    simp [-Wk_seq]
    rw [Wk_seq]
    refine W_cut (fun e H' => H' = H ∧ e 0 = .str d) ?_ ?_
    · cases s with
      | nil =>
        have : d = [] := List.eq_nil_of_length_eq_zero (by simpa using hds)
        subst this
        simp
      | cons c s =>
        have hn : nth (c :: s) 0 = c := rfl
        have hp : (0 : Int) < (s.length : Int) + 1 := by omega
        have hp1 : (1 : Int) ≤ (s.length : Int) + 1 := by omega
        by_cases hc : c = 45
        · subst hc
          have : d = s := by rw [← hd]; simp [cutP]
          subst this
          simp [hn, hp, hp1]
        · have hc' : ¬ ((c.toNat : Int) = 45) := by
            intro e; apply hc
            rw [← UInt8.toNat_inj]
            have : (45 : UInt8).toNat = 45 := rfl
            omega
          have : d = c :: s := by rw [← hd]; simp [cutP, hc]
          subst this
          simp [hn, hp, hc']
    · rintro e H' ⟨rfl, h0'⟩
      simp
      refine W_loop (fun (i : Nat) e X => X = H' ∧ e 0 = .str d ∧ ∃ j : Nat, i + j = d.length ∧ e 3 = .int .i64 j ∧ (d.take j).all digB = true) id d.length ?_ ?_
      · exact ⟨rfl, by simp [h0'], 0, by simp, by simp, by simp⟩
      · rintro i e X ⟨rfl, h0'', j, hj, h3, ha⟩
        simp [h0'', h3]
        refine WB.bool ?_ ?_
        · intro hlt
          simp at hlt
          obtain ⟨c, hc⟩ : ∃ c, nth d (j : Int) = c := ⟨_, rfl⟩
          have hmem : c ∈ d := by rw [← hc]; simp [nth, hlt]
          by_cases h48 : (c.toNat : Int) < 48
          · have hb : d.all digB = false := by
              rw [Bool.eq_false_iff]
              intro h
              have := List.all_eq_true.1 h c hmem
              rw [digB_not (.inl h48)] at this; cases this
            rw [hb]
            simp [h0'', h3, hlt, hc, h48]
          · by_cases h57 : 57 < (c.toNat : Int)
            · have hb : d.all digB = false := by
                rw [Bool.eq_false_iff]
                intro h
                have := List.all_eq_true.1 h c hmem
                rw [digB_not (.inr h57)] at this; cases this
              rw [hb]
              simp [h0'', h3, hlt, hc, h48, h57]
            · simp [h0'', h3, hlt, hc, h48, h57]
              rw [wrap_small (by omega) (by omega)]
              refine ⟨i - 1, by omega, j + 1, by omega, by simp, ?_⟩
              rw [take_nth hlt, hc]
              intro x hx
              rw [List.mem_append, List.mem_singleton] at hx
              rcases hx with hx | rfl
              · exact List.all_eq_true.1 ha x hx
              · exact digB_of h48 h57
        · intro hge
          simp at hge
          rw [List.take_of_length_le hge] at ha
          rw [ha]
          cases d with
          | nil => simp [h0'']
          | cons c d =>
            have hn : nth (c :: d) 0 = c := rfl
            have hp : (0 : Int) < (d.length : Int) + 1 := by omega
            by_cases h4 : (c :: d).length ≤ 400
            · have h4' : (d.length : Int) + 1 ≤ 400 := by simp at h4; omega
              have h4'' : d.length + 1 ≤ 400 := by simpa using h4
              have hu := u8_48 (c := c)
              have hu' : ((c.toNat : Int) = 48) ↔ c = 48 := by rw [hu]; omega
              simp [h0'', hn, hp, h4', h4'', hu']
            · have h4' : ¬ (d.length : Int) + 1 ≤ 400 := by simp at h4; omega
              have h4'' : ¬ d.length + 1 ≤ 400 := by simpa using h4
              simp [h0'', hn, hp, h4', h4'']
theorem c447 (Dt : D447 T) {H : AHeap} {v : AV} {l : List (List UInt8)} (hv : Sl encS 1 H v l) (hl : l.length < 2 ^ 40) (hs : ∀ s ∈ l, s.length < 2 ^ 40) : Calls T 447 [v] H fun r H' => H' = H ∧ r = .int .i64 (errS l) := by
  refine Calls.fn Dt.pr Dt.fn ?_
  obtain ⟨E, hE⟩ : ∃ E, errS l = E := ⟨_, rfl⟩
  rw [hE]
  unfold errS numsS at hE
  have lv := hv.len
  simp [ir447]
  refine W_loop (fun (i : Nat) e X => X = H ∧ e 0 = v ∧ ∃ j : Nat, i + j = l.length ∧ e 3 = .int .i64 j ∧ ∀ s ∈ l.take j, ¬ 401 < s.length) id l.length ?_ ?_
  · exact ⟨rfl, rfl, 0, by simp, rfl, by simp⟩
  · rintro i e X ⟨rfl, h0, j, hj, h3, ha⟩
    simp [h0, h3, lv]
    refine WB.bool ?_ ?_
    · intro hlt
      simp at hlt
      obtain ⟨s, hs'⟩ : ∃ s, nth l (j : Int) = s := ⟨_, rfl⟩
      have hmem : s ∈ l := by rw [← hs']; simp [nth, hlt]
      by_cases h4 : 401 < s.length
      · have h4' : (401 : Int) < (s.length : Int) := by omega
        have hany : (l.any fun s => decide (401 < s.length)) = true := List.any_eq_true.2 ⟨s, hmem, by simpa using h4⟩
        rw [if_pos hany] at hE
        subst hE
        simp (disch := omega) [h0, h3, hv.ia, hv.ld, hs', h4']
      · have h4' : ¬ (401 : Int) < (s.length : Int) := by omega
        simp (disch := omega) [h0, h3, hv.ia, hv.ld, hs', h4']
        rw [wrap_small (by omega) (by omega)]
        refine ⟨i - 1, by omega, j + 1, by omega, by simp, ?_⟩
        intro x hx
        rw [take_nth hlt, List.mem_append, List.mem_singleton] at hx
        rcases hx with hx | rfl
        · have := ha x hx; omega
        · rw [hs']; omega
    · intro hge
      simp at hge
      rw [List.take_of_length_le hge] at ha
      have hany : ¬ (l.any fun s => decide (401 < s.length)) = true := by
        intro h
        obtain ⟨s, h1, h2⟩ := List.any_eq_true.1 h
        exact ha s h1 (by simpa using h2)
      rw [if_neg hany] at hE
      simp
      refine W_loop (fun (i : Nat) e Y => Y = X ∧ e 0 = v ∧ ∃ j : Nat, i + j = l.length ∧ e 4 = .int .i64 j ∧ ∀ s ∈ l.take j, (readS s).isSome = true) id l.length ?_ ?_
      · exact ⟨rfl, by simp [h0], 0, by simp, by simp, by simp⟩
      · rintro i e Y ⟨rfl, h0, j, hj, h4, hb⟩
        simp [h0, h4, lv]
        refine WB.bool ?_ ?_
        · intro hlt
          simp at hlt
          obtain ⟨s, hs'⟩ : ∃ s, nth l (j : Int) = s := ⟨_, rfl⟩
          have hmem : s ∈ l := by rw [← hs']; simp [nth, hlt]
          simp (disch := omega) [h0, h4, hv.ia, hv.ld, hs']
          refine WC.of (c421 Dt.d421 (hs s hmem)) ?_
          rintro r Z ⟨rfl, rfl⟩
          cases hz : readS s with
          | none =>
            have hany2 : (l.any fun s => (readS s).isNone) = true := List.any_eq_true.2 ⟨s, hmem, by rw [hz]; rfl⟩
            rw [if_pos hany2] at hE
            subst hE
            simp
          | some z =>
            simp [h0, h4]
            rw [wrap_small (by omega) (by omega)]
            refine ⟨i - 1, by omega, j + 1, by omega, by simp, ?_⟩
            intro x hx
            rw [take_nth hlt, List.mem_append, List.mem_singleton] at hx
            rcases hx with hx | rfl
            · exact hb x hx
            · rw [hs', hz]; rfl
        · intro hge
          simp at hge
          rw [List.take_of_length_le hge] at hb
          have hany2 : ¬ (l.any fun s => (readS s).isNone) = true := by
            intro h
            obtain ⟨s, h1, h2⟩ := List.any_eq_true.1 h
            have := hb s h1
            cases hz : readS s with
            | none => rw [hz] at this; cases this
            | some z => rw [hz] at h2; cases h2
          rw [if_neg hany2] at hE
          subst hE
          simp
end Go.Am

/- Contracts of the reference's numbers: sum and difference. -/
set_option linter.unusedVariables false
set_option linter.unusedSimpArgs false
namespace Go.Am
variable {T : Tab}
theorem rfd_zero0 (n : Nat) : rfd 0 n = [] := by simp [rfd, fd]
theorem bel_sgn_rd (b : Bool) (n : Nat) : (b && decide (0 < (rdig n).length)) = bel (sgn b n) := by
  unfold bel sgn
  rw [Bool.eq_iff_iff]
  simp only [Bool.and_eq_true, decide_eq_true_eq]
  rw [rdig_pos_len]
  cases b <;> simp <;> omega
theorem c451 (Dt : D451 T) {D : Nat → Prop} {H : AHeap} (hw : WF H) (hd : ∀ g, D g → g < H.next) {u v : AV} {x y : Int} (hu : NV D H u x) (hv : NV D H v y) (hx : (rdig x.natAbs).length < 2 ^ 20) (hy : (rdig y.natAbs).length < 2 ^ 20) :
    Calls T 451 [u, v] H fun r H' => Fr H H' ∧ NV D H' r (x + y) := by
  obtain ⟨s, rfl, sc, hs⟩ := hu.box
  obtain ⟨t, rfl, tc, ht⟩ := hv.box
  refine Calls.fn Dt.pr Dt.fn ?_
  have F := (((Fx.start hw hd (ps := [.rd encI 1 s (rdig x.natAbs), .rd encI 1 t (rdig y.natAbs)]) ⟨hs, ht, trivial⟩).bx H.next [s, .bool (bel x)]).bx (H.next + 1) [t, .bool (bel y)]).bx (H.next + 2) [.slc none 0 0 none, .bool false]
  simp [ir451, new_next, Nat.add_assoc, sc, tc]
  obtain ⟨X, hX⟩ : ∃ X, ((H.new [s, .bool (bel x)]).new [t, .bool (bel y)]).new [.slc none 0 0 none, .bool false] = X := ⟨_, rfl⟩
  rw [hX] at F ⊢
  have B2 : Box X H.next H.next _ := F.o.2.2.1
  have B3 : Box X (H.next + 1) (H.next + 1) _ := F.o.2.1
  simp [B2.at 1 rfl, B3.at 1 rfl]
  refine WB.bool ?_ ?_
  · intro hne
    have hne : bel x ≠ bel y := by revert hne; cases bel x <;> cases bel y <;> simp
    refine W_cut (fun e Y => e 2 = .ptr (some (H.next, 0)) ∧ e 3 = .ptr (some (H.next + 1, 0)) ∧ e 4 = .ptr (some (H.next + 2, 0)) ∧ ∃ (x' y' : Int) (s' t' : AV), x' + y' = x + y ∧ y'.natAbs ≤ x'.natAbs ∧ bel x' ≠ bel y' ∧ (rdig x'.natAbs).length < 2 ^ 20 ∧ s'.cell = true ∧ t'.cell = true ∧
      Fx H D [.box (H.next + 2) [.slc none 0 0 none, .bool false], .box (H.next + 1) [t', .bool (bel y')], .box H.next [s', .bool (bel x')]] [.rd encI 1 s' (rdig x'.natAbs), .rd encI 1 t' (rdig y'.natAbs)] Y) ?_ ?_
    · simp [B2.all 2 rfl, B3.all 2 rfl]
      refine WC.of (c475 Dt.d475 F.wf F.dn (x := x) (y := y) ⟨s, rfl, F.p.1⟩ ⟨t, rfl, F.p.2.1⟩ (by omega) (by omega)) ?_
      rintro r X1 ⟨fr, rfl⟩
      have F1 := F.call fr
      have C2 : Box X1 H.next H.next _ := F1.o.2.2.1
      have C3 : Box X1 (H.next + 1) (H.next + 1) _ := F1.o.2.1
      by_cases hlt : x.natAbs < y.natAbs
      · have hc := cmpZ_lt.2 (show (x.natAbs : Int) < y.natAbs by omega)
        obtain ⟨X2, s2, F2⟩ := F1.stA 2 rfl 2 [t, .bool (bel y)] rfl rfl (by simp [tc])
        obtain ⟨X3, s3, F3⟩ := F2.stA 1 rfl 2 [s, .bool (bel x)] rfl rfl (by simp [sc])
        simp [hc, C2.all 2 rfl, C3.all 2 rfl, s2, s3]
        exact ⟨y, x, by omega, by omega, Ne.symm hne, hy, t, tc, s, sc, F3.pbs (qs := [.rd encI 1 t _, .rd encI 1 s _]) ⟨F3.p.2.1, F3.p.1, trivial⟩⟩
      · have hc : ¬ cmpZ (x.natAbs : Int) y.natAbs < 0 := fun h => hlt (by have := cmpZ_lt.1 h; omega)
        simp [hc]
        exact ⟨x, y, rfl, by omega, hne, hx, s, sc, t, tc, F1⟩
    · rintro e Y ⟨h2, h3, h4, x', y', s', t', hsum, hle, hne', hlx, sc', tc', G⟩
      rw [← hsum]
      have C2 : Box Y H.next H.next _ := G.o.2.2.1
      have G1 := G.bx Y.next [.slc none 0 0 none, .bool false]
      obtain ⟨Y1, s1, G2⟩ := G1.stA 0 rfl 2 [.slc none 0 0 none, .bool (bel x')] rfl rfl (by simp)
      obtain ⟨n5, hn5⟩ : ∃ n5, Y.next = n5 := ⟨_, rfl⟩
      rw [hn5] at s1 G2
      have G3 := G2.nil encI 1 0
      obtain ⟨m, hm⟩ : ∃ m, x'.natAbs = m := ⟨_, rfl⟩
      obtain ⟨n, hn⟩ : ∃ n, y'.natAbs = n := ⟨_, rfl⟩
      obtain ⟨L, hL⟩ : ∃ L, (rdig m).length = L := ⟨_, rfl⟩
      rw [hm, hn] at hle
      rw [hm, hL] at hlx
      have mlt : m < 10 ^ L := by rw [← hL, rdig_len]; exact dig_lt m
      have hly : (rdig n).length ≤ L := by rw [← hL, rdig_len, rdig_len]; exact dig_len_mono hle
      have ls' : psem .len [s'] = some (.int .i64 L) := by
        have := (show Rd _ encI 1 Y s' (rdig x'.natAbs) from G.p.1).sl.len
        rw [hm, hL] at this; exact this
      simp [h2, C2.at 1 rfl, psem_bld', fill, splice, hn5, s1]
      refine W_loop (fun (w : Nat) e W => e 2 = .ptr (some (H.next, 0)) ∧ e 3 = .ptr (some (H.next + 1, 0)) ∧ e 4 = .ptr (some (H.next + 2, 0)) ∧ e 5 = .ptr (some (n5, 0)) ∧ ∃ i : Nat, w + i = L ∧ e 7 = .int .i64 i ∧ e 6 = .int .i64 (owed m n i : Nat) ∧ ∃ v f, Fx H D [.own encI 1 v (rfd i (m - n)) f, .box n5 [v, .bool (bel x')], .box (H.next + 2) [.slc none 0 0 none, .bool false], .box (H.next + 1) [t', .bool (bel y')], .box H.next [s', .bool (bel x')]] [.rd encI 1 s' (rdig x'.natAbs), .rd encI 1 t' (rdig y'.natAbs)] W) id L ?_ ?_
      · refine ⟨by simp [h2], by simp [h3], by simp [h4], by simp, 0, by simp, by simp, by simp [owed, Nat.mod_one], .slc none 0 0 none, none, ?_⟩
        rw [rfd_zero0]
        exact G3
      · rintro w e W ⟨h2, h3, h4, h5, i, hi, h7, h6, v, f, K⟩
        have k2 : Box W H.next H.next _ := K.o.2.2.2.2.1
        have k3 : Box W (H.next + 1) (H.next + 1) _ := K.o.2.2.2.1
        have k5 : Box W n5 n5 _ := K.o.2.1
        have ks := (show Rd _ encI 1 W s' (rdig x'.natAbs) from K.p.1)
        have kt := (show Rd _ encI 1 W t' (rdig y'.natAbs) from K.p.2.1)
        rw [hm] at ks
        simp [h2, h7, k2.at 0 rfl, ls']
        refine WB.bool ?_ ?_
        · intro hlt
          simp at hlt
          have d1 : nth (rdig m) (i : Int) = _ := nth_rdig m i
          obtain ⟨dm, hdm⟩ : ∃ dm, m / 10 ^ i % 10 = dm := ⟨_, rfl⟩
          obtain ⟨dn, hdn⟩ : ∃ dn, n / 10 ^ i % 10 = dn := ⟨_, rfl⟩
          obtain ⟨c, hc⟩ : ∃ c, owed m n i = c := ⟨_, rfl⟩
          have b1 : dm < 10 := by rw [← hdm]; exact Nat.mod_lt _ (by decide)
          have b2 : dn < 10 := by rw [← hdn]; exact Nat.mod_lt _ (by decide)
          have b3 : c < 2 := by rw [← hc]; unfold owed; split <;> omega
          obtain ⟨g1, g2⟩ := sub_digit hle i
          rw [hdm, hdn, hc] at g1 g2
          rw [hdm] at d1
          rw [hc] at h6
          have q1 : IntKind.i64.wrap ((dm : Int) - dn) = (dm : Int) - dn := wrap_small (by omega) (by omega)
          have q2 : IntKind.i64.wrap ((dm : Int) - dn - c) = (dm : Int) - dn - c := wrap_small (by omega) (by omega)
          have q3 : IntKind.i64.wrap ((dm : Int) - dn - c + 10) = (dm : Int) - dn - c + 10 := wrap_small (by omega) (by omega)
          have q4 : IntKind.i64.wrap ((i : Int) + 1) = (i : Int) + 1 := wrap_small (by omega) (by omega)
          have ia : psem (.ia 1) [s', .int .i64 (i : Int)] = some (elt s' 1 (i : Int)) := ks.sl.ia (by omega) (by rw [hL]; omega)
          have ld : rsem (.ld 1 false) [elt s' 1 (i : Int)] W = some (.int .i64 (dm : Int)) := by rw [ks.sl.ld (by omega) (by rw [hL]; omega), d1]
          simp only [W_skip, Wk_seq, W_seq, W_block]
          refine W_floats ?_
          simp only [WT_cons, WT_nil]
          simp [-Wk_seq, h2, h3, h6, h7, k2.at 0 rfl, ia, ld, k3.all 2 rfl]
          refine WC.of (c489 Dt.d489 K.wf K.dn (x := y') (i := i) ⟨t', rfl, K.p.2.1⟩ (by rw [hn]; omega) (by omega)) ?_
          rintro r W1 ⟨fr1, rfl⟩
          rw [hn, hdn]
          have K1 := K.call fr1
          have k21 : Box W1 H.next H.next _ := K1.o.2.2.2.2.1
          have k51 : Box W1 n5 n5 _ := K1.o.2.1
          have ks1 := (show Rd _ encI 1 W1 s' (rdig x'.natAbs) from K1.p.1)
          rw [hm] at ks1
          have ld1 : rsem (.ld 1 false) [elt s' 1 (i : Int)] W1 = some (.int .i64 (dm : Int)) := by rw [ks1.sl.ld (by omega) (by rw [hL]; omega), d1]
          simp [-Wk_seq, h6, q1, q2]
          simp [-Wk_seq, floatOk, wanted, AV.same_refl, h2, h7, k2.at 0 rfl, k21.at 0 rfl, ia, ld, ld1]
          rw [Wk_seq]
          by_cases hb : dm < dn + c
          · rw [if_pos hb] at g1 g2
            have hneg : (dm : Int) - dn - c < 0 := by omega
            have ev : (dm : Int) - dn - c + 10 = ((dm + 10 - (dn + c) : Nat) : Int) := by omega
            rw [ev] at q3
            obtain ⟨z, hz⟩ : ∃ z, dm + 10 - (dn + c) = z := ⟨_, rfl⟩
            rw [hz] at q3 g1 ev
            obtain ⟨v', W2, f', p1, pc, K2⟩ := K1.push 0 rfl 8 ((z : Nat) : Int) (by rw [rfd_len]; omega) (by rw [rfd_len]; omega)
            obtain ⟨W3, u3, K3⟩ := K2.st1 1 rfl 0 v' pc (by simp)
            simp [hneg, ev, q3, h5, k51.at 0 rfl, wsem0_bsl1 (v := .int .i64 (z : Int)) rfl, p1, u3, h2, h3, h4, h7, q4]
            refine ⟨w - 1, by omega, i + 1, by omega, by simp, by rw [g2]; rfl, v', f', ?_⟩
            rw [rfd_succ, ← g1]
            rw [hn] at K3
            exact K3
          · rw [if_neg hb] at g1 g2
            have hneg : ¬ (dm : Int) - dn - c < 0 := by omega
            have ev : (dm : Int) - dn - c = ((dm - (dn + c) : Nat) : Int) := by omega
            obtain ⟨z, hz⟩ : ∃ z, dm - (dn + c) = z := ⟨_, rfl⟩
            rw [hz] at ev g1
            rw [ev] at hneg
            obtain ⟨v', W2, f', p1, pc, K2⟩ := K1.push 0 rfl 8 ((z : Nat) : Int) (by rw [rfd_len]; omega) (by rw [rfd_len]; omega)
            obtain ⟨W3, u3, K3⟩ := K2.st1 1 rfl 0 v' pc (by simp)
            simp [ev, hneg, h5, k51.at 0 rfl, wsem0_bsl1 (v := .int .i64 (z : Int)) rfl, p1, u3, h2, h3, h4, h7, q4]
            refine ⟨w - 1, by omega, i + 1, by omega, by simp, by rw [g2]; rfl, v', f', ?_⟩
            rw [rfd_succ, ← g1]
            rw [hn] at K3
            exact K3
        · intro hge
          simp at hge
          have : i = L := by omega
          subst this
          have K1 := K.read
          have kv : Rd _ encI 1 W v (rfd i (m - n)) := K1.p.1
          simp [h5, k5.all 2 rfl]
          refine WC.of (c453 Dt.d453 K1.wf K1.dn kv (by rw [rfd_len]; omega)) ?_
          rintro r W1 ⟨fr1, s6, rfl, hs6⟩
          rw [rtrim_rfd (show m - n < 10 ^ i by omega)] at hs6 ⊢
          rw [bel_sgn_rd]
          have K2 := K1.callR fr1 (qs := [.rd encI 1 s6 _]) ⟨hs6, trivial⟩
          obtain ⟨W2, u2, K3⟩ := K2.stA 1 rfl 2 [s6, .bool (bel (sgn (bel x') (m - n)))] rfl rfl (by simp [hs6.sl.form.1])
          have B : Box W2 (H.next + 2) (H.next + 2) _ := K3.o.2.1
          simp [h4, u2, ares_cellA (hb := B)]
          refine ⟨K3.end.1, ?_⟩
          have e1 : sgn (bel x') (m - n) = x' + y' := by
            unfold sgn
            unfold bel at hne' ⊢
            by_cases h1 : x' < 0 <;> by_cases h2 : y' < 0 <;> simp [h1, h2] at hne' ⊢ <;> omega
          refine NV.to (z := sgn (bel x') (m - n)) ⟨s6, rfl, ?_⟩ e1
          rw [sgn_abs]
          exact K3.end.2.1
  · intro heq
    have heq : bel x = bel y := by revert heq; cases bel x <;> cases bel y <;> simp
    obtain ⟨m, hm⟩ : ∃ m, x.natAbs = m := ⟨_, rfl⟩
    obtain ⟨n, hn⟩ : ∃ n, y.natAbs = n := ⟨_, rfl⟩
    obtain ⟨la, hla⟩ : ∃ la, (rdig m).length = la := ⟨_, rfl⟩
    obtain ⟨lb, hlb⟩ : ∃ lb, (rdig n).length = lb := ⟨_, rfl⟩
    obtain ⟨M, hM⟩ : ∃ M, max la lb = M := ⟨_, rfl⟩
    rw [hm, hla] at hx
    rw [hn, hlb] at hy
    have mlt : m < 10 ^ M := by
      refine Nat.lt_of_lt_of_le (dig_lt m) (Nat.pow_le_pow_right (by decide) ?_)
      rw [← rdig_len]; omega
    have nlt : n < 10 ^ M := by
      refine Nat.lt_of_lt_of_le (dig_lt n) (Nat.pow_le_pow_right (by decide) ?_)
      rw [← rdig_len]; omega
    have G1 := F.bx X.next [.slc none 0 0 none, .bool false]
    obtain ⟨Y1, s1, G2⟩ := G1.stA 0 rfl 2 [.slc none 0 0 none, .bool (bel x)] rfl rfl (by simp)
    obtain ⟨n5, hn5⟩ : ∃ n5, X.next = n5 := ⟨_, rfl⟩
    rw [hn5] at s1 G2
    have G3 := G2.nil encI 1 0
    have ls : psem .len [s] = some (.int .i64 la) := by
      have := hs.sl.len
      rw [hm, hla] at this; exact this
    have lt : psem .len [t] = some (.int .i64 lb) := by
      have := ht.sl.len
      rw [hn, hlb] at this; exact this
    have mx : max (la : Int) lb = (M : Int) := by omega
    simp [B2.at 1 rfl, psem_bld', fill, splice, hn5, s1]
    refine W_loop (fun (w : Nat) e W => e 2 = .ptr (some (H.next, 0)) ∧ e 3 = .ptr (some (H.next + 1, 0)) ∧ e 4 = .ptr (some (H.next + 2, 0)) ∧ e 9 = .ptr (some (n5, 0)) ∧ ∃ i : Nat, w + i = M + 2 ∧ i ≤ M + 1 ∧ e 11 = .int .i64 i ∧ e 10 = .int .i64 ((m % 10 ^ i + n % 10 ^ i) / 10 ^ i : Nat) ∧ ∃ v f, Fx H D [.own encI 1 v (rfd i (m + n)) f, .box n5 [v, .bool (bel x)], .box (H.next + 2) [.slc none 0 0 none, .bool false], .box (H.next + 1) [t, .bool (bel y)], .box H.next [s, .bool (bel x)]] [.rd encI 1 s (rdig x.natAbs), .rd encI 1 t (rdig y.natAbs)] W) id (M + 2) ?_ ?_
    · refine ⟨by simp, by simp, by simp, by simp, 0, by simp, by omega, by simp, by simp [Nat.mod_one], .slc none 0 0 none, none, ?_⟩
      rw [rfd_zero0]
      exact G3
    · rintro w e W ⟨h2, h3, h4, h9, i, hi, hiM, h11, h10, v, f, K⟩
      have k2 : Box W H.next H.next _ := K.o.2.2.2.2.1
      have k3 : Box W (H.next + 1) (H.next + 1) _ := K.o.2.2.2.1
      have k5 : Box W n5 n5 _ := K.o.2.1
      obtain ⟨dm, hdm⟩ : ∃ dm, m / 10 ^ i % 10 = dm := ⟨_, rfl⟩
      obtain ⟨dn, hdn⟩ : ∃ dn, n / 10 ^ i % 10 = dn := ⟨_, rfl⟩
      obtain ⟨c, hc⟩ : ∃ c, (m % 10 ^ i + n % 10 ^ i) / 10 ^ i = c := ⟨_, rfl⟩
      have hp : 0 < 10 ^ i := Nat.pow_pos (by decide)
      have b1 : dm < 10 := by rw [← hdm]; exact Nat.mod_lt _ (by decide)
      have b2 : dn < 10 := by rw [← hdn]; exact Nat.mod_lt _ (by decide)
      have b3 : c < 2 := by rw [← hc, Nat.div_lt_iff_lt_mul hp]; have := Nat.mod_lt m hp; have := Nat.mod_lt n hp; omega
      obtain ⟨g1, g2⟩ := add_digit m n i
      rw [hdm, hdn, hc] at g1 g2
      rw [hc] at h10
      by_cases hgo : i < M ∨ 0 < c
      · have hiM2 : i ≤ M := by
          apply Classical.byContradiction
          intro hn2
          have : i = M + 1 := by omega
          subst this
          have hp1 : 10 ^ (M + 1) = 10 ^ M * 10 := Nat.pow_succ 10 M
          rw [Nat.mod_eq_of_lt (by omega), Nat.mod_eq_of_lt (by omega), Nat.div_eq_of_lt (by omega)] at hc
          omega
        have q1 : IntKind.i64.wrap ((dm : Int) + dn) = (dm : Int) + dn := wrap_small (by omega) (by omega)
        obtain ⟨sum, hsum⟩ : ∃ sum, dm + dn + c = sum := ⟨_, rfl⟩
        obtain ⟨d, hd⟩ : ∃ d, sum % 10 = d := ⟨_, rfl⟩
        obtain ⟨z, hz⟩ : ∃ z, sum / 10 = z := ⟨_, rfl⟩
        rw [hsum] at g1 g2
        rw [hd] at g1
        rw [hz] at g2
        have q2 : IntKind.i64.wrap ((dm : Int) + dn + c) = (sum : Int) := by rw [wrap_small (by omega) (by omega)]; omega
        have q3 : (sum : Int).tmod 10 = (d : Int) := by rw [← hd]; rfl
        have q4 : IntKind.i64.wrap ((sum : Int).tdiv 10) = (z : Int) := by rw [show (sum : Int).tdiv 10 = ((sum / 10 : Nat) : Int) from rfl, hz, wrap_small (by omega) (by omega)]
        have q5 : IntKind.i64.wrap ((sum : Int) / 10) = (z : Int) := by rw [show (sum : Int) / 10 = ((sum / 10 : Nat) : Int) by omega, hz, wrap_small (by omega) (by omega)]
        have q6 : IntKind.i64.wrap ((i : Int) + 1) = (i : Int) + 1 := wrap_small (by omega) (by omega)
        refine W_cut (fun e' W' => W' = W ∧ e' 2 = .ptr (some (H.next, 0)) ∧ e' 3 = .ptr (some (H.next + 1, 0)) ∧ e' 4 = .ptr (some (H.next + 2, 0)) ∧ e' 9 = .ptr (some (n5, 0)) ∧ e' 11 = .int .i64 i ∧ e' 10 = .int .i64 c) ?_ ?_
        · by_cases hi1 : i < M
          · have hi1' : (i : Int) < (M : Int) := by omega
            simp [h2, h3, h4, h9, h10, h11, k2.at 0 rfl, k3.at 0 rfl, ls, lt, mx, hi1, hi1']
          · have hi1' : ¬ (i : Int) < (M : Int) := by omega
            have hc1 : 0 < c := hgo.resolve_left hi1
            have hc1' : (0 : Int) < (c : Int) := by omega
            simp [h2, h3, h4, h9, h10, h11, k2.at 0 rfl, k3.at 0 rfl, ls, lt, mx, hi1, hi1', hc1, hc1']
        · rintro e W' ⟨rfl, h2, h3, h4, h9, h11, h10⟩
          simp only [W_seq, W_block]
          refine W_floats ?_
          simp only [WT_cons, WT_nil]
          simp [-Wk_seq, h2, h11, k2.all 2 rfl]
          refine WC.of (c489 Dt.d489 K.wf K.dn (x := x) (i := i) ⟨s, rfl, K.p.1⟩ (by rw [hm]; omega) (by omega)) ?_
          rintro r W1 ⟨fr1, rfl⟩
          rw [hm, hdm]
          have K1 := K.call fr1
          have k31 : Box W1 (H.next + 1) (H.next + 1) _ := K1.o.2.2.2.1
          simp [-Wk_seq, h3, h11, k31.all 2 rfl]
          refine WC.of (c489 Dt.d489 K1.wf K1.dn (x := y) (i := i) ⟨t, rfl, K1.p.2.1⟩ (by rw [hn]; omega) (by omega)) ?_
          rintro r W2 ⟨fr2, rfl⟩
          rw [hn, hdn]
          have K2 := K1.call fr2
          have k52 : Box W2 n5 n5 _ := K2.o.2.1
          obtain ⟨v', W3, f', p1, pc, K3⟩ := K2.push 0 rfl 8 ((d : Nat) : Int) (by rw [rfd_len]; omega) (by rw [rfd_len]; omega)
          obtain ⟨W4, u4, K4⟩ := K3.st1 1 rfl 0 v' pc (by simp)
          simp [-Wk_seq, h10, q1, q2]
          simp [-Wk_seq, floatOk, wanted, AV.same_refl, h3, k3.all 2 rfl, k31.all 2 rfl]
          rw [Wk_seq]
          simp [h9, k52.at 0 rfl, q3, q4, q5, wsem0_bsl1 (v := .int .i64 (d : Int)) rfl, p1, u4, h2, h3, h4, h11, q6]
          refine ⟨w - 1, by omega, i + 1, by omega, by omega, by simp, ?_, v', f', ?_⟩
          · exact_mod_cast g2
          · rw [rfd_succ, ← g1]
            rw [hm, hn] at K4
            exact K4
      · have hi1 : ¬ i < M := fun h => hgo (.inl h)
        have hc0 : ¬ 0 < c := fun h => hgo (.inr h)
        have hi1' : ¬ (i : Int) < (M : Int) := by omega
        have hc0' : ¬ (0 : Int) < (c : Int) := by omega
        have mlt' : m < 10 ^ i := Nat.lt_of_lt_of_le mlt (Nat.pow_le_pow_right (by decide) (by omega))
        have nlt' : n < 10 ^ i := Nat.lt_of_lt_of_le nlt (Nat.pow_le_pow_right (by decide) (by omega))
        have sumlt : m + n < 10 ^ i := by
          rw [Nat.mod_eq_of_lt mlt', Nat.mod_eq_of_lt nlt'] at hc
          apply Classical.byContradiction
          intro hn2
          have := Nat.div_pos (show 10 ^ i ≤ m + n by omega) hp
          omega
        have K1 := K.read
        have kv : Rd _ encI 1 W v (rfd i (m + n)) := K1.p.1
        simp [h2, h3, h4, h9, h10, h11, k2.at 0 rfl, k3.at 0 rfl, ls, lt, mx, hi1, hi1', hc0, hc0', k5.all 2 rfl]
        refine WC.of (c453 Dt.d453 K1.wf K1.dn kv (by rw [rfd_len]; omega)) ?_
        rintro r W1 ⟨fr1, s6, rfl, hs6⟩
        rw [rtrim_rfd sumlt] at hs6 ⊢
        rw [bel_sgn_rd]
        have K2 := K1.callR fr1 (qs := [.rd encI 1 s6 _]) ⟨hs6, trivial⟩
        obtain ⟨W2, u2, K3⟩ := K2.stA 1 rfl 2 [s6, .bool (bel (sgn (bel x) (m + n)))] rfl rfl (by simp [hs6.sl.form.1])
        have B : Box W2 (H.next + 2) (H.next + 2) _ := K3.o.2.1
        simp [h4, u2, ares_cellA (hb := B)]
        refine ⟨K3.end.1, ?_⟩
        have e1 : sgn (bel x) (m + n) = x + y := by
          unfold sgn
          unfold bel at heq ⊢
          by_cases h1 : x < 0 <;> by_cases h2 : y < 0 <;> simp [h1, h2] at heq ⊢ <;> omega
        refine NV.to (z := sgn (bel x) (m + n)) ⟨s6, rfl, ?_⟩ e1
        rw [sgn_abs]
        exact K3.end.2.1
theorem c476 (Dt : D476 T) {D : Nat → Prop} {H : AHeap} (hw : WF H) (hd : ∀ g, D g → g < H.next) {u v : AV} {x y : Int} (hu : NV D H u x) (hv : NV D H v y) (hx : (rdig x.natAbs).length < 2 ^ 20) (hy : (rdig y.natAbs).length < 2 ^ 20) :
    Calls T 476 [u, v] H fun r H' => Fr H H' ∧ NV D H' r (x - y) := by
  obtain ⟨s, rfl, sc, hs⟩ := hu.box
  obtain ⟨t, rfl, tc, ht⟩ := hv.box
  refine Calls.fn Dt.pr Dt.fn ?_
  have F := (((Fx.start hw hd (ps := [.rd encI 1 s (rdig x.natAbs), .rd encI 1 t (rdig y.natAbs)]) ⟨hs, ht, trivial⟩).bx H.next [s, .bool (bel x)]).bx (H.next + 1) [t, .bool (bel y)]).bx (H.next + 2) [.slc none 0 0 none, .bool false]
  simp [ir476, new_next, Nat.add_assoc, sc, tc]
  obtain ⟨X, hX⟩ : ∃ X, ((H.new [s, .bool (bel x)]).new [t, .bool (bel y)]).new [.slc none 0 0 none, .bool false] = X := ⟨_, rfl⟩
  rw [hX] at F ⊢
  have B2 : Box X H.next H.next _ := F.o.2.2.1
  have B3 : Box X (H.next + 1) (H.next + 1) _ := F.o.2.1
  refine W_floats ?_
  simp only [WT_cons, WT_nil]
  simp [B2.all 2 rfl, B3.all 2 rfl]
  refine WC.of (c485 Dt.d485 F.wf F.dn ⟨t, rfl, F.p.2.1⟩) ?_
  rintro r X1 ⟨fr1, m1⟩
  have F1 := F.callR fr1 (qs := [.nv r _]) ⟨m1, trivial⟩
  simp
  refine WC.of (c451 Dt.d451 F1.wf F1.dn ⟨s, rfl, F1.p.2.1⟩ F1.p.1 hx (by rw [Int.natAbs_neg]; exact hy)) ?_
  rintro r3 X2 ⟨fr3, h3⟩
  obtain ⟨s3, rfl, c3, hs3⟩ := (h3.to (z' := x - y) (by omega)).box
  have F2 := F1.callR fr3 (qs := [.rd encI 1 s3 _]) ⟨hs3, trivial⟩
  obtain ⟨X4, s4, F4⟩ := F2.stA 0 rfl 2 [s3, .bool (bel (x - y))] rfl rfl (by simp [c3])
  have B1' : Box X1 H.next H.next _ := F1.o.2.2.1
  have B : Box X4 (H.next + 2) (H.next + 2) _ := F4.o.1
  simp [s4]
  simp [floatOk, wanted, AV.same_refl, B2.all 2 rfl, B1'.all 2 rfl, ares_cellA (hb := B)]
  exact ⟨F4.end.1, s3, rfl, F4.end.2.1⟩
end Go.Am

/- Contracts of the reference's numbers: products. -/
set_option linter.unusedVariables false
set_option linter.unusedSimpArgs false
namespace Go.Am
variable {T : Tab}
/-- What columns are worth, the lowest one first. -/
def VL : List Nat → Nat
  | [] => 0
  | d :: l => d + 10 * VL l
theorem VL_zero (n : Nat) : VL (List.replicate n 0) = 0 := by
  induction n with
  | zero => rfl
  | succ n ih => rw [List.replicate_succ]; simp [VL, ih]
theorem VL_set : ∀ (l : List Nat) (p x : Nat), p < l.length → VL (l.set p (l.getD p 0 + x)) = VL l + x * 10 ^ p
  | [], p, x, h => by simp at h
  | d :: l, 0, x, h => by simp [VL]; omega
  | d :: l, p + 1, x, h => by
    have := VL_set l p x (by simpa using h)
    simp only [List.set_cons_succ, List.getD_cons_succ, VL]
    have e : x * 10 ^ (p + 1) = 10 * (x * 10 ^ p) := by rw [Nat.pow_succ, ← Nat.mul_assoc, Nat.mul_comm]
    rw [this, e]
    omega
theorem rfd_cons (L n : Nat) : rfd (L + 1) n = ((n % 10 : Nat) : Int) :: rfd L (n / 10) := by
  unfold rfd; rw [fd_succ]; simp
theorem VL_digits : ∀ (l : List Nat), (∀ x ∈ l, x < 10) → zs l = rfd l.length (VL l)
  | [], _ => by simp [zs, rfd, fd]
  | d :: l, h => by
    have hd := h d (by simp)
    have := VL_digits l fun x hx => h x (by simp [hx])
    rw [List.length_cons, rfd_cons]
    simp only [VL]
    rw [show (d + 10 * VL l) % 10 = d by omega, show (d + 10 * VL l) / 10 = VL l by omega, ← this]
    rfl
theorem VL_ge : ∀ (l : List Nat) (p : Nat), p < l.length → l.getD p 0 * 10 ^ p ≤ VL l
  | [], p, h => by simp at h
  | d :: l, 0, h => by simp [VL]
  | d :: l, p + 1, h => by
    have := VL_ge l p (by simpa using h)
    simp only [List.getD_cons_succ, VL, Nat.pow_succ]
    have e : l.getD p 0 * (10 ^ p * 10) = 10 * (l.getD p 0 * 10 ^ p) := by rw [← Nat.mul_assoc, Nat.mul_comm]
    omega
/-- The carry of a column goes to the next one. -/
theorem VL_carry (l : List Nat) (p : Nat) (h : p + 1 < l.length) : VL ((l.set (p + 1) (l.getD (p + 1) 0 + l.getD p 0 / 10)).set p (l.getD p 0 % 10)) = VL l := by
  have h1 := VL_set l (p + 1) (l.getD p 0 / 10) h
  obtain ⟨m, hm⟩ : ∃ m, l.set (p + 1) (l.getD (p + 1) 0 + l.getD p 0 / 10) = m := ⟨_, rfl⟩
  rw [hm] at h1 ⊢
  have hml : m.length = l.length := by rw [← hm]; simp
  have hmp : m.getD p 0 = l.getD p 0 := by rw [← hm, getD_set (by omega), if_neg (by omega)]
  have h2 := VL_set (m.set p (l.getD p 0 % 10)) p (10 * (l.getD p 0 / 10)) (by simp; omega)
  have e1 : (m.set p (l.getD p 0 % 10)).getD p 0 = l.getD p 0 % 10 := by rw [getD_set (by omega), if_pos rfl]
  rw [e1, List.set_set] at h2
  have e2 : l.getD p 0 % 10 + 10 * (l.getD p 0 / 10) = m.getD p 0 := by rw [hmp]; omega
  have e3 : m.set p (m.getD p 0) = m := by
    apply List.ext_getElem
    · simp
    · intro i a1 a2
      rw [List.getElem_set]
      split
      · rename_i e; subst e
        simp [List.getD_eq_getElem?_getD, List.getElem?_eq_getElem a2]
      · rfl
  rw [e2, e3, h1, Nat.pow_succ] at h2
  have e4 : 10 * (l.getD p 0 / 10) * 10 ^ p = l.getD p 0 / 10 * (10 ^ p * 10) := by
    rw [Nat.mul_comm 10, Nat.mul_assoc, Nat.mul_comm 10]
  rw [e4] at h2
  omega
def colv (m n i k : Nat) : Nat := m % 10 ^ i * n + m / 10 ^ i % 10 * 10 ^ i * (n % 10 ^ k)
theorem colv_step (m n i k : Nat) : colv m n i (k + 1) = colv m n i k + m / 10 ^ i % 10 * (n / 10 ^ k % 10) * 10 ^ (i + k) := by
  unfold colv
  have t := Nat.mod_pow_succ (x := n) (b := 10) (k := k)
  rw [t, Nat.mul_add, Nat.pow_add]
  have : m / 10 ^ i % 10 * 10 ^ i * (10 ^ k * (n / 10 ^ k % 10)) = m / 10 ^ i % 10 * (n / 10 ^ k % 10) * (10 ^ i * 10 ^ k) := by
    simp only [Nat.mul_assoc, Nat.mul_left_comm, Nat.mul_comm]
  rw [this]; omega
theorem colv_row {m n i k : Nat} (h : n < 10 ^ k) : colv m n i k = m % 10 ^ (i + 1) * n := by
  unfold colv
  have t := Nat.mod_pow_succ (x := m) (b := 10) (k := i)
  rw [Nat.mod_eq_of_lt h, t, Nat.add_mul]
  congr 1
  rw [Nat.mul_comm (10 ^ i)]
theorem colv_new (m n i : Nat) : colv m n i 0 = m % 10 ^ i * n := by simp [colv, Nat.mod_one]
theorem c452 (Dt : D452 T) {D : Nat → Prop} {H : AHeap} (hw : WF H) (hd : ∀ g, D g → g < H.next) {u v : AV} {x y : Int} (hu : NV D H u x) (hv : NV D H v y) (hx : (rdig x.natAbs).length < 2 ^ 20) (hy : (rdig y.natAbs).length < 2 ^ 20) :
    Calls T 452 [u, v] H fun r H' => Fr H H' ∧ NV D H' r (x * y) := by
  obtain ⟨s, rfl, sc, hs⟩ := hu.box
  obtain ⟨t, rfl, tc, ht⟩ := hv.box
  refine Calls.fn Dt.pr Dt.fn ?_
  have F := (((Fx.start hw hd (ps := [.rd encI 1 s (rdig x.natAbs), .rd encI 1 t (rdig y.natAbs)]) ⟨hs, ht, trivial⟩).bx H.next [s, .bool (bel x)]).bx (H.next + 1) [t, .bool (bel y)]).bx (H.next + 2) [.slc none 0 0 none, .bool false]
  obtain ⟨m, hm⟩ : ∃ m, x.natAbs = m := ⟨_, rfl⟩
  obtain ⟨n, hn⟩ : ∃ n, y.natAbs = n := ⟨_, rfl⟩
  obtain ⟨la, hla⟩ : ∃ la, (rdig m).length = la := ⟨_, rfl⟩
  obtain ⟨lb, hlb⟩ : ∃ lb, (rdig n).length = lb := ⟨_, rfl⟩
  obtain ⟨L, hL⟩ : ∃ L, la + lb + 1 = L := ⟨_, rfl⟩
  rw [hm, hla] at hx
  rw [hn, hlb] at hy
  have mlt : m < 10 ^ la := by rw [← hla, rdig_len]; exact dig_lt m
  have nlt : n < 10 ^ lb := by rw [← hlb, rdig_len]; exact dig_lt n
  have hprod : la * lb ≤ 2 ^ 40 := Nat.le_trans (Nat.mul_le_mul (Nat.le_of_lt hx) (Nat.le_of_lt hy)) (by decide)
  have ls : psem .len [s] = some (.int .i64 la) := by have := hs.sl.len; rw [hm, hla] at this; exact this
  have lt : psem .len [t] = some (.int .i64 lb) := by have := ht.sl.len; rw [hn, hlb] at this; exact this
  simp [ir452, new_next, Nat.add_assoc, sc, tc]
  obtain ⟨X, hX⟩ : ∃ X, ((H.new [s, .bool (bel x)]).new [t, .bool (bel y)]).new [.slc none 0 0 none, .bool false] = X := ⟨_, rfl⟩
  rw [hX] at F ⊢
  have B2 : Box X H.next H.next _ := F.o.2.2.1
  have B3 : Box X (H.next + 1) (H.next + 1) _ := F.o.2.1
  have e1 : IntKind.i64.wrap ((la : Int) + lb) = (la : Int) + lb := wrap_small (by omega) (by omega)
  have e2 : IntKind.i64.wrap ((la : Int) + lb + 1) = (L : Int) := by rw [wrap_small (by omega) (by omega)]; omega
  obtain ⟨mk1, mk2⟩ := mk0 F.wf (n := L) (by omega)
  simp [B2.at 0 rfl, B3.at 0 rfl, ls, lt, e1, e2, mk1]
  obtain ⟨vs, hvs⟩ : ∃ vs, AV.slc (some (X.next, 0)) 1 L (some L) = vs := ⟨_, rfl⟩
  rw [hvs] at mk2 ⊢
  obtain ⟨f, hf⟩ : ∃ f, X.next = f := ⟨_, rfl⟩
  have F1 := F.mkO F.wf.new F.wf.keeps_new (.own encI 1 vs (List.replicate L 0) (some X.next)) (by simp) (by simp) mk2
  rw [hf] at F1
  rw [← zs_zero L] at F1
  have hsl : ∀ {Y : AHeap} {S : List Nat}, Own encI 1 Y vs (zs S) (some f) → psem .len [vs] = some (.int .i64 S.length) := fun h => by rw [h.1.len, zs_len]
  have lvs : psem .len [vs] = some (.int .i64 L) := by rw [hsl F1.o.1]; simp
  refine W_loop (fun (w : Nat) e Y => e 2 = .ptr (some (H.next, 0)) ∧ e 3 = .ptr (some (H.next + 1, 0)) ∧ e 4 = .ptr (some (H.next + 2, 0)) ∧ e 5 = vs ∧ ∃ i : Nat, w + i = la ∧ e 6 = .int .i64 i ∧ ∃ S : List Nat, S.length = L ∧ VL S = m % 10 ^ i * n ∧ (∀ p, S.getD p 0 ≤ 81 * (i * lb)) ∧
    Fx H D [.own encI 1 vs (zs S) (some f), .box (H.next + 2) [.slc none 0 0 none, .bool false], .box (H.next + 1) [t, .bool (bel y)], .box H.next [s, .bool (bel x)]] [.rd encI 1 s (rdig x.natAbs), .rd encI 1 t (rdig y.natAbs)] Y) id la ?_ ?_
  · refine ⟨by simp, by simp, by simp, by simp, 0, by simp, by simp, List.replicate L 0, by simp, by rw [VL_zero]; simp [Nat.mod_one], fun p => ?_, F1⟩
    rw [List.getD_eq_getElem?_getD, List.getElem?_replicate]; split <;> simp
  · rintro w e Y ⟨h2, h3, h4, h5, i, hi, h6, S, hS, hV, hB, G⟩
    have k2 : Box Y H.next H.next _ := G.o.2.2.2.1
    simp [h2, h6, k2.at 0 rfl, ls]
    refine WB.bool ?_ ?_
    · intro hlt
      simp at hlt
      obtain ⟨a, ha⟩ : ∃ a, m / 10 ^ i % 10 = a := ⟨_, rfl⟩
      have d1 : nth (rdig m) (i : Int) = (a : Int) := by rw [nth_rdig, ha]
      have a10 : a < 10 := by rw [← ha]; exact Nat.mod_lt _ (by decide)
      simp
      refine W_loop (fun (w2 : Nat) e Y => e 2 = .ptr (some (H.next, 0)) ∧ e 3 = .ptr (some (H.next + 1, 0)) ∧ e 4 = .ptr (some (H.next + 2, 0)) ∧ e 5 = vs ∧ e 6 = .int .i64 i ∧ ∃ k : Nat, w2 + k = lb ∧ e 7 = .int .i64 k ∧ ∃ S : List Nat, S.length = L ∧ VL S = colv m n i k ∧ (∀ p, S.getD p 0 ≤ 81 * (i * lb + k)) ∧
        Fx H D [.own encI 1 vs (zs S) (some f), .box (H.next + 2) [.slc none 0 0 none, .bool false], .box (H.next + 1) [t, .bool (bel y)], .box H.next [s, .bool (bel x)]] [.rd encI 1 s (rdig x.natAbs), .rd encI 1 t (rdig y.natAbs)] Y) id lb ?_ ?_
      · exact ⟨by simp [h2], by simp [h3], by simp [h4], by simp [h5], by simp [h6], 0, by simp, by simp, S, hS, by rw [colv_new, hV], by simpa using hB, G⟩
      · rintro w2 e Y ⟨h2, h3, h4, h5, h6, k, hk, h7, S, hS, hV, hB, G⟩
        have k2 : Box Y H.next H.next _ := G.o.2.2.2.1
        have k3 : Box Y (H.next + 1) (H.next + 1) _ := G.o.2.2.1
        simp [h3, h7, k3.at 0 rfl, lt]
        refine WB.bool ?_ ?_
        · intro hklt
          simp at hklt
          obtain ⟨b, hb⟩ : ∃ b, n / 10 ^ k % 10 = b := ⟨_, rfl⟩
          have d2 : nth (rdig n) (k : Int) = (b : Int) := by rw [nth_rdig, hb]
          have b10 : b < 10 := by rw [← hb]; exact Nat.mod_lt _ (by decide)
          have ks := (show Rd _ encI 1 Y s (rdig x.natAbs) from G.p.1)
          have kt := (show Rd _ encI 1 Y t (rdig y.natAbs) from G.p.2.1)
          rw [hm] at ks
          rw [hn] at kt
          have hown : Own encI 1 Y vs (zs S) (some f) := G.o.1
          have eik : IntKind.i64.wrap ((i : Int) + k) = ((i + k : Nat) : Int) := by rw [wrap_small (by omega) (by omega)]; omega
          have ia0 : psem (.ia 1) [vs, .int .i64 ((i + k : Nat) : Int)] = some (elt vs 1 ((i + k : Nat) : Int)) := hown.1.ia (by omega) (by rw [zs_len]; omega)
          have ld0 : rsem (.ld 1 false) [elt vs 1 ((i + k : Nat) : Int)] Y = some (.int .i64 ((S.getD (i + k) 0 : Nat) : Int)) := by rw [hown.1.ld (by omega) (by rw [zs_len]; omega), nth_zs]
          have ia1 : psem (.ia 1) [s, .int .i64 (i : Int)] = some (elt s 1 (i : Int)) := ks.sl.ia (by omega) (by rw [hla]; omega)
          have ld1 : rsem (.ld 1 false) [elt s 1 (i : Int)] Y = some (.int .i64 (a : Int)) := by rw [ks.sl.ld (by omega) (by rw [hla]; omega), d1]
          have ia2 : psem (.ia 1) [t, .int .i64 (k : Int)] = some (elt t 1 (k : Int)) := kt.sl.ia (by omega) (by rw [hlb]; omega)
          have ld2 : rsem (.ld 1 false) [elt t 1 (k : Int)] Y = some (.int .i64 (b : Int)) := by rw [kt.sl.ld (by omega) (by rw [hlb]; omega), d2]
          have hab : a * b ≤ 81 := Nat.le_trans (Nat.mul_le_mul (show a ≤ 9 by omega) (show b ≤ 9 by omega)) (by decide)
          have hilb : i * lb + k ≤ la * lb := by
            have := Nat.mul_le_mul_right lb (show i + 1 ≤ la by omega)
            rw [Nat.add_mul, Nat.one_mul] at this
            omega
          have hBp := hB (i + k)
          obtain ⟨c0, hc0⟩ : ∃ c0, S.getD (i + k) 0 = c0 := ⟨_, rfl⟩
          rw [hc0] at ld0 hBp
          obtain ⟨ab, hab'⟩ : ∃ ab, a * b = ab := ⟨_, rfl⟩
          have m1 : IntKind.i64.wrap ((a : Int) * b) = (ab : Int) := by rw [← Int.natCast_mul, hab']; exact wrap_small (by omega) (by omega)
          have m2 : IntKind.i64.wrap ((c0 : Int) + ab) = ((c0 + ab : Nat) : Int) := by rw [wrap_small (by omega) (by omega)]; omega
          obtain ⟨Y2, s1, s2, s3, s4, s5⟩ := hown.st1 G.wf (i := ((i + k : Nat) : Int)) (by omega) (by rw [zs_len]; omega) ((c0 + ab : Nat) : Int)
          rw [Int.toNat_natCast, zs_set] at s3
          have G2 := G.at 0 rfl (.own encI 1 vs (zs (S.set (i + k) (c0 + ab))) (some f)) rfl s2 (s4.mono fun g hg => by simpa using hg.symm) s3
          have q6 : IntKind.i64.wrap ((k : Int) + 1) = (k : Int) + 1 := wrap_small (by omega) (by omega)
          simp [-Int.natCast_add, h2, h3, h5, h6, h7, k2.at 0 rfl, k3.at 0 rfl, eik, ia0, ld0, ia1, ld1, ia2, ld2, m1, m2, s1]
          simp [h4, q6]
          refine ⟨w2 - 1, by omega, k + 1, by omega, by simp, S.set (i + k) (c0 + ab), by simpa using hS, ?_, fun p => ?_, G2⟩
          · rw [← hc0, VL_set _ _ _ (by omega), hV, colv_step, ha, hb, hab']
          · rw [← List.getD_eq_getElem?_getD, getD_set (by omega)]
            split
            · omega
            · have := hB p; omega
        · intro hkge
          simp at hkge
          have : k = lb := by omega
          subst this
          rw [colv_row nlt] at hV
          have q6 : IntKind.i64.wrap ((i : Int) + 1) = (i : Int) + 1 := wrap_small (by omega) (by omega)
          simp [h2, h4, h5, h6, q6]
          refine ⟨w - 1, by omega, h3, i + 1, by omega, by simp, S, hS, hV, fun p => ?_, G⟩
          have := hB p
          rw [Nat.add_mul, Nat.one_mul]; exact this
    · intro hge
      simp at hge
      have : i = la := by omega
      subst this
      rw [Nat.mod_eq_of_lt mlt] at hV
      have hNlt : m * n < 10 ^ (i + lb) := by rw [Nat.pow_add]; exact Nat.mul_lt_mul'' mlt nlt
      obtain ⟨Bd, hBd⟩ : ∃ Bd, 81 * (i * lb) = Bd := ⟨_, rfl⟩
      rw [hBd] at hB
      simp
      refine W_loop (fun (w : Nat) e Y => e 2 = .ptr (some (H.next, 0)) ∧ e 3 = .ptr (some (H.next + 1, 0)) ∧ e 4 = .ptr (some (H.next + 2, 0)) ∧ e 5 = vs ∧ ∃ j : Nat, w + j = L ∧ j + 1 ≤ L ∧ e 8 = .int .i64 j ∧ ∃ S : List Nat, S.length = L ∧ VL S = m * n ∧ (∀ p, S.getD p 0 ≤ 2 * Bd) ∧ (∀ p, j < p → S.getD p 0 ≤ Bd) ∧ (∀ p, p < j → S.getD p 0 < 10) ∧
        Fx H D [.own encI 1 vs (zs S) (some f), .box (H.next + 2) [.slc none 0 0 none, .bool false], .box (H.next + 1) [t, .bool (bel y)], .box H.next [s, .bool (bel x)]] [.rd encI 1 s (rdig x.natAbs), .rd encI 1 t (rdig y.natAbs)] Y) id L ?_ ?_
      · exact ⟨by simp [h2], by simp [h3], by simp [h4], by simp [h5], 0, by simp, by omega, by simp, S, hS, hV, fun p => by have := hB p; omega, fun p _ => hB p, fun p hp => by omega, G⟩
      · rintro w e Y ⟨h2, h3, h4, h5, j, hj, hjL, h8, S, hS, hV, hB1, hB2, hB3, G⟩
        have hown : Own encI 1 Y vs (zs S) (some f) := G.o.1
        have q6 : IntKind.i64.wrap ((j : Int) + 1) = ((j + 1 : Nat) : Int) := by rw [wrap_small (by omega) (by omega)]; omega
        simp [-Int.natCast_add, h5, h8, q6, lvs]
        refine WB.bool ?_ ?_
        · intro hlt
          have hlt : j + 1 < L := by simpa using hlt
          have ia1 : psem (.ia 1) [vs, .int .i64 ((j + 1 : Nat) : Int)] = some (elt vs 1 ((j + 1 : Nat) : Int)) := hown.1.ia (by omega) (by rw [zs_len]; omega)
          have ld1 : rsem (.ld 1 false) [elt vs 1 ((j + 1 : Nat) : Int)] Y = some (.int .i64 ((S.getD (j + 1) 0 : Nat) : Int)) := by rw [hown.1.ld (by omega) (by rw [zs_len]; omega), nth_zs]
          have ia0 : psem (.ia 1) [vs, .int .i64 (j : Int)] = some (elt vs 1 (j : Int)) := hown.1.ia (by omega) (by rw [zs_len]; omega)
          have ld0 : rsem (.ld 1 false) [elt vs 1 (j : Int)] Y = some (.int .i64 ((S.getD j 0 : Nat) : Int)) := by rw [hown.1.ld (by omega) (by rw [zs_len]; omega), nth_zs]
          have cV := VL_carry S j (by omega)
          have c1B := hB2 (j + 1) (by omega)
          have c0B := hB1 j
          obtain ⟨c1, hc1⟩ : ∃ c1, S.getD (j + 1) 0 = c1 := ⟨_, rfl⟩
          obtain ⟨c0, hc0⟩ : ∃ c0, S.getD j 0 = c0 := ⟨_, rfl⟩
          rw [hc1] at ld1 cV c1B
          rw [hc0] at ld0 cV c0B
          obtain ⟨z, hz⟩ : ∃ z, c0 / 10 = z := ⟨_, rfl⟩
          obtain ⟨d, hd2⟩ : ∃ d, c0 % 10 = d := ⟨_, rfl⟩
          rw [hz, hd2] at cV
          have q3 : (c0 : Int).tmod 10 = (d : Int) := by rw [← hd2]; rfl
          have q4 : IntKind.i64.wrap ((c0 : Int).tdiv 10) = (z : Int) := by rw [show (c0 : Int).tdiv 10 = ((c0 / 10 : Nat) : Int) from rfl, hz, wrap_small (by omega) (by omega)]
          have q5 : IntKind.i64.wrap ((c0 : Int) / 10) = (z : Int) := by rw [show (c0 : Int) / 10 = ((c0 / 10 : Nat) : Int) by omega, hz, wrap_small (by omega) (by omega)]
          have m2 : IntKind.i64.wrap ((c1 : Int) + z) = ((c1 + z : Nat) : Int) := by rw [wrap_small (by omega) (by omega)]; omega
          obtain ⟨Y2, s1, s2, s3, s4, s5⟩ := hown.st1 G.wf (i := ((j + 1 : Nat) : Int)) (by omega) (by rw [zs_len]; omega) ((c1 + z : Nat) : Int)
          rw [Int.toNat_natCast, zs_set] at s3
          have G2 := G.at 0 rfl (.own encI 1 vs (zs (S.set (j + 1) (c1 + z))) (some f)) rfl s2 (s4.mono fun g hg => by simpa using hg.symm) s3
          have ld0' : rsem (.ld 1 false) [elt vs 1 (j : Int)] Y2 = some (.int .i64 (c0 : Int)) := by rw [s3.1.ld (by omega) (by rw [zs_len]; simp; omega), nth_zs, getD_set (by omega), if_neg (by omega), hc0]
          obtain ⟨Y3, t1, t2, t3, t4, t5⟩ := s3.st1 G2.wf (i := (j : Int)) (by omega) (by rw [zs_len]; simp; omega) ((d : Nat) : Int)
          rw [Int.toNat_natCast, zs_set] at t3
          have G3 := G2.at 0 rfl (.own encI 1 vs (zs ((S.set (j + 1) (c1 + z)).set j d)) (some f)) rfl t2 (t4.mono fun g hg => by simpa using hg.symm) t3
          have gd : ∀ p, ((S.set (j + 1) (c1 + z)).set j d).getD p 0 = if p = j then d else if p = j + 1 then c1 + z else S.getD p 0 := by
            intro p
            rw [getD_set (by simp; omega)]
            split
            · rfl
            · rw [getD_set (by omega)]
          simp [-Int.natCast_add, h2, h3, h4, h5, h8, q3, q4, q5, q6, m2, ia0, ia1, ld0, ld1, ld0', s1, t1]
          refine ⟨w - 1, by omega, j + 1, by omega, by omega, rfl, (S.set (j + 1) (c1 + z)).set j d, by simpa using hS, ?_, fun p => ?_, fun p hp => ?_, fun p hp => ?_, G3⟩
          · rw [cV, hV]
          · rw [← List.getD_eq_getElem?_getD, gd]; split
            · omega
            · split
              · omega
              · exact hB1 p
          · rw [← List.getD_eq_getElem?_getD, gd, if_neg (by omega), if_neg (by omega)]; exact hB2 p (by omega)
          · rw [← List.getD_eq_getElem?_getD, gd]; split
            · omega
            · rw [if_neg (by omega)]; exact hB3 p (by omega)
        · intro hge
          have hge : L ≤ j + 1 := by simpa using hge
          have hjL1 : j + 1 = L := by omega
          have last : S.getD j 0 = 0 := by
            have h1 := VL_ge S j (by omega)
            rw [hV] at h1
            have h2 : i + lb = j := by omega
            rw [h2] at hNlt
            apply Classical.byContradiction
            intro hn0
            have := Nat.mul_le_mul_right (10 ^ j) (show 1 ≤ S.getD j 0 by omega)
            omega
          have all10 : ∀ c ∈ S, c < 10 := by
            intro c hc
            obtain ⟨p, hp, rfl⟩ := List.getElem_of_mem hc
            have e : S.getD p 0 = S[p] := by simp [List.getD_eq_getElem?_getD, List.getElem?_eq_getElem hp]
            rw [← e]
            by_cases hpj : p = j
            · subst hpj; rw [last]; decide
            · exact hB3 p (by omega)
          have ez := VL_digits S all10
          rw [hV, hS] at ez
          rw [ez] at G
          have K1 := G.read
          have kv : Rd _ encI 1 Y vs (rfd L (m * n)) := K1.p.1
          have k2 : Box Y H.next H.next _ := K1.o.2.2.1
          have k3 : Box Y (H.next + 1) (H.next + 1) _ := K1.o.2.1
          have vform := kv.sl.form
          simp [h2, h3, h5, k2.at 1 rfl, k3.at 1 rfl, psem_bld', fill, splice, vform.1, vform.2]
          refine WC.of (c453 Dt.d453 K1.wf K1.dn kv (by rw [rfd_len]; omega)) ?_
          rintro r W1 ⟨fr1, s6, rfl, hs6⟩
          have hlt : m * n < 10 ^ L := Nat.lt_of_lt_of_le hNlt (Nat.pow_le_pow_right (by decide) (by omega))
          rw [rtrim_rfd hlt] at hs6 ⊢
          rw [bel_sgn_rd]
          have esg : sgn (!(bel x == bel y)) (m * n) = x * y := by
            rw [← hm, ← hn, ← sgn_mul x y]; cases bel x <;> cases bel y <;> rfl
          have K2 := K1.callR fr1 (qs := [.rd encI 1 s6 _]) ⟨hs6, trivial⟩
          obtain ⟨W2, u2, K3⟩ := K2.stA 0 rfl 2 [s6, .bool (bel (x * y))] rfl rfl (by simp [hs6.sl.form.1])
          have B : Box W2 (H.next + 2) (H.next + 2) _ := K3.o.1
          rw [esg]
          simp [h4, u2, ares_cellA (hb := B)]
          refine ⟨K3.end.1, s6, rfl, ?_⟩
          rw [Int.natAbs_mul, hm, hn]
          exact K3.end.2.1
end Go.Am

/- Contracts of the reference's numbers: quotients. -/
set_option linter.unusedVariables false
set_option linter.unusedSimpArgs false
namespace Go.Am
variable {T : Tab}
theorem rfd_put {L p g c d : Nat} (hp : p < L) (hc : c < 10) (hd : d < 10) : (rfd L (g * 10 ^ (p + 1) + c * 10 ^ p)).set p (d : Int) = rfd L (g * 10 ^ (p + 1) + d * 10 ^ p) := by
  unfold rfd
  rw [← fd_put hp hc hd]
  apply List.ext_getElem
  · simp
  · intro i h1 h2
    have hi : i < L := by simpa [fd_len] using h2
    rw [List.getElem_set]
    simp only [List.getElem_reverse, List.length_set, fd_len, List.getElem_set]
    by_cases e : p = i
    · subst e; rw [if_pos rfl, if_pos rfl]
    · rw [if_neg e, if_neg (by omega)]
theorem nth_rfd {L n i : Nat} (hi : i < L) : nth (rfd L n) (i : Int) = ((n / 10 ^ i % 10 : Nat) : Int) := by
  unfold nth rfd fd
  have h2 : i < ((List.range L).map fun i => ((n / 10 ^ (L - 1 - i) % 10 : Nat) : Int)).reverse.length := by simp; omega
  rw [Int.toNat_natCast, List.getD_eq_getElem?_getD, List.getElem?_eq_getElem h2, Option.getD_some]
  rw [List.getElem_reverse, List.getElem_map, List.getElem_range, List.length_map, List.length_range]
  congr 2
  congr 1
  congr 1
  omega
theorem rtrim_cons {r d : Nat} (hd : d < 10) : rtrim ((d : Int) :: rdig r) = rdig (10 * r + d) := by
  have h := rdig_rfd r
  have hl : r < 10 ^ (rdig r).length := rdig_lt r
  rw [h, ← rtrim_rfd (L := (rdig r).length + 1) (n := 10 * r + d) (by rw [Nat.pow_succ]; omega), rfd_cons, show (10 * r + d) % 10 = d by omega, show (10 * r + d) / 10 = r by omega]
theorem bel_nat (n : Nat) : bel (n : Int) = false := by simp [bel]
theorem c450 (Dt : D450 T) {D : Nat → Prop} {H : AHeap} (hw : WF H) (hd : ∀ g, D g → g < H.next) {u v : AV} {m n : Nat} (hu : NV D H u (m : Int)) (hv : NV D H v (n : Int)) (hn0 : 0 < n) (hx : (rdig m).length < 2 ^ 19) (hy : (rdig n).length < 2 ^ 19) :
    Calls T 450 [u, v] H fun r H' => Fr H H' ∧ ∃ q w, r = .tup [q, w] ∧ NV D H' q (m / n : Nat) ∧ NV D H' w (m % n : Nat) := by
  obtain ⟨s, rfl, sc, hs⟩ := hu.box
  obtain ⟨t, rfl, tc, ht⟩ := hv.box
  rw [Int.natAbs_natCast] at hs ht
  rw [bel_nat, bel_nat]
  refine Calls.fn Dt.pr Dt.fn ?_
  have F := ((((Fx.start hw hd (ps := [.rd encI 1 s (rdig m), .rd encI 1 t (rdig n)]) ⟨hs, ht, trivial⟩).bx H.next [s, .bool false]).bx (H.next + 1) [t, .bool false]).bx (H.next + 2) [.slc none 0 0 none, .bool false]).bx (H.next + 3) [.slc none 0 0 none, .bool false]
  obtain ⟨L, hL⟩ : ∃ L, (rdig m).length = L := ⟨_, rfl⟩
  rw [hL] at hx
  have mlt : m < 10 ^ L := by rw [← hL, rdig_len]; exact dig_lt m
  have ls : psem .len [s] = some (.int .i64 L) := by have := hs.sl.len; rw [hL] at this; exact this
  simp [ir450, new_next, Nat.add_assoc, sc, tc]
  obtain ⟨X, hX⟩ : ∃ X, (((H.new [s, .bool false]).new [t, .bool false]).new [.slc none 0 0 none, .bool false]).new [.slc none 0 0 none, .bool false] = X := ⟨_, rfl⟩
  rw [hX] at F ⊢
  have B2 : Box X H.next H.next _ := F.o.2.2.2.1
  obtain ⟨mk1, mk2⟩ := mk0 F.wf (n := L) (by omega)
  have F1 := F.mkO F.wf.new F.wf.keeps_new (.own encI 1 (.slc (some (X.next, 0)) 1 L (some L)) (List.replicate L 0) (some X.next)) (by simp) (by simp) mk2
  obtain ⟨vs, hvs⟩ : ∃ vs, AV.slc (some (X.next, 0)) 1 L (some L) = vs := ⟨_, rfl⟩
  obtain ⟨f, hf⟩ : ∃ f, X.next = f := ⟨_, rfl⟩
  have F2 := F1.bx (X.next + 1) [.slc none 0 0 none, .bool false]
  have C2 : Box _ H.next H.next _ := F2.o.2.2.2.2.2.1
  have w0 : IntKind.i64.wrap ((L : Int) - 1) = (L : Int) - 1 := wrap_small (by omega) (by omega)
  simp [B2.at 0 rfl, ls, mk1, new_next, C2.at 0 rfl, w0]
  rw [hvs, hf] at F2 ⊢
  obtain ⟨X2, hX2⟩ : ∃ X2, (X.new (List.replicate L (AV.int .i64 0))).new [.slc none 0 0 none, .bool false] = X2 := ⟨_, rfl⟩
  rw [hX2] at F2 ⊢
  refine W_loop (fun (i : Nat) e Y => e 2 = .ptr (some (H.next, 0)) ∧ e 3 = .ptr (some (H.next + 1, 0)) ∧ e 4 = .ptr (some (H.next + 2, 0)) ∧ e 5 = .ptr (some (H.next + 3, 0)) ∧ e 6 = vs ∧ e 7 = .ptr (some (f + 1, 0)) ∧ i ≤ L ∧ e 8 = .int .i64 ((i : Int) - 1) ∧ ∃ s7, s7.cell = true ∧
    Fx H D [.box (f + 1) [s7, .bool false], .own encI 1 vs (rfd L (m / 10 ^ i / n * 10 ^ i)) (some f), .box (H.next + 3) [.slc none 0 0 none, .bool false], .box (H.next + 2) [.slc none 0 0 none, .bool false], .box (H.next + 1) [t, .bool false], .box H.next [s, .bool false]] [.rd encI 1 s7 (rdig (m / 10 ^ i % n)), .rd encI 1 s (rdig m), .rd encI 1 t (rdig n)] Y) id L ?_ ?_
  · have z : m / 10 ^ L = 0 := Nat.div_eq_of_lt mlt
    refine ⟨by simp, by simp, by simp, by simp, by simp, by simp, Nat.le_refl _, by simp, .slc none 0 0 none, rfl, ?_⟩
    rw [z, Nat.zero_div, Nat.zero_mul, Nat.zero_mod, rdig_zero]
    have e0 : rfd L 0 = List.replicate L 0 := by unfold rfd; rw [fd_zero]; simp
    rw [e0]
    exact F2.add (qs := [.rd encI 1 (.slc none 0 0 none) []]) ⟨⟨(Own.nil (by simp)).1, by intro b off sv n c f cs e; simp at e⟩, trivial⟩
  · rintro i e Y ⟨h2, h3, h4, h5, h6, h7, hi, h8, s7, c7, G⟩
    simp [h8]
    refine WB.bool ?_ ?_
    · intro hge
      simp at hge
      obtain ⟨j, rfl⟩ : ∃ j, i = j + 1 := ⟨i - 1, by omega⟩
      have hj : ((j + 1 : Nat) : Int) - 1 = (j : Int) := by omega
      rw [hj] at h8
      have jL : j < L := by omega
      have wj : IntKind.i64.wrap ((j : Int) - 1) = (j : Int) - 1 := wrap_small (by omega) (by omega)
      obtain ⟨d, hd'⟩ : ∃ d, m / 10 ^ j % 10 = d := ⟨_, rfl⟩
      have d10 : d < 10 := by rw [← hd']; exact Nat.mod_lt _ (by decide)
      have stp := div_pow_step m j
      rw [hd'] at stp
      obtain ⟨z, hz⟩ : ∃ z, m / 10 ^ (j + 1) = z := ⟨_, rfl⟩
      rw [hz] at stp G
      obtain ⟨ds1, ds2⟩ := div_step z d n hn0
      obtain ⟨r, hr⟩ : ∃ r, z % n = r := ⟨_, rfl⟩
      have hrn : r < n := by rw [← hr]; exact Nat.mod_lt _ hn0
      rw [hr] at ds1 ds2 G
      obtain ⟨y, hy'⟩ : ∃ y, 10 * r + d = y := ⟨_, rfl⟩
      rw [hy'] at ds1 ds2
      have y10 : y < 10 * n := by omega
      have y9 : y / n < 10 := by rw [Nat.div_lt_iff_lt_mul hn0]; omega
      have lr : (rdig r).length ≤ (rdig n).length := by rw [rdig_len, rdig_len]; exact dig_len_mono (by omega)
      have ly : (rdig y).length ≤ (rdig n).length + 1 := by
        rw [rdig_len, rdig_len]
        have := dig_lt n
        exact dig_len_le (by rw [Nat.pow_succ]; omega)
      have k2 : Box Y H.next H.next _ := G.o.2.2.2.2.2.1
      have k7 : Box Y (f + 1) (f + 1) _ := G.o.1
      have ks := (show Rd _ encI 1 Y s (rdig m) from G.p.2.1)
      have ia : psem (.ia 1) [s, .int .i64 (j : Int)] = some (elt s 1 (j : Int)) := ks.sl.ia (by omega) (by rw [hL]; omega)
      have ld : rsem (.ld 1 false) [elt s 1 (j : Int)] Y = some (.int .i64 (d : Int)) := by rw [ks.sl.ld (by omega) (by rw [hL]; omega), nth_rdig, hd']
      have own1 := G.wf.own_new (enc := encI) (sz := 1) (l := [(d : Int)]) (cs := [.int .i64 (d : Int)]) (cap := some 1) (Cell.len _) (by simp) (by simp) (by simp [AV.cells])
      have own1 : Own encI 1 (Y.new [.int .i64 (d : Int)]) (.slc (some (Y.next, 0)) 1 1 (some 1)) [(d : Int)] (some Y.next) := own1
      have G1 := G.mkO G.wf.new G.wf.keeps_new (.own encI 1 (.slc (some (Y.next, 0)) 1 1 (some 1)) [(d : Int)] (some Y.next)) (by simp) (by simp) own1
      have k71 : Box (Y.new [.int .i64 (d : Int)]) (f + 1) (f + 1) _ := G1.o.2.1
      obtain ⟨v', Y2, f', p1, pc, G2⟩ := G1.appd 0 rfl 8 G1.p.1.sl (by simp) (Cell.all _) (by simp; omega) (by simp; omega)
      have G3 := G2.read
      have kv : Rd _ encI 1 Y2 v' ([(d : Int)] ++ rdig r) := G3.p.1
      have vcs := kv.sl.form.2
      simp only [W_skip, Wk_seq]
      refine W_cut (fun e Y => e 2 = .ptr (some (H.next, 0)) ∧ e 3 = .ptr (some (H.next + 1, 0)) ∧ e 4 = .ptr (some (H.next + 2, 0)) ∧ e 5 = .ptr (some (H.next + 3, 0)) ∧ e 6 = vs ∧ e 7 = .ptr (some (f + 1, 0)) ∧ e 8 = .int .i64 j ∧ ∃ s7, s7.cell = true ∧
        Fx H D [.box (f + 1) [s7, .bool false], .own encI 1 vs (rfd L (m / 10 ^ j / n * 10 ^ j)) (some f), .box (H.next + 3) [.slc none 0 0 none, .bool false], .box (H.next + 2) [.slc none 0 0 none, .bool false], .box (H.next + 1) [t, .bool false], .box H.next [s, .bool false]] [.rd encI 1 s7 (rdig (m / 10 ^ j % n)), .rd encI 1 s (rdig m), .rd encI 1 t (rdig n)] Y) ?_ ?_
      · simp only [W_seq, W_block]
        refine W_floats ?_
        simp only [WT_cons, WT_nil]
        simp [-Wk_seq, h2, h7, h8, k2.at 0 rfl, ia, ld, wsem0_bsl1 (v := .int .i64 (d : Int)) rfl, k71.at 0 rfl, p1, psem_bld', fill, splice, pc, vcs]
        have hl2 : ([(d : Int)] ++ rdig r).length < 2 ^ 40 := by simp; omega
        refine WC.of (c453 Dt.d453 G3.wf G3.dn kv hl2) ?_
        rintro r8 Y3 ⟨fr3, s8, rfl, hs8⟩
        have etr : rtrim ([(d : Int)] ++ rdig r) = rdig y := by rw [← hy']; exact rtrim_cons d10
        rw [etr] at hs8
        have G4 := G3.callR fr3 (qs := [.rd encI 1 s8 (rdig y)]) ⟨hs8, trivial⟩
        obtain ⟨Y4, u4, G5⟩ := G4.stA 0 rfl 2 [s8, .bool false] rfl rfl (by simp [hs8.sl.form.1])
        simp [-Wk_seq, h7, u4]
        simp [-Wk_seq, floatOk, wanted, AV.same_refl, h7, k7.at 0 rfl, k71.at 0 rfl]
        rw [Wk_seq]
        simp only [W_block]
        refine W_loop (fun (w : Nat) e Y => e 2 = .ptr (some (H.next, 0)) ∧ e 3 = .ptr (some (H.next + 1, 0)) ∧ e 4 = .ptr (some (H.next + 2, 0)) ∧ e 5 = .ptr (some (H.next + 3, 0)) ∧ e 6 = vs ∧ e 7 = .ptr (some (f + 1, 0)) ∧ e 8 = .int .i64 j ∧ ∃ k : Nat, w + k = y / n ∧ ∃ s7, s7.cell = true ∧
          Fx H D [.box (f + 1) [s7, .bool false], .own encI 1 vs (rfd L (z / n * 10 ^ (j + 1) + k * 10 ^ j)) (some f), .box (H.next + 3) [.slc none 0 0 none, .bool false], .box (H.next + 2) [.slc none 0 0 none, .bool false], .box (H.next + 1) [t, .bool false], .box H.next [s, .bool false]] [.rd encI 1 s7 (rdig (y - k * n)), .rd encI 1 s (rdig m), .rd encI 1 t (rdig n)] Y) id (y / n) ?_ ?_
        · refine ⟨by simp [h2], by simp [h3], by simp [h4], by simp [h5], by simp [h6], by simp [h7], by simp [h8], 0, by simp, s8, hs8.sl.form.1, ?_⟩
          rw [Nat.zero_mul, Nat.add_zero, Nat.zero_mul, Nat.sub_zero]
          exact G5.pbs ⟨G5.p.1, G5.p.2.2.2.1, G5.p.2.2.2.2.1, trivial⟩
        · rintro w e Y ⟨h2, h3, h4, h5, h6, h7, h8, k, hk, s7, c7, K⟩
          have q7 : Box Y (f + 1) (f + 1) _ := K.o.1
          have q3 : Box Y (H.next + 1) (H.next + 1) _ := K.o.2.2.2.2.1
          have hkn : k * n ≤ y := Nat.le_trans (Nat.mul_le_mul_right n (show k ≤ y / n by omega)) (Nat.div_mul_le_self y n)
          have lyk : (rdig (y - k * n)).length ≤ (rdig n).length + 1 := by
            refine Nat.le_trans ?_ ly
            rw [rdig_len, rdig_len]; exact dig_len_mono (Nat.sub_le _ _)
          have nv1 : NV (fams D [.box (f + 1) [s7, .bool false], .own encI 1 vs (rfd L (z / n * 10 ^ (j + 1) + k * 10 ^ j)) (some f), .box (H.next + 3) [.slc none 0 0 none, .bool false], .box (H.next + 2) [.slc none 0 0 none, .bool false], .box (H.next + 1) [t, .bool false], .box H.next [s, .bool false]]) Y (.agg [s7, .bool false]) ((y - k * n : Nat) : Int) := ⟨s7, by rw [bel_nat], by rw [Int.natAbs_natCast]; exact K.p.1⟩
          have nv2 : NV (fams D [.box (f + 1) [s7, .bool false], .own encI 1 vs (rfd L (z / n * 10 ^ (j + 1) + k * 10 ^ j)) (some f), .box (H.next + 3) [.slc none 0 0 none, .bool false], .box (H.next + 2) [.slc none 0 0 none, .bool false], .box (H.next + 1) [t, .bool false], .box H.next [s, .bool false]]) Y (.agg [t, .bool false]) ((n : Nat) : Int) := ⟨t, by rw [bel_nat], by rw [Int.natAbs_natCast]; exact K.p.2.2.1⟩
          simp [h3, h7, q7.all 2 rfl, q3.all 2 rfl]
          refine WC.of (c475 Dt.d475 K.wf K.dn nv1 nv2 (by rw [Int.natAbs_natCast]; omega) (by rw [Int.natAbs_natCast]; omega)) ?_
          rintro r Y1 ⟨fr1, rfl⟩
          rw [Int.natAbs_natCast, Int.natAbs_natCast]
          have K1 := K.call fr1
          have nv1' := (K.add (qs := [.nv (.agg [s7, .bool false]) ((y - k * n : Nat) : Int), .nv (.agg [t, .bool false]) ((n : Nat) : Int)]) ⟨nv1, nv2, trivial⟩).call fr1
          have q71 : Box Y1 (f + 1) (f + 1) _ := K1.o.1
          have q31 : Box Y1 (H.next + 1) (H.next + 1) _ := K1.o.2.2.2.2.1
          by_cases hlt2 : y - k * n < n
          · have hc : ¬ 0 ≤ cmpZ ((y - k * n : Nat) : Int) n := by
              have := cmpZ_lt.2 (show ((y - k * n : Nat) : Int) < n by omega)
              omega
            have hkq : k = y / n := by
              have h1 := Nat.div_add_mod y n
              have h2 : y < (k + 1) * n := by rw [Nat.add_mul, Nat.one_mul]; omega
              have h3 := Nat.div_lt_of_lt_mul (show y < n * (k + 1) by rw [Nat.mul_comm]; exact h2)
              omega
            have hrem : y - k * n = y % n := by
              have h1 := Nat.div_add_mod y n
              rw [hkq, Nat.mul_comm]
              omega
            have e1 : m / 10 ^ j % n = y - k * n := by rw [hrem, stp, ds2]
            have e2 : m / 10 ^ j / n * 10 ^ j = z / n * 10 ^ (j + 1) + k * 10 ^ j := by
              rw [stp, ds1, hkq, Nat.pow_succ, Nat.add_mul]
              congr 1
              rw [Nat.mul_comm 10, Nat.mul_assoc, Nat.mul_comm 10]
            simp [hc]
            rw [e1, e2]
            exact ⟨h2, h3, h4, h5, h6, h7, h8, s7, c7, K1⟩
          · have hc : 0 ≤ cmpZ ((y - k * n : Nat) : Int) n := by
              apply Classical.byContradiction
              intro hneg
              have := cmpZ_lt.1 (show cmpZ ((y - k * n : Nat) : Int) n < 0 by omega)
              omega
            have hk2 : k + 1 ≤ y / n := by
              rw [Nat.le_div_iff_mul_le hn0, Nat.add_mul, Nat.one_mul]
              omega
            simp [hc, h3, h7, q71.all 2 rfl, q31.all 2 rfl]
            refine WC.of (c476 Dt.d476 nv1'.wf nv1'.dn nv1'.p.1 nv1'.p.2.1 (by rw [Int.natAbs_natCast]; omega) (by rw [Int.natAbs_natCast]; omega)) ?_
            rintro r9 Y2 ⟨fr2, h9⟩
            have ek : ((y - k * n : Nat) : Int) - n = ((y - (k + 1) * n : Nat) : Int) := by
              rw [Nat.add_mul, Nat.one_mul]; omega
            obtain ⟨s9, rfl, c9, hs9⟩ := (h9.to ek).box
            rw [Int.natAbs_natCast] at hs9
            rw [bel_nat]
            have K2 := K1.callR fr2 (qs := [.rd encI 1 s9 _]) ⟨hs9, trivial⟩
            obtain ⟨Y3, u3, K3⟩ := K2.stA 0 rfl 2 [s9, .bool false] rfl rfl (by simp [c9])
            have hown : Own encI 1 Y3 vs (rfd L (z / n * 10 ^ (j + 1) + k * 10 ^ j)) (some f) := K3.o.2.1
            have gk : nth (rfd L (z / n * 10 ^ (j + 1) + k * 10 ^ j)) (j : Int) = (k : Int) := by
              rw [nth_rfd jL]
              have : z / n * 10 ^ (j + 1) + k * 10 ^ j = (z / n * 10 + k) * 10 ^ j := by rw [Nat.pow_succ, Nat.add_mul, Nat.mul_assoc, Nat.mul_comm 10]
              rw [this, Nat.mul_div_cancel _ (Nat.pow_pos (by decide))]
              omega
            have iaq : psem (.ia 1) [vs, .int .i64 (j : Int)] = some (elt vs 1 (j : Int)) := hown.1.ia (by omega) (by rw [rfd_len]; omega)
            have ldq : rsem (.ld 1 false) [elt vs 1 (j : Int)] Y3 = some (.int .i64 (k : Int)) := by rw [hown.1.ld (by omega) (by rw [rfd_len]; omega), gk]
            have wk : IntKind.i64.wrap ((k : Int) + 1) = ((k + 1 : Nat) : Int) := by rw [wrap_small (by omega) (by omega)]; omega
            obtain ⟨Y4, t1, t2, t3, t4, t5⟩ := hown.st1 K3.wf (i := (j : Int)) (by omega) (by rw [rfd_len]; omega) ((k + 1 : Nat) : Int)
            rw [Int.toNat_natCast, rfd_put jL (by omega) (by omega)] at t3
            have K4 := K3.at 1 rfl (.own encI 1 vs (rfd L (z / n * 10 ^ (j + 1) + (k + 1) * 10 ^ j)) (some f)) rfl t2 (t4.mono fun g hg => by simpa using hg.symm) t3
            simp [-Int.natCast_add, h6, h7, h8, u3, iaq, ldq, wk, t1]
            exact ⟨w - 1, by omega, h2, h3, h4, h5, k + 1, by omega, s9, c9, K4.pbs ⟨K4.p.1, K4.p.2.2.1, K4.p.2.2.2.1, trivial⟩⟩
      · rintro e Y ⟨h2, h3, h4, h5, h6, h7, h8, s7, c7, K⟩
        simp [h2, h3, h4, h5, h6, h7, h8, wj]
        exact ⟨j, by omega, by omega, rfl, s7, c7, K⟩
    · intro hlt
      simp at hlt
      have : i = 0 := by omega
      subst this
      rw [Nat.pow_zero, Nat.div_one, Nat.mul_one] at G
      have hown : Own encI 1 Y vs (rfd L (m / n)) (some f) := G.o.2.1
      have k7 : Box Y (f + 1) (f + 1) _ := G.o.1
      -- the quotient is only read from now on
      have G1 : Fx H D [.box (f + 1) [s7, .bool false], .box (H.next + 3) [.slc none 0 0 none, .bool false], .box (H.next + 2) [.slc none 0 0 none, .bool false], .box (H.next + 1) [t, .bool false], .box H.next [s, .bool false]] [.rd encI 1 vs (rfd L (m / n)), .rd encI 1 s7 (rdig (m % n)), .rd encI 1 s (rdig m), .rd encI 1 t (rdig n)] Y := by
        have G2 := G.sub (os' := [.box (f + 1) [s7, .bool false], .box (H.next + 3) [.slc none 0 0 none, .bool false], .box (H.next + 2) [.slc none 0 0 none, .bool false], .box (H.next + 1) [t, .bool false], .box H.next [s, .bool false]]) (List.Sublist.cons_cons _ (List.sublist_cons_self _ _)) ⟨G.o.1, G.o.2.2⟩
        refine G2.add (qs := [.rd encI 1 vs (rfd L (m / n))]) ⟨⟨hown.1, ?_⟩, trivial⟩
        intro b off sv n' c g cs e hr hg
        subst e
        obtain ⟨g', cs', q1, q2, _⟩ := hown.2
        rw [hr] at q1
        cases q1
        cases q2
        rcases hg with hg | hg
        · have a1 := G.dlt _ hg
          have a2 := G.lo f (by simp)
          omega
        · have nd := G.nd
          simp at nd hg
          omega
      have kv : Rd _ encI 1 Y vs (rfd L (m / n)) := G1.p.1
      have vform := kv.sl.form
      simp
      refine W_floats ?_
      simp only [WT_cons, WT_nil]
      simp [h6, psem_bld', fill, splice, vform.1, vform.2]
      refine WC.of (c453 Dt.d453 G1.wf G1.dn kv (by rw [rfd_len]; omega)) ?_
      rintro r Y1 ⟨fr1, s8, rfl, hs8⟩
      have hlt : m / n < 10 ^ L := Nat.lt_of_le_of_lt (Nat.div_le_self _ _) mlt
      rw [rtrim_rfd hlt] at hs8
      have G2 := G1.callR fr1 (qs := [.rd encI 1 s8 _]) ⟨hs8, trivial⟩
      have k71 : Box Y1 (f + 1) (f + 1) _ := G2.o.1
      obtain ⟨Y2, u2, G3⟩ := G2.stA 2 rfl 2 [s8, .bool false] rfl rfl (by simp [hs8.sl.form.1])
      obtain ⟨Y3, u3, G4⟩ := G3.stA 1 rfl 2 [s7, .bool false] rfl rfl (by simp [c7])
      have k72 : Box Y2 (f + 1) (f + 1) _ := G3.o.1
      have B4 : Box Y3 (H.next + 2) (H.next + 2) _ := G4.o.2.2.1
      have B5 : Box Y3 (H.next + 3) (H.next + 3) _ := G4.o.2.1
      simp [h4, h5, h7, k71.all 2 rfl, u2, u3]
      simp [floatOk, wanted, AV.same_refl, h7, k7.all 2 rfl, k71.all 2 rfl, k72.all 2 rfl, h4, h5, ares_cellA (hb := B4), ares_cellA (hb := B5)]
      have n1 : NV D Y3 (.agg [s8, .bool false]) ((m / n : Nat) : Int) := ⟨s8, by rw [bel_nat], by rw [Int.natAbs_natCast]; exact G4.end.2.1⟩
      have n2 : NV D Y3 (.agg [s7, .bool false]) ((m % n : Nat) : Int) := ⟨s7, by rw [bel_nat], by rw [Int.natAbs_natCast]; exact G4.end.2.2.2.1⟩
      exact ⟨G4.end.1, _, _, ⟨rfl, rfl⟩, by simpa using n1, by simpa using n2⟩
end Go.Am

/- Contracts of the reference: Add, Sub, Mul, Div, Compare, Digits, Int, Pow, Prime. -/
set_option linter.unusedVariables false
set_option linter.unusedSimpArgs false
namespace Go.Am
variable {T : Tab}
theorem errS_some2 {a b : List UInt8} (h : errS [a, b] = 0) : (readS a).isSome = true ∧ (readS b).isSome = true := by
  obtain ⟨_, h2⟩ := errS_ok h
  obtain ⟨z, hz⟩ := h2 a (by simp)
  obtain ⟨w, hw⟩ := h2 b (by simp)
  rw [hz, hw]; exact ⟨rfl, rfl⟩
/-- The only text of 0. -/
theorem rdS_zero {s : List UInt8} (h : (readS s).isSome = true) : rdS s = 0 ↔ s = [48] := by
  constructor
  · intro h0
    obtain ⟨z, hz⟩ := Option.isSome_iff_exists.1 h
    have ez : rdS s = z := by unfold rdS; rw [hz]; rfl
    rw [ez] at h0
    subst h0
    unfold readS at hz
    have hs : s = (if (cutP s [45]).2 then [45] else []) ++ (cutP s [45]).1 := by
      unfold cutP
      split
      · rename_i h
        simp only [List.length_singleton] at h ⊢
        conv => lhs; rw [← List.take_append_drop 1 s, h]
        rfl
      · rfl
    obtain ⟨d, hd⟩ : ∃ d, (cutP s [45]).1 = d := ⟨_, rfl⟩
    obtain ⟨neg, hneg⟩ : ∃ neg, (cutP s [45]).2 = neg := ⟨_, rfl⟩
    rw [hd, hneg] at hz hs
    unfold readD at hz
    split at hz
    · rename_i h1
      rw [hs, h1.1, h1.2]; rfl
    · split at hz
      · cases hz
      · rename_i hn
        simp only [not_or, Bool.not_eq_false] at hn
        obtain ⟨b1, b2, b3, b4⟩ := hn
        have := (dig_dl b1 b2 b4).1
        have h2 : sgn neg (valS d) = 0 := by simpa using hz
        have h3 := sgn_abs neg (valS d)
        rw [h2] at h3
        exact absurd h3.symm this
  · rintro rfl; rfl
/-- Two texts are looked at, and read. -/
theorem two_read (Dc : D447 T) (Dr : D448 T) {H : AHeap} (hw : WF H) {a b : List UInt8} (ha : a.length < 2 ^ 40) (hb : b.length < 2 ^ 40) :
    wsem0 (.bsl 1 2 [.str [], .str []] [(0, 1), (1, 1)]) [.str a, .str b] H = some (.slc (some (H.next, 0)) 1 2 (some 2), H.new [.str a, .str b]) ∧
    Calls T 447 [.slc (some (H.next, 0)) 1 2 (some 2)] (H.new [.str a, .str b]) (fun r X => X = H.new [.str a, .str b] ∧ r = .int .i64 (errS [a, b])) ∧
    Fx H (fun _ => False) [] [] (H.new [.str a, .str b]) :=
  ⟨(slS2 hw a b).1, c447 Dc (slS2 hw a b).2 (by simp) (by simp; exact ⟨ha, hb⟩), (Fx.start hw (D := fun _ => False) (fun _ h => h.elim) (ps := []) trivial).call hw.fr_new⟩
end Go.Am

/- Contracts of the reference: Gcd. -/
set_option linter.unusedVariables false
set_option linter.unusedSimpArgs false
namespace Go.Am
variable {T : Tab}
abbrev rdI (s : AV) (z : Int) : Pb := .rd encI 1 s (rdig z.natAbs)
end Go.Am

/- Contracts of the reference: Fraction. -/
set_option linter.unusedVariables false
set_option linter.unusedSimpArgs false
namespace Go.Am
variable {T : Tab}
theorem rfd_ten (L m : Nat) : ∀ p : Nat, rfd (L + p) (m * 10 ^ p) = List.replicate p 0 ++ rfd L m
  | 0 => by simp
  | p + 1 => by
    have e : m * 10 ^ (p + 1) = (m * 10 ^ p) * 10 := by rw [Nat.pow_succ, Nat.mul_assoc]
    rw [show L + (p + 1) = (L + p) + 1 from rfl, e, rfd_cons, Nat.mul_mod_left, Nat.mul_div_cancel _ (by decide), rfd_ten L m p]
    rfl
theorem rtrim_up (m p : Nat) : rtrim (List.replicate p 0 ++ rdig m) = rdig (m * 10 ^ p) := by
  have h := rdig_rfd m
  rw [h, ← rfd_ten, rtrim_rfd]
  rw [Nat.pow_add]
  exact Nat.mul_lt_mul_of_pos_right (rdig_lt m) (Nat.pow_pos (by decide))
theorem len_ten {m a : Nat} (k : Nat) (h : (dig m).length ≤ a) : (dig (m * 10 ^ k)).length ≤ a + k := by
  refine dig_len_le ?_
  rw [Nat.pow_add]
  exact Nat.mul_lt_mul_of_pos_right (dig_len_iff.1 h) (Nat.pow_pos (by decide))
theorem len_half {n Y a : Nat} (h : (dig n).length ≤ a) (h2 : (dig Y).length ≤ a) : (dig (n * 2 + Y)).length ≤ a + 2 := by
  have h3 := dig_len_iff.1 h
  have h4 := dig_len_iff.1 h2
  refine dig_len_le ?_
  rw [Nat.pow_add]
  have h5 : ∀ E, n < E → Y < E → n * 2 + Y < E * 10 ^ 2 := fun E h h' => by omega
  exact h5 _ h3 h4
theorem c413 (Dt : D413 T) {H : AHeap} (hw : WF H) {a b : List UInt8} {p : Int} (ha : a.length < 2 ^ 40) (hb : b.length < 2 ^ 40) :
    Calls T 413 [.str a, .str b, .int .i64 p] H fun r H' => Fr H H' ∧ r = .tup [.str (fracS a b p).2, .int .i64 (fracS a b p).1] := by
  refine Calls.fn Dt.pr Dt.fn ?_
  obtain ⟨s1, hc, F⟩ := two_read Dt.d447 Dt.d448 hw ha hb
  simp [ir413, s1]
  refine WC.of hc ?_
  rintro r X ⟨rfl, rfl⟩
  unfold fracS
  by_cases e : errS [a, b] = 0
  · obtain ⟨o1, o2⟩ := errS_some2 e
    have hz := rdS_zero o2
    rw [if_pos e]
    by_cases h0 : rdS b = 0
    · have hb48 := hz.1 h0
      rw [if_pos (.inl h0)]
      subst hb48
      simp [e]
      exact F.fr
    · have hb48 : ¬ b = [48] := fun h => h0 (hz.2 h)
      by_cases hb2 : p < 0 ∨ 200 < p
      · rw [if_pos (.inr hb2)]
        by_cases h1 : p < 0
        · simp [e, hb48, h1]
          exact F.fr
        · have h2 : 200 < p := hb2.resolve_left h1
          simp [e, hb48, h1, h2]
          exact F.fr
      · have h1 : ¬ p < 0 := fun h => hb2 (.inl h)
        have h2 : ¬ 200 < p := fun h => hb2 (.inr h)
        rw [if_neg (fun h => h.elim h0 fun h => h.elim h1 h2)]
        obtain ⟨k, rfl⟩ : ∃ k : Nat, p = k := ⟨p.toNat, by omega⟩
        rw [Int.toNat_natCast]
        simp [e, hb48, h1, h2]
        refine WC.of (c448 Dt.d448 F.wf F.dn o1) ?_
        rintro r1 X1 ⟨fr1, hr1⟩
        obtain ⟨sa, rfl, ca, hsa⟩ := hr1.box
        have F1 := F.callR fr1 (qs := [rdI sa _]) ⟨hsa, trivial⟩
        simp
        refine WC.of (c448 Dt.d448 F1.wf F1.dn o2) ?_
        rintro r2 X2 ⟨fr2, hr2⟩
        obtain ⟨sb, rfl, cb, hsb⟩ := hr2.box
        have lA := rdS_len a
        have lB := rdS_len b
        obtain ⟨x, hx⟩ : ∃ x, rdS a = x := ⟨_, rfl⟩
        obtain ⟨y, hy⟩ : ∃ y, rdS b = y := ⟨_, rfl⟩
        have F2 := ((F1.callR fr2 (qs := [rdI sb _]) ⟨hsb, trivial⟩).bx X2.next [.slc none 0 0 none, .bool false]).bx (X2.next + 1) [.slc none 0 0 none, .bool false]
        rw [hx] at lA F2
        rw [hy] at lB F2 h0
        rw [hx, hy]
        obtain ⟨X3, t3, F3⟩ := F2.stA 1 rfl 2 [sa, .bool (bel x)] rfl rfl (by simp [ca])
        obtain ⟨X4, t4, F4⟩ := F3.stA 0 rfl 2 [sb, .bool (bel y)] rfl rfl (by simp [cb])
        obtain ⟨n9, hn9⟩ : ∃ n9, X2.next = n9 := ⟨_, rfl⟩
        rw [hn9] at t3 t4 F4
        have a9 : Box X4 n9 n9 _ := F4.o.2.1
        have a10 : Box X4 (n9 + 1) (n9 + 1) _ := F4.o.1
        simp [new_next, hn9, t3, t4, a9.at 1 rfl, a10.at 1 rfl]
        -- the number with its places
        refine W_floats ?_
        simp only [WT_cons, WT_nil]
        simp [a9.all 2 rfl]
        refine WC.of (c449 Dt.d449 F4.wf F4.dn (x := x) ⟨sa, rfl, F4.p.2.1⟩) ?_
        rintro r5 X5 ⟨fr5, hr5⟩
        obtain ⟨s5, rfl, c5, hs5⟩ := hr5.box
        rw [Int.natAbs_natCast] at hs5
        obtain ⟨m, hm⟩ : ∃ m, x.natAbs = m := ⟨_, rfl⟩
        rw [hm] at hs5 lA
        have F5 := F4.callR fr5 (qs := [.rd encI 1 s5 (rdig m)]) ⟨hs5, trivial⟩
        have b9 : Box X5 n9 n9 _ := F5.o.2.1
        obtain ⟨mk1, mk2⟩ := mk0 F5.wf (n := k) (by omega)
        have F6 := F5.mkO F5.wf.new F5.wf.keeps_new (.own encI 1 (.slc (some (X5.next, 0)) 1 k (some k)) (List.replicate k 0) (some X5.next)) (by simp) (by simp) mk2
        have d9 : Box _ n9 n9 _ := F6.o.2.2.1
        obtain ⟨v', X6, f', p1, pc, F7⟩ := F6.appd 0 rfl 8 (x := s5) (ys := rdig m) F6.p.1.sl (by simp) (by simp) (by rw [rdig_len]; simp; omega) (by rw [rdig_len]; simp; omega)
        have F8 := F7.read
        have g9 : Box X6 n9 n9 _ := F8.o.2.1
        have vform := (show Rd _ encI 1 X6 v' _ from F8.p.1).sl.form
        have F9 := F8.bx X6.next [.slc none 0 0 none, .bool false]
        have i9 : Box _ n9 n9 _ := F9.o.2.2.1
        obtain ⟨X7, t7, F10⟩ := F9.stA 0 rfl 2 [v', .bool false] rfl rfl (by simp [pc])
        simp [bel_nat, mk1, p1, psem_bld', fill, splice, vform.1, vform.2, t7]
        simp [floatOk, wanted, AV.same_refl, a9.all 2 rfl, b9.all 2 rfl, d9.all 2 rfl, g9.all 2 rfl, i9.all 2 rfl]
        obtain ⟨n12, hn12⟩ : ∃ n, X6.next = n := ⟨_, rfl⟩
        rw [hn12] at F10 ⊢
        obtain ⟨Y, hY⟩ : ∃ Y, y.natAbs = Y := ⟨_, rfl⟩
        have hY0 : 0 < Y := by omega
        rw [hY] at lB ⊢
        obtain ⟨n, hn⟩ : ∃ n, m * 10 ^ k = n := ⟨_, rfl⟩
        rw [hm, hn]
        have hup := rtrim_up m k
        rw [hn] at hup
        have ln : (rdig n).length ≤ 400 + k := by
          rw [rdig_len, ← hn]
          exact len_ten k lA
        have lY : (rdig Y).length ≤ 400 := by rw [rdig_len]; exact lB
        have two : (rdig (2 : Int).natAbs).length ≤ 1 := by rw [rdig_len]; exact dig_small (by decide)
        have K0 := F10.pbs (qs := [.rd encI 1 v' (List.replicate k 0 ++ rdig m), rdI sb y]) ⟨F10.p.1, F10.p.2.2.1, trivial⟩
        have u0 : Box X7 n12 n12 _ := K0.o.1
        have v0 : Box X7 (n9 + 1) (n9 + 1) _ := K0.o.2.1
        refine W_floats ?_
        simp only [WT_cons, WT_nil]
        simp [u0.all 2 rfl]
        refine WC.of (c453 Dt.d453 K0.wf K0.dn K0.p.1 (by rw [List.length_append, List.length_replicate, rdig_len]; omega)) ?_
        rintro r1 Z1 ⟨z1, t1, rfl, ht1⟩
        rw [hup] at ht1
        have K1 := K0.callR z1 (qs := [.rd encI 1 t1 (rdig n)]) ⟨ht1, trivial⟩
        have u1 : Box Z1 n12 n12 _ := K1.o.1
        have v1 : Box Z1 (n9 + 1) (n9 + 1) _ := K1.o.2.1
        simp
        refine WC.of (c454 Dt.d454 K1.wf K1.dn (n := 2) (by decide)) ?_
        rintro r2 Z2 ⟨z2, ht2⟩
        have K2 := K1.callR z2 (qs := [.nv r2 _]) ⟨ht2, trivial⟩
        have u2 : Box Z2 n12 n12 _ := K2.o.1
        have v2 : Box Z2 (n9 + 1) (n9 + 1) _ := K2.o.2.1
        simp
        refine WC.of (c452 Dt.d452 K2.wf K2.dn (x := (n : Int)) (y := 2) ⟨t1, by rw [bel_nat], by rw [Int.natAbs_natCast]; exact K2.p.2.1⟩ K2.p.1 (by rw [Int.natAbs_natCast]; omega) (by omega)) ?_
        rintro r3 Z3 ⟨z3, ht3⟩
        have K3 := K2.callR z3 (qs := [.nv r3 ((n * 2 : Nat) : Int)]) ⟨ht3.to (by omega), trivial⟩
        have u3 : Box Z3 n12 n12 _ := K3.o.1
        have v3 : Box Z3 (n9 + 1) (n9 + 1) _ := K3.o.2.1
        have l3 : (rdig ((n * 2 : Nat) : Int).natAbs).length ≤ 400 + k + 1 := by
          rw [Int.natAbs_natCast, rdig_len]
          rw [rdig_len] at ln
          exact mul_len ln (k := 1) (dig_small (by decide))
        simp [v3.all 2 rfl]
        refine WC.of (c449 Dt.d449 K3.wf K3.dn (x := y) ⟨sb, rfl, K3.p.2.2.2.2.1⟩) ?_
        rintro r4 Z4 ⟨z4, ht4⟩
        rw [hY] at ht4
        have K4 := K3.callR z4 (qs := [.nv r4 (Y : Int)]) ⟨ht4, trivial⟩
        have u4 : Box Z4 n12 n12 _ := K4.o.1
        have v4 : Box Z4 (n9 + 1) (n9 + 1) _ := K4.o.2.1
        simp
        refine WC.of (c451 Dt.d451 K4.wf K4.dn (x := ((n * 2 : Nat) : Int)) (y := (Y : Int)) K4.p.2.1 K4.p.1 (by omega) (by rw [Int.natAbs_natCast]; omega)) ?_
        rintro r5 Z5 ⟨z5, ht5⟩
        have K5 := K4.callR z5 (qs := [.nv r5 ((n * 2 + Y : Nat) : Int)]) ⟨ht5.to (by omega), trivial⟩
        have u5 : Box Z5 n12 n12 _ := K5.o.1
        have v5 : Box Z5 (n9 + 1) (n9 + 1) _ := K5.o.2.1
        simp [v5.all 2 rfl]
        refine WC.of (c449 Dt.d449 K5.wf K5.dn (x := y) ⟨sb, rfl, K5.p.2.2.2.2.2.2.1⟩) ?_
        rintro r6 Z6 ⟨z6, ht6⟩
        rw [hY] at ht6
        have K6 := K5.callR z6 (qs := [.nv r6 (Y : Int)]) ⟨ht6, trivial⟩
        have u6 : Box Z6 n12 n12 _ := K6.o.1
        have v6 : Box Z6 (n9 + 1) (n9 + 1) _ := K6.o.2.1
        simp
        refine WC.of (c454 Dt.d454 K6.wf K6.dn (n := 2) (by decide)) ?_
        rintro r7 Z7 ⟨z7, ht7⟩
        have K7 := K6.callR z7 (qs := [.nv r7 _]) ⟨ht7, trivial⟩
        have u7 : Box Z7 n12 n12 _ := K7.o.1
        have v7 : Box Z7 (n9 + 1) (n9 + 1) _ := K7.o.2.1
        simp
        refine WC.of (c452 Dt.d452 K7.wf K7.dn (x := (Y : Int)) (y := 2) K7.p.2.1 K7.p.1 (by rw [Int.natAbs_natCast]; omega) (by omega)) ?_
        rintro r8 Z8 ⟨z8, ht8⟩
        have K8 := K7.callR z8 (qs := [.nv r8 ((Y * 2 : Nat) : Int)]) ⟨ht8.to (by omega), trivial⟩
        have u8 : Box Z8 n12 n12 _ := K8.o.1
        have v8 : Box Z8 (n9 + 1) (n9 + 1) _ := K8.o.2.1
        have l8 : (rdig (Y * 2)).length ≤ 402 := by
          rw [rdig_len]
          rw [rdig_len] at lY
          exact Nat.le_trans (mul_len lY (k := 1) (dig_small (by decide))) (by decide)
        have l9 : (rdig (n * 2 + Y)).length ≤ 400 + k + 2 := by
          rw [rdig_len]
          exact len_half (by rw [← rdig_len]; exact ln) (by omega)
        simp
        refine WC.of (c450 Dt.d450 K8.wf K8.dn (m := n * 2 + Y) (n := Y * 2) K8.p.2.2.2.1 K8.p.1 (by omega) (by omega) (by omega)) ?_
        rintro r9 Z9 ⟨z9, qv, wv, rfl, hq, hw'⟩
        rw [fracN_half hY0] at hq
        obtain ⟨rm, hrm⟩ : ∃ rm : Int, (((n * 2 + Y) % (Y * 2) : Nat) : Int) = rm := ⟨_, rfl⟩
        rw [hrm] at hw'
        obtain ⟨Q, hQ⟩ : ∃ Q, fracN n Y = Q := ⟨_, rfl⟩
        rw [hQ] at hq ⊢
        have lQ : (rdig Q).length ≤ 400 + k := by
          rw [rdig_len]
          rw [rdig_len] at ln
          exact Nat.le_trans (dig_len_mono (by rw [← hQ]; exact fracN_le hY0)) ln
        obtain ⟨sq, rfl, csq, hsq⟩ := hq.box
        obtain ⟨sw, rfl, csw, hsw⟩ := hw'.box
        rw [Int.natAbs_natCast] at hsq
        have K9 := K8.callR z9 (qs := [.rd encI 1 sq (rdig Q)]) ⟨hsq, trivial⟩
        have K10 := K9.bx Z9.next [.slc none 0 0 none, .bool false]
        have K11 := K10.bx (Z9.next + 1) [.slc none 0 0 none, .bool false]
        have u9 : Box Z9 n12 n12 _ := K9.o.1
        have v9 : Box Z9 (n9 + 1) (n9 + 1) _ := K9.o.2.1
        have u10 : Box _ n12 n12 _ := K10.o.2.1
        have v10 : Box _ (n9 + 1) (n9 + 1) _ := K10.o.2.2.1
        have u11 : Box _ n12 n12 _ := K11.o.2.2.1
        have v11 : Box _ (n9 + 1) (n9 + 1) _ := K11.o.2.2.2.1
        obtain ⟨W1, x1, K12⟩ := K11.stA 1 rfl 2 [sq, .bool (bel (Q : Int))] rfl rfl (by simp [csq])
        obtain ⟨W2, x2, K13⟩ := K12.stA 0 rfl 2 [sw, .bool (bel rm)] rfl rfl (by simp [csw])
        simp [new_next, x1, x2]
        simp [floatOk, wanted, AV.same_refl, u0.all 2 rfl, v0.all 2 rfl, u1.all 2 rfl, v1.all 2 rfl, u2.all 2 rfl, v2.all 2 rfl, u3.all 2 rfl, v3.all 2 rfl, u4.all 2 rfl, v4.all 2 rfl, u5.all 2 rfl, v5.all 2 rfl, u6.all 2 rfl, v6.all 2 rfl, u7.all 2 rfl, v7.all 2 rfl, u8.all 2 rfl, v8.all 2 rfl, u9.all 2 rfl, v9.all 2 rfl, u10.all 2 rfl, v10.all 2 rfl, u11.all 2 rfl, v11.all 2 rfl]
        obtain ⟨n13, hn13⟩ : ∃ n, Z9.next = n := ⟨_, rfl⟩
        rw [hn13] at K13 ⊢
        rw [bel_nat] at K13
        obtain ⟨LQ, hLQ⟩ : ∃ LQ, (rdig Q).length = LQ := ⟨_, rfl⟩
        have K14 := K13.pbs (qs := [.rd encI 1 sq (rdig Q)]) ⟨K13.p.1, trivial⟩
        have k13 : Box W2 n13 n13 [sq, .bool false] := K14.o.2.1
        have ls : psem .len [sq] = some (.int .i64 LQ) := by rw [← hLQ]; exact hsq.sl.len
        have w4 : IntKind.i64.wrap (400 + (k : Int)) = 400 + (k : Int) := wrap_small (by omega) (by omega)
        have nlt : ¬ 400 + (k : Int) < (LQ : Int) := by omega
        obtain ⟨ng, hng⟩ : ∃ ng, (bel x != bel y) = ng := ⟨_, rfl⟩
        have hng' : (!(bel x == bel y)) = ng := hng
        obtain ⟨neg, hneg⟩ : ∃ neg, (ng && decide (0 < LQ)) = neg := ⟨_, rfl⟩
        obtain ⟨W3, x3, K15⟩ := K14.st1 1 rfl 1 (.bool neg) (by simp) (by simp)
        have K16 : Fx H (fun _ => False) [.box n13 [sq, .bool neg]] [.rd encI 1 sq (rdig Q)] W3 := K15.sub (.cons _ (.cons_cons _ (List.nil_sublist _))) ⟨K15.o.2.1, trivial⟩
        have q13 : Box W3 n13 n13 [sq, .bool neg] := K16.o.1
        have hQ0 : LQ = 0 ↔ Q = 0 := by rw [← hLQ]; exact rdig_len0
        have hbz : bel (sgn neg Q) = neg := by
          unfold sgn bel
          cases neg with
          | false => simp
          | true =>
            have : 0 < LQ := by simp at hneg; exact hneg.2
            have : Q ≠ 0 := fun h => by have := hQ0.2 h; omega
            simp; omega
        rw [hng]
        simp [-Wk_seq, k13.at 0 rfl, ls, w4, nlt, hng']
        rw [Wk_seq]
        simp [-Wk_seq]
        rw [Wk_seq]
        refine W_cut (fun e W => W = W3 ∧ e 2 = .int .i64 k ∧ e 13 = .ptr (some (n13, 0))) ?_ ?_
        · cases ng with
          | false =>
            have : neg = false := by rw [← hneg]; rfl
            subst this
            simp [hng', hn13, x3]
          | true =>
            have h3 : (decide (0 < LQ)) = neg := by rw [← hneg]; rfl
            rw [← h3] at x3
            simp [hng', hn13, k13.at 0 rfl, ls, x3]
        · rintro e W ⟨rfl, h2, h13⟩
          simp [h13, q13.all 2 rfl]
          refine WC.of (c449 Dt.d449 K16.wf K16.dn (x := sgn neg Q) ⟨sq, by rw [hbz], by rw [sgn_abs]; exact K16.p.1⟩) ?_
          rintro r1 V1 ⟨z1, hv1⟩
          rw [sgn_abs] at hv1
          have J1 := K16.callR z1 (qs := [.nv r1 (Q : Int)]) ⟨hv1, trivial⟩
          simp
          refine WC.of (c455 Dt.d455 J1.wf J1.dn (z := (Q : Int)) J1.p.1 (by rw [Int.natAbs_natCast]; omega)) ?_
          rintro r2 V2 ⟨z2, rfl⟩
          have J2 := J1.call z2
          have q13' : Box V2 n13 n13 [sq, .bool neg] := J2.o.1
          have lS : (showS (Q : Int)).length ≤ 700 := by
            rw [showS_nat]
            split
            · simp
            · rw [List.length_map, ← rdig_len]; omega
          have hpad := pad_show k Q
          have hfl := fracD_len k Q
          obtain ⟨S, hS⟩ : ∃ S, showS (Q : Int) = S := ⟨_, rfl⟩
          rw [hS] at lS hpad ⊢
          simp
          refine W_loop (fun (w : Nat) e W => W = V2 ∧ e 2 = .int .i64 k ∧ e 13 = .ptr (some (n13, 0)) ∧ ∃ j : Nat, j ≤ k + 1 - S.length ∧ w = k + 1 - S.length - j ∧ e 15 = .str (List.replicate j 48 ++ S)) id (k + 1 - S.length) ?_ ?_
          · exact ⟨by simp, by simp [h2], by simp [h13], 0, by simp, by simp, by simp⟩
          · rintro w e W ⟨rfl, h2, h13, j, hj, hw2, h15⟩
            have lj : (List.replicate j (48 : UInt8) ++ S).length = j + S.length := by simp
            obtain ⟨B, hB⟩ : ∃ B, List.replicate j (48 : UInt8) ++ S = B := ⟨_, rfl⟩
            rw [hB] at h15 lj
            simp [h2, h15, lj]
            refine WB.bool ?_ ?_
            · intro hle
              have hle : j + S.length ≤ k := by have : (j : Int) + S.length ≤ k := by simpa using hle
                                                omega
              simp [h2, h13, h15]
              refine ⟨by omega, w - 1, by omega, j + 1, by omega, by omega, ?_⟩
              rw [← hB, List.replicate_succ]; rfl
            · intro hgt
              have hgt : k < j + S.length := by have : ¬ (j : Int) + S.length ≤ k := by simpa using hgt
                                                omega
              have ej : j = k + 1 - S.length := by omega
              rw [ej] at hB
              rw [hpad] at hB
              have lB2 : B.length = (fracD k Q).length := by rw [← hB]; simp
              obtain ⟨LD, hLD⟩ : ∃ LD, (fracD k Q).length = LD := ⟨_, rfl⟩
              rw [hLD] at lB2 hfl
              have hkl : k < LD := by omega
              have lD : LD ≤ 1000 := by rw [hfl, ← rdig_len, hLQ]; omega
              have wl : IntKind.i64.wrap ((LD : Int) - k) = ((LD - k : Nat) : Int) := by rw [wrap_small (by omega) (by omega)]; omega
              have hft : fracT ng k Q = (if neg = true then [45] else []) ++ (if k = 0 then B else B.take (LD - k) ++ [46] ++ B.drop (LD - k)) := by
                have : decide (Q ≠ 0) = decide (0 < LQ) := by
                  rw [decide_eq_decide]; omega
                rw [fracT_parts, hB, hLD, this, hneg]
              rw [hft]
              have le1 : ((LD - k : Nat) : Int) ≤ (LD : Int) := by omega
              by_cases hk0 : k = 0
              · subst hk0
                cases neg with
                | true => simp [h2, h13, h15, q13'.at 1 rfl]; exact ⟨by omega, J2.fr⟩
                | false => simp [h2, h13, h15, q13'.at 1 rfl]; exact J2.fr
              · have hkp : 0 < k := by omega
                cases neg with
                | true => simp [h2, h13, h15, hk0, hkp, lB2, wl, le1, q13'.at 1 rfl]; exact ⟨by omega, by omega, by omega, J2.fr⟩
                | false => simp [h2, h13, h15, hk0, hkp, lB2, wl, le1, q13'.at 1 rfl]; exact ⟨by omega, by omega, J2.fr⟩
  · simp [e]
    exact F.fr
end Go.Am

/- Numbers and their texts: there and back. What known asks. -/
set_option linter.unusedVariables false
set_option linter.unusedSimpArgs false
namespace Go.Am
variable {T : Tab}
/-- The digits, reckoned with a bound. -/
def dgF : Nat → Nat → List Int
  | 0, _ => []
  | k + 1, n => if n = 0 then [] else dgF k (n / 10) ++ [((n % 10 : Nat) : Int)]
theorem dig_dgF : ∀ (k n : Nat), n < 10 ^ k → dig n = dgF k n
  | 0, n, h => by
    have : n = 0 := by simp at h; exact h
    subst this; rw [dig_zero]; rfl
  | k + 1, n, h => by
    unfold dgF
    by_cases h0 : n = 0
    · subst h0; rw [dig_zero]; rfl
    · rw [if_neg h0, dig_pos h0, dig_dgF k (n / 10) (by rw [Nat.pow_succ] at h; omega)]
/-- A number's text, reckoned. -/
def showF (z : Int) : List UInt8 := if z = 0 then [48] else (if bel z then [45] else []) ++ (dgF 40 z.natAbs).map chS
theorem showS_F {z : Int} (h : z.natAbs < 10 ^ 40) : showS z = showF z := by unfold showS showF; rw [dig_dgF 40 _ h]
theorem bigZ_F {z : Int} (h : z.natAbs < 10 ^ 40) : bigZ z = false := by
  have := dig_len_le h
  unfold bigZ; simp; omega
theorem read_len {s : List UInt8} {z : Int} (h : readS s = some z) : s.length ≤ 401 := by
  obtain ⟨d, neg, hs, _, hd, _⟩ := readS_parts h
  rw [hs]
  cases neg <;> simp <;> omega
theorem errS_of {l : List (List UInt8)} (h : ∀ s ∈ l, ∃ z, readS s = some z) : errS l = 0 := by
  unfold errS numsS
  rw [if_neg, if_neg]
  · intro ha
    obtain ⟨s, hs, hn⟩ := List.any_eq_true.1 ha
    obtain ⟨z, hz⟩ := h s hs
    rw [hz] at hn; cases hn
  · intro ha
    obtain ⟨s, hs, hn⟩ := List.any_eq_true.1 ha
    obtain ⟨z, hz⟩ := h s hs
    have := read_len hz
    simp at hn; omega
/-- The numbers that known asks for. -/
theorem known_div : divS [45, 55] [50] = (0, [45, 52], [49]) := by
  have e : errS [[45, 55], [50]] = 0 := errS_of fun s hs => by
    simp at hs
    rcases hs with rfl | rfl
    · exact ⟨-7, by decide⟩
    · exact ⟨2, by decide⟩
  have r1 : rdS [45, 55] = -7 := by decide
  have r2 : rdS [50] = 2 := by decide
  have q : qd (-7) 2 = -4 := by decide
  have m : md (-7) 2 = 1 := by decide
  unfold divS outS2
  rw [e, if_pos rfl, r1, r2, if_neg (by decide), q, m, bigZ_F (by decide), bigZ_F (by decide), showS_F (by decide), showS_F (by decide)]
  decide
theorem known_gcd : gcdT [50, 52, 48] [52, 54] = (0, [50], [45, 57], [52, 55]) := by
  have e : errS [[50, 52, 48], [52, 54]] = 0 := errS_of fun s hs => by
    simp at hs
    rcases hs with rfl | rfl
    · exact ⟨240, by decide⟩
    · exact ⟨46, by decide⟩
  have r1 : rdS [50, 52, 48] = 240 := by decide
  have r2 : rdS [52, 54] = 46 := by decide
  have g : gcdS 240 46 = (2, -9, 47) := by decide
  unfold gcdT outS3
  rw [e, if_pos rfl, r1, r2, g]
  simp only
  rw [bigZ_F (by decide), bigZ_F (by decide), bigZ_F (by decide), showS_F (by decide), showS_F (by decide), showS_F (by decide)]
  decide
theorem known_frac : fracS [50] [51] 4 = (0, [48, 46, 54, 54, 54, 55]) := by
  have e : errS [[50], [51]] = 0 := errS_of fun s hs => by
    simp at hs
    rcases hs with rfl | rfl
    · exact ⟨2, by decide⟩
    · exact ⟨3, by decide⟩
  have r1 : rdS [50] = 2 := by decide
  have r2 : rdS [51] = 3 := by decide
  have f : fracN ((2 : Int).natAbs * 10 ^ (4 : Int).toNat) (3 : Int).natAbs = 6667 := by decide
  unfold fracS
  rw [e, if_pos rfl, r1, r2, if_neg (by decide), f]
  unfold fracT fracD
  rw [dig_dgF 40 6667 (by decide)]
  decide
theorem known_pow : powS [50] 100 = (0, [49,50,54,55,54,53,48,54,48,48,50,50,56,50,50,57,52,48,49,52,57,54,55,48,51,50,48,53,51,55,54]) := by
  have e : errS [[50]] = 0 := errS_of fun s hs => by
    simp at hs
    subst hs
    exact ⟨2, by decide⟩
  have r1 : rdS [50] = 2 := by decide
  have n1 : (2 : Int).natAbs = 2 := rfl
  have n2 : (100 : Int).toNat = 100 := rfl
  have p : powN 2 400 100 1 = some (1 * 2 ^ 100) := powN_some (by decide) (by have := dig_len_le (k := 40) (n := 1 * 2 ^ 100) (by decide); omega)
  have b : bel 2 = false := by decide
  unfold powS
  rw [e, if_pos rfl, if_neg (by decide), r1, n1, n2, p, b]
  simp only [Bool.false_and]
  rw [showS_F (by decide)]
  decide
theorem c411 (Dt : D411 T) {H : AHeap} (hw : WF H) {a : List UInt8} : Calls T 411 [.str a] H fun r H' => Fr H H' ∧ r = .bool (decide (5000 < a.length)) := by
  refine Calls.fn Dt.pr Dt.fn ?_
  simp [ir411]
  exact ⟨.refl hw, by omega⟩
theorem c412 (Dt : D412 T) {H : AHeap} (hw : WF H) : Calls T 412 [] H fun r H' => Fr H H' ∧ r = .bool true := by
  refine Calls.fn Dt.pr Dt.fn ?_
  have F := Fx.start hw (D := fun _ => False) (fun _ h => h.elim) (ps := []) trivial
  simp [ir412]
  refine WC.of (c416 Dt.d416 F.wf (a := [45, 55]) (b := [50]) (by decide) (by decide)) ?_
  rintro r1 X1 ⟨fr1, rfl⟩
  have F1 := F.call fr1
  rw [known_div]
  simp
  refine WC.of (c436 Dt.d436 F1.wf (a := [50, 52, 48]) (b := [52, 54]) (by decide) (by decide)) ?_
  rintro r2 X2 ⟨fr2, rfl⟩
  have F2 := F1.call fr2
  rw [known_gcd]
  simp
  refine WC.of (c414 Dt.d414 F2.wf (a := [50]) (b := [51]) (by decide) (by decide)) ?_
  rintro r3 X3 ⟨fr3, rfl⟩
  have F3 := F2.call fr3
  rw [known_frac]
  simp
  refine WC.of (c420 Dt.d420 F3.wf (a := [50]) (by decide)) ?_
  rintro r4 X4 ⟨fr4, rfl⟩
  have F4 := F3.call fr4
  rw [known_pow]
  simp
  exact F4.fr
end Go.Am
