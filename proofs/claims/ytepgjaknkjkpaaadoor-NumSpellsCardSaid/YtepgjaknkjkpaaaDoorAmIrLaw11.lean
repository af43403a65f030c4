/- Texts of functions for the small machine, printed by mkfile.py out of the compiled functions, and for each what a table has to hold. -/
import Derived.Test.YtepgjaknkjkpaaaDoorAmPrimFD
import Derived.Test.YtepgjaknkjkpaaaDoorAmIrList
import Derived.Test.YtepgjaknkjkpaaaDoorAmIrRef11
set_option linter.unusedVariables false
namespace Go.Am
/-- motley/motleylaw11.known -/
def ir112 : AFunc := ⟨.seq (.region [
⟨(some 0),.p .mv,[.c (.bool false)],none,[]⟩] false []) <|
 .seq (.region [
⟨(some 5),.w (.bsl 1 3 [(.int .i64 0),(.int .i64 0),(.int .i64 0)] [(0,1),(1,1),(2,1)]),[.c (.int .i64 1),.c (.int .i64 1),.c (.int .i64 1)],none,[]⟩,
⟨(some 6),.w .call,[.c (.fn 113 [] []),.c (.int .i64 3),.t 5],none,[]⟩,
⟨(some 4),.p .mv,[.t 6],none,[]⟩,
⟨(some 7),.p (.ext 0),[.t 4],none,[]⟩,
⟨(some 8),.p (.ext 1),[.t 4],none,[]⟩,
⟨(some 9),.p (.ext 2),[.t 4],none,[]⟩,
⟨(some 1),.p .mv,[.t 7],none,[]⟩,
⟨(some 2),.p .mv,[.t 8],none,[]⟩,
⟨(some 3),.p .mv,[.t 9],none,[]⟩] false []) <|
 .seq (.region [
⟨(some 10),.p .mv,[.t 1],none,[]⟩,
⟨(some 11),.w (.bsl 1 3 [(.int .i64 0),(.int .i64 0),(.int .i64 0)] [(0,1),(1,1),(2,1)]),[.c (.int .i64 2),.c (.int .i64 1),.c (.int .i64 0)],none,[]⟩,
⟨(some 12),.w .call,[.c (.fn 135 [] []),.t 10,.t 11],none,[]⟩,
⟨(some 13),.p .mv,[.t 12],none,[]⟩,
⟨(some 14),.p .mv,[.t 2],(some (13,true)),[]⟩,
⟨(some 15),.p (.bin .eql),[.t 14,.c (.int .i64 3)],(some (13,true)),[]⟩,
⟨(some 16),.p .pick,[.t 13,.t 15,.c (.bool false)],none,[]⟩,
⟨(some 17),.p .mv,[.t 16],none,[]⟩,
⟨(some 18),.p .mv,[.t 3],(some (17,true)),[]⟩,
⟨(some 19),.p (.bin .eql),[.t 18,.c (.int .i64 0)],(some (17,true)),[]⟩,
⟨(some 20),.p .pick,[.t 17,.t 19,.c (.bool false)],none,[]⟩,
⟨(some 0),.p .mv,[.t 20],none,[]⟩] false []) <|
 .ret, [.tmp 0]⟩
structure D112 (T : Tab) : Prop where
  fn : T.fn 112 = some ir112
  pr : T.prim 112 = none
  d113 : D113 T
  d135 : D135 T
/-- motley/motleylaw11.ListPermutes -/
def ir103 : AFunc := ⟨.seq (.region [
⟨(some 4),.p .mv,[.c (.bool false)],none,[]⟩] false []) <|
 .seq (.seq (.region [
⟨(some 10),.p .mv,[.t 1],none,[]⟩,
⟨(some 11),.p .len,[.t 10],none,[]⟩,
⟨(some 12),.p (.bin .gtr),[.t 11,.c (.int .i64 8000)],none,[]⟩] false []) <|
 .cond (.t 12) (.seq (.region [
⟨(some 13),.w .call,[.c (.fn 112 [] [])],none,[]⟩,
⟨(some 4),.p .mv,[.t 13],none,[]⟩] false []) <|
 .ret) (.skip)) <|
 .seq (.region [
⟨(some 15),.p .mv,[.t 0],none,[]⟩,
⟨(some 16),.p .mv,[.t 1],none,[]⟩,
⟨(some 17),.w .call,[.c (.fn 113 [] []),.t 15,.t 16],none,[]⟩,
⟨(some 14),.p .mv,[.t 17],none,[]⟩,
⟨(some 18),.p (.ext 0),[.t 14],none,[]⟩,
⟨(some 19),.p (.ext 1),[.t 14],none,[]⟩,
⟨(some 20),.p (.ext 2),[.t 14],none,[]⟩,
⟨(some 5),.p .mv,[.t 18],none,[]⟩,
⟨(some 6),.p .mv,[.t 19],none,[]⟩,
⟨(some 7),.p .mv,[.t 20],none,[]⟩] false []) <|
 .seq (.seq (.region [
⟨(some 21),.p .mv,[.t 7],none,[]⟩,
⟨(some 22),.p (.bin .neq),[.t 21,.c (.int .i64 0)],none,[]⟩] false []) <|
 .cond (.t 22) (.seq (.region [
⟨(some 23),.p .mv,[.t 0],none,[]⟩,
⟨(some 24),.p (.bin .lss),[.t 23,.c (.int .i64 0)],none,[]⟩,
⟨(some 25),.p .mv,[.t 24],none,[]⟩,
⟨(some 26),.p .mv,[.t 0],(some (25,false)),[]⟩,
⟨(some 27),.p (.bin .gtr),[.t 26,.c (.int .i64 200)],(some (25,false)),[]⟩,
⟨(some 28),.p .pick,[.t 25,.c (.bool true),.t 27],none,[]⟩,
⟨(some 29),.p .mv,[.t 28],none,[]⟩,
⟨(some 30),.p .mv,[.t 5],(some (29,true)),[]⟩,
⟨(some 31),.p .len,[.t 30],(some (29,true)),[]⟩,
⟨(some 32),.p (.bin .eql),[.t 31,.c (.int .i64 0)],(some (29,true)),[]⟩,
⟨(some 33),.p .pick,[.t 29,.t 32,.c (.bool false)],none,[]⟩,
⟨(some 34),.p .mv,[.t 33],none,[]⟩,
⟨(some 35),.w .call,[.c (.fn 112 [] [])],(some (34,true)),[]⟩,
⟨(some 36),.p .pick,[.t 34,.t 35,.c (.bool false)],none,[]⟩,
⟨(some 4),.p .mv,[.t 36],none,[]⟩] false []) <|
 .ret) (.skip)) <|
 .seq (.seq (.region [
⟨(some 37),.p .mv,[.t 5],none,[]⟩,
⟨(some 38),.p .len,[.t 37],none,[]⟩,
⟨(some 39),.p .mv,[.t 0],none,[]⟩,
⟨(some 40),.p (.bin .neq),[.t 38,.t 39],none,[]⟩] false []) <|
 .cond (.t 40) (.seq (.region [
⟨(some 4),.p .mv,[.c (.bool false)],none,[]⟩] false []) <|
 .ret) (.skip)) <|
 .seq (.region [
⟨(some 41),.w .mkM,[],none,[]⟩,
⟨(some 8),.p .mv,[.t 41],none,[]⟩] false []) <|
 .seq (.seq (.region [
⟨(some 9),.p .mv,[.c (.int .i64 0)],none,[]⟩] false []) <|
 .block 0 (.loop (.seq (.seq (.region [
⟨(some 42),.p .mv,[.t 9],none,[]⟩,
⟨(some 43),.p .mv,[.t 5],none,[]⟩,
⟨(some 44),.p .len,[.t 43],none,[]⟩,
⟨(some 45),.p (.bin .lss),[.t 42,.t 44],none,[]⟩] false []) <|
 .cond (.t 45) (.skip) (.exit 0)) <|
 .seq (.block 1 (.seq (.seq (.region [
⟨(some 48),.p .mv,[.t 5],none,[]⟩,
⟨(some 49),.p .mv,[.t 9],none,[]⟩,
⟨(some 50),.p (.ia 1),[.t 48,.t 49],none,[]⟩,
⟨(some 51),.r (.ld 1 false),[.t 50],none,[]⟩,
⟨(some 52),.p (.bin .lss),[.t 51,.c (.int .i64 0)],none,[]⟩,
⟨(some 53),.p .mv,[.t 52],none,[]⟩,
⟨(some 54),.p .mv,[.t 5],(some (53,false)),[]⟩,
⟨(some 55),.p .mv,[.t 9],(some (53,false)),[]⟩,
⟨(some 56),.p (.ia 1),[.t 54,.t 55],(some (53,false)),[]⟩,
⟨(some 57),.r (.ld 1 false),[.t 56],(some (53,false)),[]⟩,
⟨(some 58),.p .mv,[.t 0],(some (53,false)),[]⟩,
⟨(some 59),.p (.bin .geq),[.t 57,.t 58],(some (53,false)),[]⟩,
⟨(some 60),.p .pick,[.t 53,.c (.bool true),.t 59],none,[]⟩,
⟨(some 61),.p .mv,[.t 60],none,[]⟩,
⟨(some 62),.p .mv,[.t 8],(some (61,false)),[]⟩,
⟨(some 63),.p .mv,[.t 5],(some (61,false)),[]⟩,
⟨(some 64),.p .mv,[.t 9],(some (61,false)),[]⟩,
⟨(some 65),.p (.ia 1),[.t 63,.t 64],(some (61,false)),[]⟩,
⟨(some 66),.r (.ld 1 false),[.t 65],(some (61,false)),[]⟩,
⟨(some 67),.r (.look .int (.bool false) false),[.t 62,.t 66],(some (61,false)),[]⟩,
⟨(some 68),.p .pick,[.t 61,.c (.bool true),.t 67],none,[]⟩] false []) <|
 .cond (.t 68) (.seq (.region [
⟨(some 4),.p .mv,[.c (.bool false)],none,[]⟩] false []) <|
 .ret) (.skip)) <|
 .region [
⟨(some 69),.p .mv,[.t 8],none,[]⟩,
⟨(some 70),.p .mv,[.t 5],none,[]⟩,
⟨(some 71),.p .mv,[.t 9],none,[]⟩,
⟨(some 72),.p (.ia 1),[.t 70,.t 71],none,[]⟩,
⟨(some 73),.r (.ld 1 false),[.t 72],none,[]⟩,
⟨none,.w (.mset .int),[.t 69,.t 73,.c (.bool true)],none,[]⟩] false [])) <|
 .region [
⟨(some 46),.p .mv,[.t 9],none,[]⟩,
⟨(some 47),.p (.bin .add),[.t 46,.c (.int .i64 1)],none,[]⟩,
⟨(some 9),.p .mv,[.t 47],none,[]⟩] false []))) <|
 .seq (.region [
⟨(some 74),.w .call,[.c (.fn 112 [] [])],none,[]⟩,
⟨(some 4),.p .mv,[.t 74],none,[]⟩] false []) <|
 .ret, [.tmp 4]⟩
structure D103 (T : Tab) : Prop where
  fn : T.fn 103 = some ir103
  pr : T.prim 103 = none
  d112 : D112 T
  d113 : D113 T
/-- motley/motleylaw11.over -/
def ir114 : AFunc := ⟨.seq (.region [
⟨(some 2),.p .mv,[.c (.bool false)],none,[]⟩] false []) <|
 .seq (.region [
⟨(some 5),.p .mv,[.t 0],none,[]⟩,
⟨(some 6),.p .len,[.t 5],none,[]⟩,
⟨(some 3),.p .mv,[.t 6],none,[]⟩] false []) <|
 .seq (.seq (.region [
⟨(some 4),.p .mv,[.c (.int .i64 0)],none,[]⟩] false []) <|
 .block 0 (.loop (.seq (.seq (.region [
⟨(some 7),.p .mv,[.t 4],none,[]⟩,
⟨(some 8),.p .mv,[.t 0],none,[]⟩,
⟨(some 9),.p .len,[.t 8],none,[]⟩,
⟨(some 10),.p (.bin .lss),[.t 7,.t 9],none,[]⟩] false []) <|
 .cond (.t 10) (.skip) (.exit 0)) <|
 .seq (.block 1 (.region [
⟨(some 13),.p .mv,[.t 3],none,[]⟩,
⟨(some 14),.p .mv,[.t 0],none,[]⟩,
⟨(some 15),.p .mv,[.t 4],none,[]⟩,
⟨(some 16),.p (.ia 1),[.t 14,.t 15],none,[]⟩,
⟨(some 17),.r (.ld 1 false),[.t 16],none,[]⟩,
⟨(some 18),.p .lenS,[.t 17],none,[]⟩,
⟨(some 19),.p (.bin .add),[.t 13,.t 18],none,[]⟩,
⟨(some 3),.p .mv,[.t 19],none,[]⟩] false [])) <|
 .region [
⟨(some 11),.p .mv,[.t 4],none,[]⟩,
⟨(some 12),.p (.bin .add),[.t 11,.c (.int .i64 1)],none,[]⟩,
⟨(some 4),.p .mv,[.t 12],none,[]⟩] false []))) <|
 .seq (.region [
⟨(some 20),.p .mv,[.t 3],none,[]⟩,
⟨(some 21),.p (.bin .gtr),[.t 20,.c (.int .i64 8000)],none,[]⟩,
⟨(some 2),.p .mv,[.t 21],none,[]⟩] false []) <|
 .ret, [.tmp 2]⟩
structure D114 (T : Tab) : Prop where
  fn : T.fn 114 = some ir114
  pr : T.prim 114 = none
/-- motley/motleylaw11.scalars -/
def ir117 : AFunc := ⟨.seq (.region [
⟨(some 4),.p .mv,[.c (.bool false)],none,[]⟩] false []) <|
 .seq (.seq (.region [
⟨(some 6),.p .mv,[.t 0],none,[]⟩,
⟨(some 7),.p .len,[.t 6],none,[]⟩,
⟨(some 8),.p .mv,[.t 1],none,[]⟩,
⟨(some 9),.p .len,[.t 8],none,[]⟩,
⟨(some 10),.p (.bin .neq),[.t 7,.t 9],none,[]⟩] false []) <|
 .cond (.t 10) (.seq (.region [
⟨(some 4),.p .mv,[.c (.bool false)],none,[]⟩] false []) <|
 .ret) (.skip)) <|
 .seq (.seq (.region [
⟨(some 5),.p .mv,[.c (.int .i64 0)],none,[]⟩] false []) <|
 .block 0 (.loop (.seq (.seq (.region [
⟨(some 11),.p .mv,[.t 5],none,[]⟩,
⟨(some 12),.p .mv,[.t 0],none,[]⟩,
⟨(some 13),.p .len,[.t 12],none,[]⟩,
⟨(some 14),.p (.bin .lss),[.t 11,.t 13],none,[]⟩] false []) <|
 .cond (.t 14) (.skip) (.exit 0)) <|
 .seq (.block 1 (.seq (.region [
⟨(some 17),.p .mv,[.t 0],none,[]⟩,
⟨(some 18),.p .mv,[.t 5],none,[]⟩,
⟨(some 19),.p (.ia 4),[.t 17,.t 18],none,[]⟩,
⟨(some 20),.r (.ld 4 true),[.t 19],none,[]⟩,
⟨(some 21),.p .mv,[.t 1],none,[]⟩,
⟨(some 22),.p .mv,[.t 5],none,[]⟩,
⟨(some 23),.p (.ia 4),[.t 21,.t 22],none,[]⟩,
⟨(some 24),.r (.ld 4 true),[.t 23],none,[]⟩,
⟨(some 25),.p (.eqCells true [.int,.int,.str,.bool]),[.t 20,.t 24],none,[]⟩] true []) <|
 .cond (.t 25) (.seq (.region [
⟨(some 4),.p .mv,[.c (.bool false)],none,[]⟩] false []) <|
 .ret) (.skip))) <|
 .region [
⟨(some 15),.p .mv,[.t 5],none,[]⟩,
⟨(some 16),.p (.bin .add),[.t 15,.c (.int .i64 1)],none,[]⟩,
⟨(some 5),.p .mv,[.t 16],none,[]⟩] false []))) <|
 .seq (.region [
⟨(some 4),.p .mv,[.c (.bool true)],none,[]⟩] false []) <|
 .ret, [.tmp 4]⟩
structure D117 (T : Tab) : Prop where
  fn : T.fn 117 = some ir117
  pr : T.prim 117 = none
/-- motley/motleylaw11.ListSlices -/
def ir104 : AFunc := ⟨.seq (.region [
⟨(some 4),.p .mv,[.c (.bool false)],none,[]⟩] false []) <|
 .seq (.seq (.region [
⟨(some 9),.p .mv,[.t 0],none,[]⟩,
⟨(some 10),.w .call,[.c (.fn 114 [] []),.t 9],none,[]⟩,
⟨(some 11),.p .mv,[.t 10],none,[]⟩,
⟨(some 12),.p .mv,[.t 1],(some (11,false)),[]⟩,
⟨(some 13),.p .len,[.t 12],(some (11,false)),[]⟩,
⟨(some 14),.p (.bin .gtr),[.t 13,.c (.int .i64 8000)],(some (11,false)),[]⟩,
⟨(some 15),.p .pick,[.t 11,.c (.bool true),.t 14],none,[]⟩] false []) <|
 .cond (.t 15) (.seq (.region [
⟨(some 16),.w .call,[.c (.fn 112 [] [])],none,[]⟩,
⟨(some 4),.p .mv,[.t 16],none,[]⟩] false []) <|
 .ret) (.skip)) <|
 .seq (.region [
⟨(some 18),.p .mv,[.t 0],none,[]⟩,
⟨(some 19),.p .mv,[.t 1],none,[]⟩,
⟨(some 20),.w .call,[.c (.fn 115 [] []),.t 18,.t 19],none,[]⟩,
⟨(some 17),.p .mv,[.t 20],none,[]⟩,
⟨(some 21),.p (.ext 0),[.t 17],none,[]⟩,
⟨(some 22),.p (.ext 1),[.t 17],none,[]⟩,
⟨(some 5),.p .mv,[.t 21],none,[]⟩,
⟨(some 6),.p .mv,[.t 22],none,[]⟩] false []) <|
 .seq (.region [
⟨(some 24),.p .mv,[.t 0],none,[]⟩,
⟨(some 25),.p .mv,[.t 1],none,[]⟩,
⟨(some 26),.w .call,[.c (.fn 116 [] []),.t 24,.t 25],none,[]⟩,
⟨(some 23),.p .mv,[.t 26],none,[]⟩,
⟨(some 27),.p (.ext 0),[.t 23],none,[]⟩,
⟨(some 28),.p (.ext 1),[.t 23],none,[]⟩,
⟨(some 7),.p .mv,[.t 27],none,[]⟩,
⟨(some 8),.p .mv,[.t 28],none,[]⟩] false []) <|
 .seq (.region [
⟨(some 29),.p .mv,[.t 7],none,[]⟩,
⟨(some 30),.p .mv,[.t 5],none,[]⟩,
⟨(some 31),.w .call,[.c (.fn 117 [] []),.t 29,.t 30],none,[]⟩,
⟨(some 32),.p .mv,[.t 31],none,[]⟩,
⟨(some 33),.p .mv,[.t 8],(some (32,true)),[]⟩,
⟨(some 34),.p .mv,[.t 6],(some (32,true)),[]⟩,
⟨(some 35),.p (.bin .eql),[.t 33,.t 34],(some (32,true)),[]⟩,
⟨(some 36),.p .pick,[.t 32,.t 35,.c (.bool false)],none,[]⟩,
⟨(some 37),.p .mv,[.t 36],none,[]⟩,
⟨(some 38),.w .call,[.c (.fn 112 [] [])],(some (37,true)),[]⟩,
⟨(some 39),.p .pick,[.t 37,.t 38,.c (.bool false)],none,[]⟩,
⟨(some 4),.p .mv,[.t 39],none,[]⟩] false []) <|
 .ret, [.tmp 4]⟩
structure D104 (T : Tab) : Prop where
  fn : T.fn 104 = some ir104
  pr : T.prim 104 = none
  d114 : D114 T
  d112 : D112 T
  d115 : D115 T
  d116 : D116 T
  d117 : D117 T
/-- motley/motleylaw11.ListParts -/
def ir105 : AFunc := ⟨.seq (.region [
⟨(some 6),.p .mv,[.c (.bool false)],none,[]⟩] false []) <|
 .seq (.seq (.region [
⟨(some 17),.p .mv,[.t 0],none,[]⟩,
⟨(some 18),.w .call,[.c (.fn 114 [] []),.t 17],none,[]⟩,
⟨(some 19),.p .mv,[.t 18],none,[]⟩,
⟨(some 20),.p .mv,[.t 1],(some (19,false)),[]⟩,
⟨(some 21),.p .len,[.t 20],(some (19,false)),[]⟩,
⟨(some 22),.p (.bin .gtr),[.t 21,.c (.int .i64 8000)],(some (19,false)),[]⟩,
⟨(some 23),.p .pick,[.t 19,.c (.bool true),.t 22],none,[]⟩,
⟨(some 24),.p .mv,[.t 23],none,[]⟩,
⟨(some 25),.p .mv,[.t 2],(some (24,false)),[]⟩,
⟨(some 26),.p .len,[.t 25],(some (24,false)),[]⟩,
⟨(some 27),.p (.bin .gtr),[.t 26,.c (.int .i64 8000)],(some (24,false)),[]⟩,
⟨(some 28),.p .pick,[.t 24,.c (.bool true),.t 27],none,[]⟩] false []) <|
 .cond (.t 28) (.seq (.region [
⟨(some 29),.w .call,[.c (.fn 112 [] [])],none,[]⟩,
⟨(some 6),.p .mv,[.t 29],none,[]⟩] false []) <|
 .ret) (.skip)) <|
 .seq (.region [
⟨(some 31),.p .mv,[.t 0],none,[]⟩,
⟨(some 32),.p .mv,[.t 1],none,[]⟩,
⟨(some 33),.w .call,[.c (.fn 118 [] []),.t 31,.t 32],none,[]⟩,
⟨(some 30),.p .mv,[.t 33],none,[]⟩,
⟨(some 34),.p (.ext 0),[.t 30],none,[]⟩,
⟨(some 35),.p (.ext 1),[.t 30],none,[]⟩,
⟨(some 36),.p (.ext 2),[.t 30],none,[]⟩,
⟨(some 7),.p .mv,[.t 34],none,[]⟩,
⟨(some 8),.p .mv,[.t 35],none,[]⟩,
⟨(some 9),.p .mv,[.t 36],none,[]⟩] false []) <|
 .seq (.region [
⟨(some 38),.p .mv,[.t 0],none,[]⟩,
⟨(some 39),.p .mv,[.t 2],none,[]⟩,
⟨(some 40),.w .call,[.c (.fn 119 [] []),.t 38,.t 39],none,[]⟩,
⟨(some 37),.p .mv,[.t 40],none,[]⟩,
⟨(some 41),.p (.ext 0),[.t 37],none,[]⟩,
⟨(some 42),.p (.ext 1),[.t 37],none,[]⟩,
⟨(some 10),.p .mv,[.t 41],none,[]⟩,
⟨(some 11),.p .mv,[.t 42],none,[]⟩] false []) <|
 .seq (.region [
⟨(some 44),.p .mv,[.t 0],none,[]⟩,
⟨(some 45),.p .mv,[.t 1],none,[]⟩,
⟨(some 46),.w .call,[.c (.fn 120 [] []),.t 44,.t 45],none,[]⟩,
⟨(some 43),.p .mv,[.t 46],none,[]⟩,
⟨(some 47),.p (.ext 0),[.t 43],none,[]⟩,
⟨(some 48),.p (.ext 1),[.t 43],none,[]⟩,
⟨(some 49),.p (.ext 2),[.t 43],none,[]⟩,
⟨(some 12),.p .mv,[.t 47],none,[]⟩,
⟨(some 13),.p .mv,[.t 48],none,[]⟩,
⟨(some 14),.p .mv,[.t 49],none,[]⟩] false []) <|
 .seq (.region [
⟨(some 51),.p .mv,[.t 0],none,[]⟩,
⟨(some 52),.p .mv,[.t 2],none,[]⟩,
⟨(some 53),.w .call,[.c (.fn 121 [] []),.t 51,.t 52],none,[]⟩,
⟨(some 50),.p .mv,[.t 53],none,[]⟩,
⟨(some 54),.p (.ext 0),[.t 50],none,[]⟩,
⟨(some 55),.p (.ext 1),[.t 50],none,[]⟩,
⟨(some 15),.p .mv,[.t 54],none,[]⟩,
⟨(some 16),.p .mv,[.t 55],none,[]⟩] false []) <|
 .seq (.region [
⟨(some 56),.p .mv,[.t 12],none,[]⟩,
⟨(some 57),.p .mv,[.t 7],none,[]⟩,
⟨(some 58),.w .call,[.c (.fn 122 [] []),.t 56,.t 57],none,[]⟩,
⟨(some 59),.p .mv,[.t 58],none,[]⟩,
⟨(some 60),.p .mv,[.t 13],(some (59,true)),[]⟩,
⟨(some 61),.p .mv,[.t 8],(some (59,true)),[]⟩,
⟨(some 62),.w .call,[.c (.fn 122 [] []),.t 60,.t 61],(some (59,true)),[]⟩,
⟨(some 63),.p .pick,[.t 59,.t 62,.c (.bool false)],none,[]⟩,
⟨(some 64),.p .mv,[.t 63],none,[]⟩,
⟨(some 65),.p .mv,[.t 14],(some (64,true)),[]⟩,
⟨(some 66),.p .mv,[.t 9],(some (64,true)),[]⟩,
⟨(some 67),.p (.bin .eql),[.t 65,.t 66],(some (64,true)),[]⟩,
⟨(some 68),.p .pick,[.t 64,.t 67,.c (.bool false)],none,[]⟩,
⟨(some 69),.p .mv,[.t 68],none,[]⟩,
⟨(some 70),.p .mv,[.t 15],(some (69,true)),[]⟩,
⟨(some 71),.p .mv,[.t 10],(some (69,true)),[]⟩,
⟨(some 72),.w .call,[.c (.fn 122 [] []),.t 70,.t 71],(some (69,true)),[]⟩,
⟨(some 73),.p .pick,[.t 69,.t 72,.c (.bool false)],none,[]⟩,
⟨(some 74),.p .mv,[.t 73],none,[]⟩,
⟨(some 75),.p .mv,[.t 16],(some (74,true)),[]⟩,
⟨(some 76),.p .mv,[.t 11],(some (74,true)),[]⟩,
⟨(some 77),.p (.bin .eql),[.t 75,.t 76],(some (74,true)),[]⟩,
⟨(some 78),.p .pick,[.t 74,.t 77,.c (.bool false)],none,[]⟩,
⟨(some 79),.p .mv,[.t 78],none,[]⟩,
⟨(some 80),.w .call,[.c (.fn 112 [] [])],(some (79,true)),[]⟩,
⟨(some 81),.p .pick,[.t 79,.t 80,.c (.bool false)],none,[]⟩,
⟨(some 6),.p .mv,[.t 81],none,[]⟩] false []) <|
 .ret, [.tmp 6]⟩
structure D105 (T : Tab) : Prop where
  fn : T.fn 105 = some ir105
  pr : T.prim 105 = none
  d114 : D114 T
  d112 : D112 T
  d118 : D118 T
  d119 : D119 T
  d120 : D120 T
  d121 : D121 T
  d122 : D122 T
/-- motley/motleylaw11.ListSplices -/
def ir106 : AFunc := ⟨.seq (.region [
⟨(some 3),.w .box,[.t 0],none,[]⟩,
⟨(some 6),.p .mv,[.c (.bool false)],none,[]⟩] false []) <|
 .seq (.seq (.region [
⟨(some 13),.p (.iap 2 1),[.t 3,.c (.int .i64 0)],none,[]⟩,
⟨(some 14),.r (.ld 1 false),[.t 13],none,[]⟩,
⟨(some 15),.w .call,[.c (.fn 114 [] []),.t 14],none,[]⟩,
⟨(some 16),.p .mv,[.t 15],none,[]⟩,
⟨(some 17),.p (.iap 2 1),[.t 3,.c (.int .i64 1)],(some (16,false)),[]⟩,
⟨(some 18),.r (.ld 1 false),[.t 17],(some (16,false)),[]⟩,
⟨(some 19),.w .call,[.c (.fn 114 [] []),.t 18],(some (16,false)),[]⟩,
⟨(some 20),.p .pick,[.t 16,.c (.bool true),.t 19],none,[]⟩] false []) <|
 .cond (.t 20) (.seq (.region [
⟨(some 21),.w .call,[.c (.fn 112 [] [])],none,[]⟩,
⟨(some 6),.p .mv,[.t 21],none,[]⟩] false []) <|
 .ret) (.skip)) <|
 .seq (.region [
⟨(some 23),.p (.iap 2 1),[.t 3,.c (.int .i64 0)],none,[]⟩,
⟨(some 24),.r (.ld 1 false),[.t 23],none,[]⟩,
⟨(some 25),.p .mv,[.t 1],none,[]⟩,
⟨(some 26),.p .mv,[.t 2],none,[]⟩,
⟨(some 27),.p (.iap 2 1),[.t 3,.c (.int .i64 1)],none,[]⟩,
⟨(some 28),.r (.ld 1 false),[.t 27],none,[]⟩,
⟨(some 29),.w .call,[.c (.fn 123 [] []),.t 24,.t 25,.t 26,.t 28],none,[]⟩,
⟨(some 22),.p .mv,[.t 29],none,[]⟩,
⟨(some 30),.p (.ext 0),[.t 22],none,[]⟩,
⟨(some 31),.p (.ext 1),[.t 22],none,[]⟩,
⟨(some 32),.p (.ext 2),[.t 22],none,[]⟩,
⟨(some 7),.p .mv,[.t 30],none,[]⟩,
⟨(some 8),.p .mv,[.t 31],none,[]⟩,
⟨(some 9),.p .mv,[.t 32],none,[]⟩] false []) <|
 .seq (.region [
⟨(some 34),.p (.iap 2 1),[.t 3,.c (.int .i64 0)],none,[]⟩,
⟨(some 35),.r (.ld 1 false),[.t 34],none,[]⟩,
⟨(some 36),.p .mv,[.t 1],none,[]⟩,
⟨(some 37),.p .mv,[.t 2],none,[]⟩,
⟨(some 38),.p (.iap 2 1),[.t 3,.c (.int .i64 1)],none,[]⟩,
⟨(some 39),.r (.ld 1 false),[.t 38],none,[]⟩,
⟨(some 40),.w .call,[.c (.fn 124 [] []),.t 35,.t 36,.t 37,.t 39],none,[]⟩,
⟨(some 33),.p .mv,[.t 40],none,[]⟩,
⟨(some 41),.p (.ext 0),[.t 33],none,[]⟩,
⟨(some 42),.p (.ext 1),[.t 33],none,[]⟩,
⟨(some 43),.p (.ext 2),[.t 33],none,[]⟩,
⟨(some 10),.p .mv,[.t 41],none,[]⟩,
⟨(some 11),.p .mv,[.t 42],none,[]⟩,
⟨(some 12),.p .mv,[.t 43],none,[]⟩] false []) <|
 .seq (.region [
⟨(some 44),.p .mv,[.t 10],none,[]⟩,
⟨(some 45),.p .mv,[.t 7],none,[]⟩,
⟨(some 46),.w .call,[.c (.fn 122 [] []),.t 44,.t 45],none,[]⟩,
⟨(some 47),.p .mv,[.t 46],none,[]⟩,
⟨(some 48),.p .mv,[.t 11],(some (47,true)),[]⟩,
⟨(some 49),.p .mv,[.t 8],(some (47,true)),[]⟩,
⟨(some 50),.w .call,[.c (.fn 122 [] []),.t 48,.t 49],(some (47,true)),[]⟩,
⟨(some 51),.p .pick,[.t 47,.t 50,.c (.bool false)],none,[]⟩,
⟨(some 52),.p .mv,[.t 51],none,[]⟩,
⟨(some 53),.p .mv,[.t 12],(some (52,true)),[]⟩,
⟨(some 54),.p .mv,[.t 9],(some (52,true)),[]⟩,
⟨(some 55),.p (.bin .eql),[.t 53,.t 54],(some (52,true)),[]⟩,
⟨(some 56),.p .pick,[.t 52,.t 55,.c (.bool false)],none,[]⟩,
⟨(some 57),.p .mv,[.t 56],none,[]⟩,
⟨(some 58),.w .call,[.c (.fn 112 [] [])],(some (57,true)),[]⟩,
⟨(some 59),.p .pick,[.t 57,.t 58,.c (.bool false)],none,[]⟩,
⟨(some 6),.p .mv,[.t 59],none,[]⟩] false []) <|
 .ret, [.tmp 6]⟩
structure D106 (T : Tab) : Prop where
  fn : T.fn 106 = some ir106
  pr : T.prim 106 = none
  d114 : D114 T
  d112 : D112 T
  d123 : D123 T
  d124 : D124 T
  d122 : D122 T
/-- motley/motleylaw11.ListTexts -/
def ir107 : AFunc := ⟨.seq (.region [
⟨(some 4),.p .mv,[.c (.bool false)],none,[]⟩] false []) <|
 .seq (.seq (.region [
⟨(some 13),.p .mv,[.t 0],none,[]⟩,
⟨(some 14),.w .call,[.c (.fn 114 [] []),.t 13],none,[]⟩,
⟨(some 15),.p .mv,[.t 14],none,[]⟩,
⟨(some 16),.p .mv,[.t 1],(some (15,false)),[]⟩,
⟨(some 17),.p .len,[.t 16],(some (15,false)),[]⟩,
⟨(some 18),.p (.bin .gtr),[.t 17,.c (.int .i64 8000)],(some (15,false)),[]⟩,
⟨(some 19),.p .pick,[.t 15,.c (.bool true),.t 18],none,[]⟩] false []) <|
 .cond (.t 19) (.seq (.region [
⟨(some 20),.w .call,[.c (.fn 112 [] [])],none,[]⟩,
⟨(some 4),.p .mv,[.t 20],none,[]⟩] false []) <|
 .ret) (.skip)) <|
 .seq (.region [
⟨(some 22),.p .mv,[.t 0],none,[]⟩,
⟨(some 23),.w .call,[.c (.fn 125 [] []),.t 22],none,[]⟩,
⟨(some 21),.p .mv,[.t 23],none,[]⟩,
⟨(some 24),.p (.ext 0),[.t 21],none,[]⟩,
⟨(some 25),.p (.ext 1),[.t 21],none,[]⟩,
⟨(some 5),.p .mv,[.t 24],none,[]⟩,
⟨(some 6),.p .mv,[.t 25],none,[]⟩] false []) <|
 .seq (.region [
⟨(some 27),.p .mv,[.t 0],none,[]⟩,
⟨(some 28),.p .mv,[.t 1],none,[]⟩,
⟨(some 29),.w .call,[.c (.fn 126 [] []),.t 27,.t 28],none,[]⟩,
⟨(some 26),.p .mv,[.t 29],none,[]⟩,
⟨(some 30),.p (.ext 0),[.t 26],none,[]⟩,
⟨(some 31),.p (.ext 1),[.t 26],none,[]⟩,
⟨(some 7),.p .mv,[.t 30],none,[]⟩,
⟨(some 8),.p .mv,[.t 31],none,[]⟩] false []) <|
 .seq (.region [
⟨(some 33),.p .mv,[.t 0],none,[]⟩,
⟨(some 34),.w .call,[.c (.fn 127 [] []),.t 33],none,[]⟩,
⟨(some 32),.p .mv,[.t 34],none,[]⟩,
⟨(some 35),.p (.ext 0),[.t 32],none,[]⟩,
⟨(some 36),.p (.ext 1),[.t 32],none,[]⟩,
⟨(some 9),.p .mv,[.t 35],none,[]⟩,
⟨(some 10),.p .mv,[.t 36],none,[]⟩] false []) <|
 .seq (.region [
⟨(some 38),.p .mv,[.t 0],none,[]⟩,
⟨(some 39),.p .mv,[.t 1],none,[]⟩,
⟨(some 40),.w .call,[.c (.fn 128 [] []),.t 38,.t 39],none,[]⟩,
⟨(some 37),.p .mv,[.t 40],none,[]⟩,
⟨(some 41),.p (.ext 0),[.t 37],none,[]⟩,
⟨(some 42),.p (.ext 1),[.t 37],none,[]⟩,
⟨(some 11),.p .mv,[.t 41],none,[]⟩,
⟨(some 12),.p .mv,[.t 42],none,[]⟩] false []) <|
 .seq (.region [
⟨(some 43),.p .mv,[.t 9],none,[]⟩,
⟨(some 44),.p .mv,[.t 5],none,[]⟩,
⟨(some 45),.w .call,[.c (.fn 122 [] []),.t 43,.t 44],none,[]⟩,
⟨(some 46),.p .mv,[.t 45],none,[]⟩,
⟨(some 47),.p .mv,[.t 10],(some (46,true)),[]⟩,
⟨(some 48),.p .mv,[.t 6],(some (46,true)),[]⟩,
⟨(some 49),.p (.bin .eql),[.t 47,.t 48],(some (46,true)),[]⟩,
⟨(some 50),.p .pick,[.t 46,.t 49,.c (.bool false)],none,[]⟩,
⟨(some 51),.p .mv,[.t 50],none,[]⟩,
⟨(some 52),.p .mv,[.t 11],(some (51,true)),[]⟩,
⟨(some 53),.p .mv,[.t 7],(some (51,true)),[]⟩,
⟨(some 54),.w .call,[.c (.fn 122 [] []),.t 52,.t 53],(some (51,true)),[]⟩,
⟨(some 55),.p .pick,[.t 51,.t 54,.c (.bool false)],none,[]⟩,
⟨(some 56),.p .mv,[.t 55],none,[]⟩,
⟨(some 57),.p .mv,[.t 12],(some (56,true)),[]⟩,
⟨(some 58),.p .mv,[.t 8],(some (56,true)),[]⟩,
⟨(some 59),.p (.bin .eql),[.t 57,.t 58],(some (56,true)),[]⟩,
⟨(some 60),.p .pick,[.t 56,.t 59,.c (.bool false)],none,[]⟩,
⟨(some 61),.p .mv,[.t 60],none,[]⟩,
⟨(some 62),.w .call,[.c (.fn 112 [] [])],(some (61,true)),[]⟩,
⟨(some 63),.p .pick,[.t 61,.t 62,.c (.bool false)],none,[]⟩,
⟨(some 4),.p .mv,[.t 63],none,[]⟩] false []) <|
 .ret, [.tmp 4]⟩
structure D107 (T : Tab) : Prop where
  fn : T.fn 107 = some ir107
  pr : T.prim 107 = none
  d114 : D114 T
  d112 : D112 T
  d125 : D125 T
  d126 : D126 T
  d127 : D127 T
  d128 : D128 T
  d122 : D122 T
/-- motley/motleylaw11.ListUniq -/
def ir108 : AFunc := ⟨.seq (.region [
⟨(some 4),.p .mv,[.c (.bool false)],none,[]⟩] false []) <|
 .seq (.seq (.region [
⟨(some 19),.p .mv,[.t 0],none,[]⟩,
⟨(some 20),.w .call,[.c (.fn 114 [] []),.t 19],none,[]⟩,
⟨(some 21),.p .mv,[.t 20],none,[]⟩,
⟨(some 22),.p .mv,[.t 1],(some (21,false)),[]⟩,
⟨(some 23),.w .call,[.c (.fn 114 [] []),.t 22],(some (21,false)),[]⟩,
⟨(some 24),.p .pick,[.t 21,.c (.bool true),.t 23],none,[]⟩] false []) <|
 .cond (.t 24) (.seq (.region [
⟨(some 25),.w .call,[.c (.fn 112 [] [])],none,[]⟩,
⟨(some 4),.p .mv,[.t 25],none,[]⟩] false []) <|
 .ret) (.skip)) <|
 .seq (.region [
⟨(some 27),.p .mv,[.t 0],none,[]⟩,
⟨(some 28),.w .call,[.c (.fn 129 [] []),.t 27],none,[]⟩,
⟨(some 26),.p .mv,[.t 28],none,[]⟩,
⟨(some 29),.p (.ext 0),[.t 26],none,[]⟩,
⟨(some 30),.p (.ext 1),[.t 26],none,[]⟩,
⟨(some 5),.p .mv,[.t 29],none,[]⟩,
⟨(some 6),.p .mv,[.t 30],none,[]⟩] false []) <|
 .seq (.region [
⟨(some 32),.p .mv,[.t 0],none,[]⟩,
⟨(some 33),.w .call,[.c (.fn 130 [] []),.t 32],none,[]⟩,
⟨(some 31),.p .mv,[.t 33],none,[]⟩,
⟨(some 34),.p (.ext 0),[.t 31],none,[]⟩,
⟨(some 35),.p (.ext 1),[.t 31],none,[]⟩,
⟨(some 36),.p (.ext 2),[.t 31],none,[]⟩,
⟨(some 7),.p .mv,[.t 34],none,[]⟩,
⟨(some 8),.p .mv,[.t 35],none,[]⟩,
⟨(some 9),.p .mv,[.t 36],none,[]⟩] false []) <|
 .seq (.region [
⟨(some 38),.p .mv,[.t 0],none,[]⟩,
⟨(some 39),.p .mv,[.t 1],none,[]⟩,
⟨(some 40),.w .call,[.c (.fn 131 [] []),.t 38,.t 39],none,[]⟩,
⟨(some 37),.p .mv,[.t 40],none,[]⟩,
⟨(some 41),.p (.ext 0),[.t 37],none,[]⟩,
⟨(some 42),.p (.ext 1),[.t 37],none,[]⟩,
⟨(some 10),.p .mv,[.t 41],none,[]⟩,
⟨(some 11),.p .mv,[.t 42],none,[]⟩] false []) <|
 .seq (.region [
⟨(some 44),.p .mv,[.t 0],none,[]⟩,
⟨(some 45),.w .call,[.c (.fn 132 [] []),.t 44],none,[]⟩,
⟨(some 43),.p .mv,[.t 45],none,[]⟩,
⟨(some 46),.p (.ext 0),[.t 43],none,[]⟩,
⟨(some 47),.p (.ext 1),[.t 43],none,[]⟩,
⟨(some 12),.p .mv,[.t 46],none,[]⟩,
⟨(some 13),.p .mv,[.t 47],none,[]⟩] false []) <|
 .seq (.region [
⟨(some 49),.p .mv,[.t 0],none,[]⟩,
⟨(some 50),.w .call,[.c (.fn 133 [] []),.t 49],none,[]⟩,
⟨(some 48),.p .mv,[.t 50],none,[]⟩,
⟨(some 51),.p (.ext 0),[.t 48],none,[]⟩,
⟨(some 52),.p (.ext 1),[.t 48],none,[]⟩,
⟨(some 53),.p (.ext 2),[.t 48],none,[]⟩,
⟨(some 14),.p .mv,[.t 51],none,[]⟩,
⟨(some 15),.p .mv,[.t 52],none,[]⟩,
⟨(some 16),.p .mv,[.t 53],none,[]⟩] false []) <|
 .seq (.region [
⟨(some 55),.p .mv,[.t 0],none,[]⟩,
⟨(some 56),.p .mv,[.t 1],none,[]⟩,
⟨(some 57),.w .call,[.c (.fn 134 [] []),.t 55,.t 56],none,[]⟩,
⟨(some 54),.p .mv,[.t 57],none,[]⟩,
⟨(some 58),.p (.ext 0),[.t 54],none,[]⟩,
⟨(some 59),.p (.ext 1),[.t 54],none,[]⟩,
⟨(some 17),.p .mv,[.t 58],none,[]⟩,
⟨(some 18),.p .mv,[.t 59],none,[]⟩] false []) <|
 .seq (.region [
⟨(some 60),.p .mv,[.t 12],none,[]⟩,
⟨(some 61),.p .mv,[.t 5],none,[]⟩,
⟨(some 62),.w .call,[.c (.fn 122 [] []),.t 60,.t 61],none,[]⟩,
⟨(some 63),.p .mv,[.t 62],none,[]⟩,
⟨(some 64),.p .mv,[.t 13],(some (63,true)),[]⟩,
⟨(some 65),.p .mv,[.t 6],(some (63,true)),[]⟩,
⟨(some 66),.p (.bin .eql),[.t 64,.t 65],(some (63,true)),[]⟩,
⟨(some 67),.p .pick,[.t 63,.t 66,.c (.bool false)],none,[]⟩,
⟨(some 68),.p .mv,[.t 67],none,[]⟩,
⟨(some 69),.p .mv,[.t 14],(some (68,true)),[]⟩,
⟨(some 70),.p .mv,[.t 7],(some (68,true)),[]⟩,
⟨(some 71),.w .call,[.c (.fn 122 [] []),.t 69,.t 70],(some (68,true)),[]⟩,
⟨(some 72),.p .pick,[.t 68,.t 71,.c (.bool false)],none,[]⟩,
⟨(some 73),.p .mv,[.t 72],none,[]⟩,
⟨(some 74),.p .mv,[.t 15],(some (73,true)),[]⟩,
⟨(some 75),.p .mv,[.t 8],(some (73,true)),[]⟩,
⟨(some 76),.w .call,[.c (.fn 135 [] []),.t 74,.t 75],(some (73,true)),[]⟩,
⟨(some 77),.p .pick,[.t 73,.t 76,.c (.bool false)],none,[]⟩,
⟨(some 78),.p .mv,[.t 77],none,[]⟩,
⟨(some 79),.p .mv,[.t 16],(some (78,true)),[]⟩,
⟨(some 80),.p .mv,[.t 9],(some (78,true)),[]⟩,
⟨(some 81),.p (.bin .eql),[.t 79,.t 80],(some (78,true)),[]⟩,
⟨(some 82),.p .pick,[.t 78,.t 81,.c (.bool false)],none,[]⟩,
⟨(some 83),.p .mv,[.t 82],none,[]⟩,
⟨(some 84),.p .mv,[.t 17],(some (83,true)),[]⟩,
⟨(some 85),.p .mv,[.t 10],(some (83,true)),[]⟩,
⟨(some 86),.w .call,[.c (.fn 122 [] []),.t 84,.t 85],(some (83,true)),[]⟩,
⟨(some 87),.p .pick,[.t 83,.t 86,.c (.bool false)],none,[]⟩,
⟨(some 88),.p .mv,[.t 87],none,[]⟩,
⟨(some 89),.p .mv,[.t 18],(some (88,true)),[]⟩,
⟨(some 90),.p .mv,[.t 11],(some (88,true)),[]⟩,
⟨(some 91),.p (.bin .eql),[.t 89,.t 90],(some (88,true)),[]⟩,
⟨(some 92),.p .pick,[.t 88,.t 91,.c (.bool false)],none,[]⟩,
⟨(some 93),.p .mv,[.t 92],none,[]⟩,
⟨(some 94),.w .call,[.c (.fn 112 [] [])],(some (93,true)),[]⟩,
⟨(some 95),.p .pick,[.t 93,.t 94,.c (.bool false)],none,[]⟩,
⟨(some 4),.p .mv,[.t 95],none,[]⟩] false []) <|
 .ret, [.tmp 4]⟩
structure D108 (T : Tab) : Prop where
  fn : T.fn 108 = some ir108
  pr : T.prim 108 = none
  d114 : D114 T
  d112 : D112 T
  d129 : D129 T
  d130 : D130 T
  d131 : D131 T
  d132 : D132 T
  d133 : D133 T
  d134 : D134 T
  d122 : D122 T
  d135 : D135 T
/-- motley/motleylaw11.overAll -/
def ir136 : AFunc := ⟨.seq (.region [
⟨(some 2),.p .mv,[.c (.bool false)],none,[]⟩] false []) <|
 .seq (.region [
⟨(some 6),.p .mv,[.t 0],none,[]⟩,
⟨(some 7),.p .len,[.t 6],none,[]⟩,
⟨(some 3),.p .mv,[.t 7],none,[]⟩] false []) <|
 .seq (.seq (.region [
⟨(some 4),.p .mv,[.c (.int .i64 0)],none,[]⟩] false []) <|
 .block 0 (.loop (.seq (.seq (.region [
⟨(some 8),.p .mv,[.t 4],none,[]⟩,
⟨(some 9),.p .mv,[.t 0],none,[]⟩,
⟨(some 10),.p .len,[.t 9],none,[]⟩,
⟨(some 11),.p (.bin .lss),[.t 8,.t 10],none,[]⟩] false []) <|
 .cond (.t 11) (.skip) (.exit 0)) <|
 .seq (.block 1 (.seq (.region [
⟨(some 14),.p .mv,[.t 3],none,[]⟩,
⟨(some 15),.p .mv,[.t 0],none,[]⟩,
⟨(some 16),.p .mv,[.t 4],none,[]⟩,
⟨(some 17),.p (.ia 1),[.t 15,.t 16],none,[]⟩,
⟨(some 18),.r (.ld 1 false),[.t 17],none,[]⟩,
⟨(some 19),.p .len,[.t 18],none,[]⟩,
⟨(some 20),.p (.bin .add),[.t 14,.t 19],none,[]⟩,
⟨(some 3),.p .mv,[.t 20],none,[]⟩] false []) <|
 .seq (.region [
⟨(some 5),.p .mv,[.c (.int .i64 0)],none,[]⟩] false []) <|
 .block 2 (.loop (.seq (.seq (.region [
⟨(some 21),.p .mv,[.t 5],none,[]⟩,
⟨(some 22),.p .mv,[.t 0],none,[]⟩,
⟨(some 23),.p .mv,[.t 4],none,[]⟩,
⟨(some 24),.p (.ia 1),[.t 22,.t 23],none,[]⟩,
⟨(some 25),.r (.ld 1 false),[.t 24],none,[]⟩,
⟨(some 26),.p .len,[.t 25],none,[]⟩,
⟨(some 27),.p (.bin .lss),[.t 21,.t 26],none,[]⟩] false []) <|
 .cond (.t 27) (.skip) (.exit 2)) <|
 .seq (.block 3 (.region [
⟨(some 30),.p .mv,[.t 3],none,[]⟩,
⟨(some 31),.p .mv,[.t 0],none,[]⟩,
⟨(some 32),.p .mv,[.t 4],none,[]⟩,
⟨(some 33),.p (.ia 1),[.t 31,.t 32],none,[]⟩,
⟨(some 34),.r (.ld 1 false),[.t 33],none,[]⟩,
⟨(some 35),.p .mv,[.t 5],none,[]⟩,
⟨(some 36),.p (.ia 1),[.t 34,.t 35],none,[]⟩,
⟨(some 37),.r (.ld 1 false),[.t 36],none,[]⟩,
⟨(some 38),.p .lenS,[.t 37],none,[]⟩,
⟨(some 39),.p (.bin .add),[.t 30,.t 38],none,[]⟩,
⟨(some 3),.p .mv,[.t 39],none,[]⟩] false [])) <|
 .region [
⟨(some 28),.p .mv,[.t 5],none,[]⟩,
⟨(some 29),.p (.bin .add),[.t 28,.c (.int .i64 1)],none,[]⟩,
⟨(some 5),.p .mv,[.t 29],none,[]⟩] false [])))) <|
 .region [
⟨(some 12),.p .mv,[.t 4],none,[]⟩,
⟨(some 13),.p (.bin .add),[.t 12,.c (.int .i64 1)],none,[]⟩,
⟨(some 4),.p .mv,[.t 13],none,[]⟩] false []))) <|
 .seq (.region [
⟨(some 40),.p .mv,[.t 3],none,[]⟩,
⟨(some 41),.p (.bin .gtr),[.t 40,.c (.int .i64 8000)],none,[]⟩,
⟨(some 2),.p .mv,[.t 41],none,[]⟩] false []) <|
 .ret, [.tmp 2]⟩
structure D136 (T : Tab) : Prop where
  fn : T.fn 136 = some ir136
  pr : T.prim 136 = none
/-- motley/motleylaw11.ListPairs -/
def ir109 : AFunc := ⟨.seq (.region [
⟨(some 2),.p .mv,[.c (.bool false)],none,[]⟩] false []) <|
 .seq (.seq (.region [
⟨(some 17),.p .mv,[.t 0],none,[]⟩,
⟨(some 18),.w .call,[.c (.fn 136 [] []),.t 17],none,[]⟩] false []) <|
 .cond (.t 18) (.seq (.region [
⟨(some 19),.w .call,[.c (.fn 112 [] [])],none,[]⟩,
⟨(some 2),.p .mv,[.t 19],none,[]⟩] false []) <|
 .ret) (.skip)) <|
 .seq (.seq (.region [
⟨(some 20),.p .mv,[.t 0],none,[]⟩,
⟨(some 21),.p .len,[.t 20],none,[]⟩,
⟨(some 22),.p (.bin .gtr),[.t 21,.c (.int .i64 0)],none,[]⟩] false []) <|
 .cond (.t 22) (.seq (.region [
⟨(some 24),.p .mv,[.t 0],none,[]⟩,
⟨(some 25),.p (.ia 1),[.t 24,.c (.int .i64 0)],none,[]⟩,
⟨(some 26),.r (.ld 1 false),[.t 25],none,[]⟩,
⟨(some 27),.w .call,[.c (.fn 137 [] []),.t 26],none,[]⟩,
⟨(some 23),.p .mv,[.t 27],none,[]⟩,
⟨(some 28),.p (.ext 0),[.t 23],none,[]⟩,
⟨(some 29),.p (.ext 1),[.t 23],none,[]⟩,
⟨(some 3),.p .mv,[.t 28],none,[]⟩,
⟨(some 4),.p .mv,[.t 29],none,[]⟩] false []) <|
 .seq (.region [
⟨(some 31),.p .mv,[.t 0],none,[]⟩,
⟨(some 32),.p (.ia 1),[.t 31,.c (.int .i64 0)],none,[]⟩,
⟨(some 33),.r (.ld 1 false),[.t 32],none,[]⟩,
⟨(some 34),.w .call,[.c (.fn 138 [] []),.t 33],none,[]⟩,
⟨(some 30),.p .mv,[.t 34],none,[]⟩,
⟨(some 35),.p (.ext 0),[.t 30],none,[]⟩,
⟨(some 36),.p (.ext 1),[.t 30],none,[]⟩,
⟨(some 5),.p .mv,[.t 35],none,[]⟩,
⟨(some 6),.p .mv,[.t 36],none,[]⟩] false []) <|
 .seq (.seq (.region [
⟨(some 37),.p .mv,[.t 5],none,[]⟩,
⟨(some 38),.p .len,[.t 37],none,[]⟩,
⟨(some 39),.p .mv,[.t 3],none,[]⟩,
⟨(some 40),.p .len,[.t 39],none,[]⟩,
⟨(some 41),.p (.bin .neq),[.t 38,.t 40],none,[]⟩,
⟨(some 42),.p .mv,[.t 41],none,[]⟩,
⟨(some 43),.p .mv,[.t 6],(some (42,false)),[]⟩,
⟨(some 44),.p .mv,[.t 4],(some (42,false)),[]⟩,
⟨(some 45),.p (.bin .neq),[.t 43,.t 44],(some (42,false)),[]⟩,
⟨(some 46),.p .pick,[.t 42,.c (.bool true),.t 45],none,[]⟩] false []) <|
 .cond (.t 46) (.seq (.region [
⟨(some 2),.p .mv,[.c (.bool false)],none,[]⟩] false []) <|
 .ret) (.skip)) <|
 .seq (.region [
⟨(some 7),.p .mv,[.c (.int .i64 0)],none,[]⟩] false []) <|
 .block 0 (.loop (.seq (.seq (.region [
⟨(some 47),.p .mv,[.t 7],none,[]⟩,
⟨(some 48),.p .mv,[.t 5],none,[]⟩,
⟨(some 49),.p .len,[.t 48],none,[]⟩,
⟨(some 50),.p (.bin .lss),[.t 47,.t 49],none,[]⟩] false []) <|
 .cond (.t 50) (.skip) (.exit 0)) <|
 .seq (.block 1 (.seq (.region [
⟨(some 53),.p .mv,[.t 5],none,[]⟩,
⟨(some 54),.p .mv,[.t 7],none,[]⟩,
⟨(some 55),.p (.ia 2),[.t 53,.t 54],none,[]⟩,
⟨(some 56),.r (.ld 2 true),[.t 55],none,[]⟩,
⟨(some 57),.p .mv,[.t 3],none,[]⟩,
⟨(some 58),.p .mv,[.t 7],none,[]⟩,
⟨(some 59),.p (.ia 2),[.t 57,.t 58],none,[]⟩,
⟨(some 60),.r (.ld 2 true),[.t 59],none,[]⟩,
⟨(some 61),.p (.eqCells true [.str,.str]),[.t 56,.t 60],none,[]⟩] true []) <|
 .cond (.t 61) (.seq (.region [
⟨(some 2),.p .mv,[.c (.bool false)],none,[]⟩] false []) <|
 .ret) (.skip))) <|
 .region [
⟨(some 51),.p .mv,[.t 7],none,[]⟩,
⟨(some 52),.p (.bin .add),[.t 51,.c (.int .i64 1)],none,[]⟩,
⟨(some 7),.p .mv,[.t 52],none,[]⟩] false []))) (.skip)) <|
 .seq (.region [
⟨(some 63),.p .mv,[.t 0],none,[]⟩,
⟨(some 64),.w .call,[.c (.fn 139 [] []),.t 63],none,[]⟩,
⟨(some 62),.p .mv,[.t 64],none,[]⟩,
⟨(some 65),.p (.ext 0),[.t 62],none,[]⟩,
⟨(some 66),.p (.ext 1),[.t 62],none,[]⟩,
⟨(some 8),.p .mv,[.t 65],none,[]⟩,
⟨(some 9),.p .mv,[.t 66],none,[]⟩] false []) <|
 .seq (.region [
⟨(some 68),.p .mv,[.t 0],none,[]⟩,
⟨(some 69),.w .call,[.c (.fn 140 [] []),.t 68],none,[]⟩,
⟨(some 67),.p .mv,[.t 69],none,[]⟩,
⟨(some 70),.p (.ext 0),[.t 67],none,[]⟩,
⟨(some 71),.p (.ext 1),[.t 67],none,[]⟩,
⟨(some 10),.p .mv,[.t 70],none,[]⟩,
⟨(some 11),.p .mv,[.t 71],none,[]⟩] false []) <|
 .seq (.region [
⟨(some 73),.p .mv,[.t 0],none,[]⟩,
⟨(some 74),.w .call,[.c (.fn 141 [] []),.t 73],none,[]⟩,
⟨(some 72),.p .mv,[.t 74],none,[]⟩,
⟨(some 75),.p (.ext 0),[.t 72],none,[]⟩,
⟨(some 76),.p (.ext 1),[.t 72],none,[]⟩,
⟨(some 12),.p .mv,[.t 75],none,[]⟩,
⟨(some 13),.p .mv,[.t 76],none,[]⟩] false []) <|
 .seq (.region [
⟨(some 78),.p .mv,[.t 0],none,[]⟩,
⟨(some 79),.w .call,[.c (.fn 142 [] []),.t 78],none,[]⟩,
⟨(some 77),.p .mv,[.t 79],none,[]⟩,
⟨(some 80),.p (.ext 0),[.t 77],none,[]⟩,
⟨(some 81),.p (.ext 1),[.t 77],none,[]⟩,
⟨(some 14),.p .mv,[.t 80],none,[]⟩,
⟨(some 15),.p .mv,[.t 81],none,[]⟩] false []) <|
 .seq (.seq (.region [
⟨(some 82),.p .mv,[.t 12],none,[]⟩,
⟨(some 83),.p .mv,[.t 8],none,[]⟩,
⟨(some 84),.w .call,[.c (.fn 122 [] []),.t 82,.t 83],none,[]⟩,
⟨(some 85),.p (.un .not),[.t 84],none,[]⟩,
⟨(some 86),.p .mv,[.t 85],none,[]⟩,
⟨(some 87),.p .mv,[.t 13],(some (86,false)),[]⟩,
⟨(some 88),.p .mv,[.t 9],(some (86,false)),[]⟩,
⟨(some 89),.p (.bin .neq),[.t 87,.t 88],(some (86,false)),[]⟩,
⟨(some 90),.p .pick,[.t 86,.c (.bool true),.t 89],none,[]⟩,
⟨(some 91),.p .mv,[.t 90],none,[]⟩,
⟨(some 92),.p .mv,[.t 14],(some (91,false)),[]⟩,
⟨(some 93),.p .len,[.t 92],(some (91,false)),[]⟩,
⟨(some 94),.p .mv,[.t 10],(some (91,false)),[]⟩,
⟨(some 95),.p .len,[.t 94],(some (91,false)),[]⟩,
⟨(some 96),.p (.bin .neq),[.t 93,.t 95],(some (91,false)),[]⟩,
⟨(some 97),.p .pick,[.t 91,.c (.bool true),.t 96],none,[]⟩,
⟨(some 98),.p .mv,[.t 97],none,[]⟩,
⟨(some 99),.p .mv,[.t 15],(some (98,false)),[]⟩,
⟨(some 100),.p .mv,[.t 11],(some (98,false)),[]⟩,
⟨(some 101),.p (.bin .neq),[.t 99,.t 100],(some (98,false)),[]⟩,
⟨(some 102),.p .pick,[.t 98,.c (.bool true),.t 101],none,[]⟩] false []) <|
 .cond (.t 102) (.seq (.region [
⟨(some 2),.p .mv,[.c (.bool false)],none,[]⟩] false []) <|
 .ret) (.skip)) <|
 .seq (.seq (.region [
⟨(some 16),.p .mv,[.c (.int .i64 0)],none,[]⟩] false []) <|
 .block 2 (.loop (.seq (.seq (.region [
⟨(some 103),.p .mv,[.t 16],none,[]⟩,
⟨(some 104),.p .mv,[.t 14],none,[]⟩,
⟨(some 105),.p .len,[.t 104],none,[]⟩,
⟨(some 106),.p (.bin .lss),[.t 103,.t 105],none,[]⟩] false []) <|
 .cond (.t 106) (.skip) (.exit 2)) <|
 .seq (.block 3 (.seq (.region [
⟨(some 109),.p .mv,[.t 14],none,[]⟩,
⟨(some 110),.p .mv,[.t 16],none,[]⟩,
⟨(some 111),.p (.ia 1),[.t 109,.t 110],none,[]⟩,
⟨(some 112),.r (.ld 1 false),[.t 111],none,[]⟩,
⟨(some 113),.p .mv,[.t 10],none,[]⟩,
⟨(some 114),.p .mv,[.t 16],none,[]⟩,
⟨(some 115),.p (.ia 1),[.t 113,.t 114],none,[]⟩,
⟨(some 116),.r (.ld 1 false),[.t 115],none,[]⟩,
⟨(some 117),.w .call,[.c (.fn 122 [] []),.t 112,.t 116],none,[]⟩,
⟨(some 118),.p (.un .not),[.t 117],none,[]⟩] true []) <|
 .cond (.t 118) (.seq (.region [
⟨(some 2),.p .mv,[.c (.bool false)],none,[]⟩] false []) <|
 .ret) (.skip))) <|
 .region [
⟨(some 107),.p .mv,[.t 16],none,[]⟩,
⟨(some 108),.p (.bin .add),[.t 107,.c (.int .i64 1)],none,[]⟩,
⟨(some 16),.p .mv,[.t 108],none,[]⟩] false []))) <|
 .seq (.region [
⟨(some 119),.w .call,[.c (.fn 112 [] [])],none,[]⟩,
⟨(some 2),.p .mv,[.t 119],none,[]⟩] false []) <|
 .ret, [.tmp 2]⟩
structure D109 (T : Tab) : Prop where
  fn : T.fn 109 = some ir109
  pr : T.prim 109 = none
  d136 : D136 T
  d112 : D112 T
  d137 : D137 T
  d138 : D138 T
  d139 : D139 T
  d140 : D140 T
  d141 : D141 T
  d142 : D142 T
  d122 : D122 T
/-- motley/motleylaw11.ListReduces -/
def ir110 : AFunc := ⟨.seq (.region [
⟨(some 4),.p .mv,[.c (.bool false)],none,[]⟩] false []) <|
 .seq (.seq (.region [
⟨(some 11),.p .mv,[.t 1],none,[]⟩,
⟨(some 12),.p .len,[.t 11],none,[]⟩,
⟨(some 13),.p (.bin .gtr),[.t 12,.c (.int .i64 8000)],none,[]⟩] false []) <|
 .cond (.t 13) (.seq (.region [
⟨(some 14),.w .call,[.c (.fn 112 [] [])],none,[]⟩,
⟨(some 4),.p .mv,[.t 14],none,[]⟩] false []) <|
 .ret) (.skip)) <|
 .seq (.region [
⟨(some 16),.p .mv,[.t 0],none,[]⟩,
⟨(some 17),.p .mv,[.t 1],none,[]⟩,
⟨(some 18),.w .call,[.c (.fn 143 [] []),.t 16,.t 17],none,[]⟩,
⟨(some 15),.p .mv,[.t 18],none,[]⟩,
⟨(some 19),.p (.ext 0),[.t 15],none,[]⟩,
⟨(some 20),.p (.ext 1),[.t 15],none,[]⟩,
⟨(some 21),.p (.ext 2),[.t 15],none,[]⟩,
⟨(some 5),.p .mv,[.t 19],none,[]⟩,
⟨(some 6),.p .mv,[.t 20],none,[]⟩,
⟨(some 7),.p .mv,[.t 21],none,[]⟩] false []) <|
 .seq (.region [
⟨(some 23),.p .mv,[.t 0],none,[]⟩,
⟨(some 24),.p .mv,[.t 1],none,[]⟩,
⟨(some 25),.w .call,[.c (.fn 144 [] []),.t 23,.t 24],none,[]⟩,
⟨(some 22),.p .mv,[.t 25],none,[]⟩,
⟨(some 26),.p (.ext 0),[.t 22],none,[]⟩,
⟨(some 27),.p (.ext 1),[.t 22],none,[]⟩,
⟨(some 28),.p (.ext 2),[.t 22],none,[]⟩,
⟨(some 8),.p .mv,[.t 26],none,[]⟩,
⟨(some 9),.p .mv,[.t 27],none,[]⟩,
⟨(some 10),.p .mv,[.t 28],none,[]⟩] false []) <|
 .seq (.region [
⟨(some 29),.p .mv,[.t 8],none,[]⟩,
⟨(some 30),.p .mv,[.t 5],none,[]⟩,
⟨(some 31),.p (.bin .eql),[.t 29,.t 30],none,[]⟩,
⟨(some 32),.p .mv,[.t 31],none,[]⟩,
⟨(some 33),.p .mv,[.t 9],(some (32,true)),[]⟩,
⟨(some 34),.p .mv,[.t 6],(some (32,true)),[]⟩,
⟨(some 35),.p (.bin .eql),[.t 33,.t 34],(some (32,true)),[]⟩,
⟨(some 36),.p .pick,[.t 32,.t 35,.c (.bool false)],none,[]⟩,
⟨(some 37),.p .mv,[.t 36],none,[]⟩,
⟨(some 38),.p .mv,[.t 10],(some (37,true)),[]⟩,
⟨(some 39),.p .mv,[.t 7],(some (37,true)),[]⟩,
⟨(some 40),.p (.bin .eql),[.t 38,.t 39],(some (37,true)),[]⟩,
⟨(some 41),.p .pick,[.t 37,.t 40,.c (.bool false)],none,[]⟩,
⟨(some 42),.p .mv,[.t 41],none,[]⟩,
⟨(some 43),.w .call,[.c (.fn 112 [] [])],(some (42,true)),[]⟩,
⟨(some 44),.p .pick,[.t 42,.t 43,.c (.bool false)],none,[]⟩,
⟨(some 4),.p .mv,[.t 44],none,[]⟩] false []) <|
 .ret, [.tmp 4]⟩
structure D110 (T : Tab) : Prop where
  fn : T.fn 110 = some ir110
  pr : T.prim 110 = none
  d112 : D112 T
  d143 : D143 T
  d144 : D144 T
/-- motley/motleylaw11.overScalars -/
def ir145 : AFunc := ⟨.seq (.region [
⟨(some 2),.p .mv,[.c (.bool false)],none,[]⟩] false []) <|
 .seq (.region [
⟨(some 5),.p .mv,[.t 0],none,[]⟩,
⟨(some 6),.p .len,[.t 5],none,[]⟩,
⟨(some 3),.p .mv,[.t 6],none,[]⟩] false []) <|
 .seq (.seq (.region [
⟨(some 4),.p .mv,[.c (.int .i64 0)],none,[]⟩] false []) <|
 .block 0 (.loop (.seq (.seq (.region [
⟨(some 7),.p .mv,[.t 4],none,[]⟩,
⟨(some 8),.p .mv,[.t 0],none,[]⟩,
⟨(some 9),.p .len,[.t 8],none,[]⟩,
⟨(some 10),.p (.bin .lss),[.t 7,.t 9],none,[]⟩] false []) <|
 .cond (.t 10) (.skip) (.exit 0)) <|
 .seq (.block 1 (.region [
⟨(some 13),.p .mv,[.t 3],none,[]⟩,
⟨(some 14),.p .mv,[.t 0],none,[]⟩,
⟨(some 15),.p .mv,[.t 4],none,[]⟩,
⟨(some 16),.p (.ia 4),[.t 14,.t 15],none,[]⟩,
⟨(some 17),.p (.fa 2),[.t 16],none,[]⟩,
⟨(some 18),.r (.ld 1 false),[.t 17],none,[]⟩,
⟨(some 19),.p .lenS,[.t 18],none,[]⟩,
⟨(some 20),.p (.bin .add),[.t 13,.t 19],none,[]⟩,
⟨(some 3),.p .mv,[.t 20],none,[]⟩] false [])) <|
 .region [
⟨(some 11),.p .mv,[.t 4],none,[]⟩,
⟨(some 12),.p (.bin .add),[.t 11,.c (.int .i64 1)],none,[]⟩,
⟨(some 4),.p .mv,[.t 12],none,[]⟩] false []))) <|
 .seq (.region [
⟨(some 21),.p .mv,[.t 3],none,[]⟩,
⟨(some 22),.p (.bin .gtr),[.t 21,.c (.int .i64 8000)],none,[]⟩,
⟨(some 2),.p .mv,[.t 22],none,[]⟩] false []) <|
 .ret, [.tmp 2]⟩
structure D145 (T : Tab) : Prop where
  fn : T.fn 145 = some ir145
  pr : T.prim 145 = none
/-- motley/motleylaw11.ListNumbers -/
def ir111 : AFunc := ⟨.seq (.region [
⟨(some 4),.p .mv,[.c (.bool false)],none,[]⟩] false []) <|
 .seq (.seq (.region [
⟨(some 9),.p .mv,[.t 0],none,[]⟩,
⟨(some 10),.w .call,[.c (.fn 145 [] []),.t 9],none,[]⟩] false []) <|
 .cond (.t 10) (.seq (.region [
⟨(some 11),.w .call,[.c (.fn 112 [] [])],none,[]⟩,
⟨(some 4),.p .mv,[.t 11],none,[]⟩] false []) <|
 .ret) (.skip)) <|
 .seq (.region [
⟨(some 13),.p .mv,[.t 0],none,[]⟩,
⟨(some 14),.p .mv,[.t 1],none,[]⟩,
⟨(some 15),.w .call,[.c (.fn 146 [] []),.t 13,.t 14],none,[]⟩,
⟨(some 12),.p .mv,[.t 15],none,[]⟩,
⟨(some 16),.p (.ext 0),[.t 12],none,[]⟩,
⟨(some 17),.p (.ext 1),[.t 12],none,[]⟩,
⟨(some 5),.p .mv,[.t 16],none,[]⟩,
⟨(some 6),.p .mv,[.t 17],none,[]⟩] false []) <|
 .seq (.region [
⟨(some 19),.p .mv,[.t 0],none,[]⟩,
⟨(some 20),.p .mv,[.t 1],none,[]⟩,
⟨(some 21),.w .call,[.c (.fn 147 [] []),.t 19,.t 20],none,[]⟩,
⟨(some 18),.p .mv,[.t 21],none,[]⟩,
⟨(some 22),.p (.ext 0),[.t 18],none,[]⟩,
⟨(some 23),.p (.ext 1),[.t 18],none,[]⟩,
⟨(some 7),.p .mv,[.t 22],none,[]⟩,
⟨(some 8),.p .mv,[.t 23],none,[]⟩] false []) <|
 .seq (.region [
⟨(some 24),.p .mv,[.t 7],none,[]⟩,
⟨(some 25),.p .mv,[.t 5],none,[]⟩,
⟨(some 26),.w .call,[.c (.fn 117 [] []),.t 24,.t 25],none,[]⟩,
⟨(some 27),.p .mv,[.t 26],none,[]⟩,
⟨(some 28),.p .mv,[.t 8],(some (27,true)),[]⟩,
⟨(some 29),.p .mv,[.t 6],(some (27,true)),[]⟩,
⟨(some 30),.p (.bin .eql),[.t 28,.t 29],(some (27,true)),[]⟩,
⟨(some 31),.p .pick,[.t 27,.t 30,.c (.bool false)],none,[]⟩,
⟨(some 32),.p .mv,[.t 31],none,[]⟩,
⟨(some 33),.w .call,[.c (.fn 112 [] [])],(some (32,true)),[]⟩,
⟨(some 34),.p .pick,[.t 32,.t 33,.c (.bool false)],none,[]⟩,
⟨(some 4),.p .mv,[.t 34],none,[]⟩] false []) <|
 .ret, [.tmp 4]⟩
structure D111 (T : Tab) : Prop where
  fn : T.fn 111 = some ir111
  pr : T.prim 111 = none
  d145 : D145 T
  d112 : D112 T
  d146 : D146 T
  d147 : D147 T
  d117 : D117 T
/-- motley/motleylaw11.ListFirsts -/
def ir527 : AFunc := ⟨.seq (.region [
⟨(some 2),.p .mv,[.c (.bool false)],none,[]⟩] false []) <|
 .seq (.seq (.region [
⟨(some 9),.p .mv,[.t 0],none,[]⟩,
⟨(some 10),.w .call,[.c (.fn 145 [] []),.t 9],none,[]⟩] false []) <|
 .cond (.t 10) (.seq (.region [
⟨(some 11),.w .call,[.c (.fn 112 [] [])],none,[]⟩,
⟨(some 2),.p .mv,[.t 11],none,[]⟩] false []) <|
 .ret) (.skip)) <|
 .seq (.region [
⟨(some 13),.p .mv,[.t 0],none,[]⟩,
⟨(some 14),.w .call,[.c (.fn 528 [] []),.t 13],none,[]⟩,
⟨(some 12),.p .mv,[.t 14],none,[]⟩,
⟨(some 15),.p (.ext 0),[.t 12],none,[]⟩,
⟨(some 16),.p (.ext 1),[.t 12],none,[]⟩,
⟨(some 17),.p (.ext 2),[.t 12],none,[]⟩,
⟨(some 3),.p .mv,[.t 15],none,[]⟩,
⟨(some 4),.p .mv,[.t 16],none,[]⟩,
⟨(some 5),.p .mv,[.t 17],none,[]⟩] false []) <|
 .seq (.region [
⟨(some 19),.p .mv,[.t 0],none,[]⟩,
⟨(some 20),.w .call,[.c (.fn 529 [] []),.t 19],none,[]⟩,
⟨(some 18),.p .mv,[.t 20],none,[]⟩,
⟨(some 21),.p (.ext 0),[.t 18],none,[]⟩,
⟨(some 22),.p (.ext 1),[.t 18],none,[]⟩,
⟨(some 23),.p (.ext 2),[.t 18],none,[]⟩,
⟨(some 6),.p .mv,[.t 21],none,[]⟩,
⟨(some 7),.p .mv,[.t 22],none,[]⟩,
⟨(some 8),.p .mv,[.t 23],none,[]⟩] false []) <|
 .seq (.region [
⟨(some 24),.p .mv,[.t 6],none,[]⟩,
⟨(some 25),.p .mv,[.t 3],none,[]⟩,
⟨(some 26),.p (.bin .eql),[.t 24,.t 25],none,[]⟩,
⟨(some 27),.p .mv,[.t 26],none,[]⟩,
⟨(some 28),.p .mv,[.t 7],(some (27,true)),[]⟩,
⟨(some 29),.p .mv,[.t 4],(some (27,true)),[]⟩,
⟨(some 30),.p (.eqB false),[.t 28,.t 29],(some (27,true)),[]⟩,
⟨(some 31),.p .pick,[.t 27,.t 30,.c (.bool false)],none,[]⟩,
⟨(some 32),.p .mv,[.t 31],none,[]⟩,
⟨(some 33),.p .mv,[.t 8],(some (32,true)),[]⟩,
⟨(some 34),.p .mv,[.t 5],(some (32,true)),[]⟩,
⟨(some 35),.p (.bin .eql),[.t 33,.t 34],(some (32,true)),[]⟩,
⟨(some 36),.p .pick,[.t 32,.t 35,.c (.bool false)],none,[]⟩,
⟨(some 37),.p .mv,[.t 36],none,[]⟩,
⟨(some 38),.w .call,[.c (.fn 112 [] [])],(some (37,true)),[]⟩,
⟨(some 39),.p .pick,[.t 37,.t 38,.c (.bool false)],none,[]⟩,
⟨(some 2),.p .mv,[.t 39],none,[]⟩] false []) <|
 .ret, [.tmp 2]⟩
structure D527 (T : Tab) : Prop where
  fn : T.fn 527 = some ir527
  pr : T.prim 527 = none
  d145 : D145 T
  d112 : D112 T
  d528 : D528 T
  d529 : D529 T
end Go.Am
