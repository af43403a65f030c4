/- Texts of functions for the small machine, printed by mkfile.py out of the compiled functions, and for each what a table has to hold. -/
import Derived.Test.YtepgjaknkjkpaaaDoorAmPrimFD
import Derived.Test.YtepgjaknkjkpaaaDoorAmIrNum
import Derived.Test.YtepgjaknkjkpaaaDoorAmIrRef01
set_option linter.unusedVariables false
namespace Go.Am
/-- motley/motleylaw01.long -/
def ir240 : AFunc := ⟨.seq (.region [
⟨(some 2),.p .mv,[.c (.bool false)],none,[]⟩] false []) <|
 .seq (.region [
⟨(some 3),.p .mv,[.t 0],none,[]⟩,
⟨(some 4),.p .lenS,[.t 3],none,[]⟩,
⟨(some 5),.p (.bin .gtr),[.t 4,.c (.int .i64 16384)],none,[]⟩,
⟨(some 2),.p .mv,[.t 5],none,[]⟩] false []) <|
 .ret, [.tmp 2]⟩
structure D240 (T : Tab) : Prop where
  fn : T.fn 240 = some ir240
  pr : T.prim 240 = none
/-- motley/motleylaw01.known -/
def ir241 : AFunc := ⟨.seq (.region [
⟨(some 0),.p .mv,[.c (.bool false)],none,[]⟩] false []) <|
 .seq (.region [
⟨(some 7),.p (.bld [(.int .i64 0),(.int .i64 0),(.str []),(.bool false)] [(0,1),(2,1)]),[.c (.int .i64 2),.c (.str [32,32,45,49,50,97,98,99])],none,[]⟩,
⟨(some 8),.w .call,[.c (.fn 170 [] []),.t 7],none,[]⟩,
⟨(some 6),.p .mv,[.t 8],none,[]⟩,
⟨(some 9),.p (.ext 0),[.t 6],none,[]⟩,
⟨(some 10),.p (.ext 1),[.t 6],none,[]⟩,
⟨(some 1),.p .mv,[.t 9],none,[]⟩,
⟨(some 2),.p .mv,[.t 10],none,[]⟩] false []) <|
 .seq (.region [
⟨(some 12),.w .call,[.c (.fn 167 [] []),.c (.int .i64 3),.c (.int .i64 (-7)),.c (.int .i64 2)],none,[]⟩,
⟨(some 11),.p .mv,[.t 12],none,[]⟩,
⟨(some 13),.p (.ext 0),[.t 11],none,[]⟩,
⟨(some 14),.p (.ext 1),[.t 11],none,[]⟩,
⟨(some 15),.p (.ext 2),[.t 11],none,[]⟩,
⟨(some 3),.p .mv,[.t 13],none,[]⟩,
⟨(some 4),.p .mv,[.t 14],none,[]⟩,
⟨(some 5),.p .mv,[.t 15],none,[]⟩] false []) <|
 .seq (.region [
⟨(some 16),.p .mv,[.t 1],none,[]⟩,
⟨(some 17),.p (.bin .eql),[.t 16,.c (.int .i64 (-12))],none,[]⟩,
⟨(some 18),.p .mv,[.t 17],none,[]⟩,
⟨(some 19),.p .mv,[.t 2],(some (18,true)),[]⟩,
⟨(some 20),.p (.bin .eql),[.t 19,.c (.int .i64 0)],(some (18,true)),[]⟩,
⟨(some 21),.p .pick,[.t 18,.t 20,.c (.bool false)],none,[]⟩,
⟨(some 22),.p .mv,[.t 21],none,[]⟩,
⟨(some 23),.p .mv,[.t 3],(some (22,true)),[]⟩,
⟨(some 24),.p (.bin .eql),[.t 23,.c (.int .i64 (-4))],(some (22,true)),[]⟩,
⟨(some 25),.p .pick,[.t 22,.t 24,.c (.bool false)],none,[]⟩,
⟨(some 26),.p .mv,[.t 25],none,[]⟩,
⟨(some 27),.p .mv,[.t 4],(some (26,true)),[]⟩,
⟨(some 28),.p (.bin .eql),[.t 27,.c (.int .i64 0)],(some (26,true)),[]⟩,
⟨(some 29),.p .pick,[.t 26,.t 28,.c (.bool false)],none,[]⟩,
⟨(some 30),.p .mv,[.t 29],none,[]⟩,
⟨(some 31),.p .mv,[.t 5],(some (30,true)),[]⟩,
⟨(some 32),.p (.bin .eql),[.t 31,.c (.int .i64 0)],(some (30,true)),[]⟩,
⟨(some 33),.p .pick,[.t 30,.t 32,.c (.bool false)],none,[]⟩,
⟨(some 34),.p .mv,[.t 33],none,[]⟩,
⟨(some 35),.w .call,[.c (.fn 242 [] []),.c (.str [32,32,45,49,50,97,98,99])],(some (34,true)),[]⟩,
⟨(some 36),.p (.un .not),[.t 35],(some (34,true)),[]⟩,
⟨(some 37),.p .pick,[.t 34,.t 36,.c (.bool false)],none,[]⟩,
⟨(some 0),.p .mv,[.t 37],none,[]⟩] false []) <|
 .ret, [.tmp 0]⟩
structure D241 (T : Tab) : Prop where
  fn : T.fn 241 = some ir241
  pr : T.prim 241 = none
  d170 : D170 T
  d167 : D167 T
  d242 : D242 T
/-- motley/motleylaw01.NumLooks -/
def ir232 : AFunc := ⟨.seq (.region [
⟨(some 2),.p .mv,[.c (.bool false)],none,[]⟩] false []) <|
 .seq (.seq (.region [
⟨(some 3),.p .mv,[.t 0],none,[]⟩,
⟨(some 4),.w .call,[.c (.fn 240 [] []),.t 3],none,[]⟩] false []) <|
 .cond (.t 4) (.seq (.region [
⟨(some 5),.w .call,[.c (.fn 241 [] [])],none,[]⟩,
⟨(some 2),.p .mv,[.t 5],none,[]⟩] false []) <|
 .ret) (.skip)) <|
 .seq (.region [
⟨(some 6),.p .mv,[.t 0],none,[]⟩,
⟨(some 7),.w .call,[.c (.fn 242 [] []),.t 6],none,[]⟩,
⟨(some 8),.p .mv,[.t 0],none,[]⟩,
⟨(some 9),.w .call,[.c (.fn 243 [] []),.t 8],none,[]⟩,
⟨(some 10),.p (.eqB false),[.t 7,.t 9],none,[]⟩,
⟨(some 11),.p .mv,[.t 10],none,[]⟩,
⟨(some 12),.w .call,[.c (.fn 241 [] [])],(some (11,true)),[]⟩,
⟨(some 13),.p .pick,[.t 11,.t 12,.c (.bool false)],none,[]⟩,
⟨(some 2),.p .mv,[.t 13],none,[]⟩] false []) <|
 .ret, [.tmp 2]⟩
structure D232 (T : Tab) : Prop where
  fn : T.fn 232 = some ir232
  pr : T.prim 232 = none
  d240 : D240 T
  d241 : D241 T
  d242 : D242 T
  d243 : D243 T
/-- motley/motleylaw01.NumDoes -/
def ir233 : AFunc := ⟨.seq (.region [
⟨(some 6),.p .mv,[.c (.bool false)],none,[]⟩] false []) <|
 .seq (.region [
⟨(some 14),.p .mv,[.t 0],none,[]⟩,
⟨(some 15),.p .mv,[.t 1],none,[]⟩,
⟨(some 16),.p .mv,[.t 2],none,[]⟩,
⟨(some 17),.w .call,[.c (.fn 166 [] []),.t 14,.t 15,.t 16],none,[]⟩,
⟨(some 13),.p .mv,[.t 17],none,[]⟩,
⟨(some 18),.p (.ext 0),[.t 13],none,[]⟩,
⟨(some 19),.p (.ext 1),[.t 13],none,[]⟩,
⟨(some 20),.p (.ext 2),[.t 13],none,[]⟩,
⟨(some 7),.p .mv,[.t 18],none,[]⟩,
⟨(some 8),.p .mv,[.t 19],none,[]⟩,
⟨(some 9),.p .mv,[.t 20],none,[]⟩] false []) <|
 .seq (.region [
⟨(some 22),.p .mv,[.t 0],none,[]⟩,
⟨(some 23),.p .mv,[.t 1],none,[]⟩,
⟨(some 24),.p .mv,[.t 2],none,[]⟩,
⟨(some 25),.w .call,[.c (.fn 167 [] []),.t 22,.t 23,.t 24],none,[]⟩,
⟨(some 21),.p .mv,[.t 25],none,[]⟩,
⟨(some 26),.p (.ext 0),[.t 21],none,[]⟩,
⟨(some 27),.p (.ext 1),[.t 21],none,[]⟩,
⟨(some 28),.p (.ext 2),[.t 21],none,[]⟩,
⟨(some 10),.p .mv,[.t 26],none,[]⟩,
⟨(some 11),.p .mv,[.t 27],none,[]⟩,
⟨(some 12),.p .mv,[.t 28],none,[]⟩] false []) <|
 .seq (.region [
⟨(some 29),.p .mv,[.t 10],none,[]⟩,
⟨(some 30),.p .mv,[.t 7],none,[]⟩,
⟨(some 31),.p (.bin .eql),[.t 29,.t 30],none,[]⟩,
⟨(some 32),.p .mv,[.t 31],none,[]⟩,
⟨(some 33),.p .mv,[.t 11],(some (32,true)),[]⟩,
⟨(some 34),.p .mv,[.t 8],(some (32,true)),[]⟩,
⟨(some 35),.p (.bin .eql),[.t 33,.t 34],(some (32,true)),[]⟩,
⟨(some 36),.p .pick,[.t 32,.t 35,.c (.bool false)],none,[]⟩,
⟨(some 37),.p .mv,[.t 36],none,[]⟩,
⟨(some 38),.p .mv,[.t 12],(some (37,true)),[]⟩,
⟨(some 39),.p .mv,[.t 9],(some (37,true)),[]⟩,
⟨(some 40),.p (.bin .eql),[.t 38,.t 39],(some (37,true)),[]⟩,
⟨(some 41),.p .pick,[.t 37,.t 40,.c (.bool false)],none,[]⟩,
⟨(some 42),.p .mv,[.t 41],none,[]⟩,
⟨(some 43),.w .call,[.c (.fn 241 [] [])],(some (42,true)),[]⟩,
⟨(some 44),.p .pick,[.t 42,.t 43,.c (.bool false)],none,[]⟩,
⟨(some 6),.p .mv,[.t 44],none,[]⟩] false []) <|
 .ret, [.tmp 6]⟩
structure D233 (T : Tab) : Prop where
  fn : T.fn 233 = some ir233
  pr : T.prim 233 = none
  d166 : D166 T
  d167 : D167 T
  d241 : D241 T
/-- motley/motleylaw01.NumDivides -/
def ir234 : AFunc := ⟨.seq (.region [
⟨(some 4),.p .mv,[.c (.bool false)],none,[]⟩] false []) <|
 .seq (.region [
⟨(some 12),.p .mv,[.t 0],none,[]⟩,
⟨(some 13),.p .mv,[.t 1],none,[]⟩,
⟨(some 14),.w .call,[.c (.fn 167 [] []),.c (.int .i64 3),.t 12,.t 13],none,[]⟩,
⟨(some 11),.p .mv,[.t 14],none,[]⟩,
⟨(some 15),.p (.ext 0),[.t 11],none,[]⟩,
⟨(some 16),.p (.ext 1),[.t 11],none,[]⟩,
⟨(some 17),.p (.ext 2),[.t 11],none,[]⟩,
⟨(some 5),.p .mv,[.t 15],none,[]⟩,
⟨(some 6),.p .mv,[.t 16],none,[]⟩,
⟨(some 7),.p .mv,[.t 17],none,[]⟩] false []) <|
 .seq (.region [
⟨(some 19),.p .mv,[.t 0],none,[]⟩,
⟨(some 20),.p .mv,[.t 1],none,[]⟩,
⟨(some 21),.w .call,[.c (.fn 167 [] []),.c (.int .i64 4),.t 19,.t 20],none,[]⟩,
⟨(some 18),.p .mv,[.t 21],none,[]⟩,
⟨(some 22),.p (.ext 0),[.t 18],none,[]⟩,
⟨(some 23),.p (.ext 1),[.t 18],none,[]⟩,
⟨(some 24),.p (.ext 2),[.t 18],none,[]⟩,
⟨(some 8),.p .mv,[.t 22],none,[]⟩,
⟨(some 9),.p .mv,[.t 23],none,[]⟩,
⟨(some 10),.p .mv,[.t 24],none,[]⟩] false []) <|
 .seq (.seq (.region [
⟨(some 25),.p .mv,[.t 7],none,[]⟩,
⟨(some 26),.p .mv,[.t 10],none,[]⟩,
⟨(some 27),.p (.bin .neq),[.t 25,.t 26],none,[]⟩] false []) <|
 .cond (.t 27) (.seq (.region [
⟨(some 4),.p .mv,[.c (.bool false)],none,[]⟩] false []) <|
 .ret) (.skip)) <|
 .seq (.seq (.region [
⟨(some 28),.p .mv,[.t 7],none,[]⟩,
⟨(some 29),.p (.bin .neq),[.t 28,.c (.int .i64 0)],none,[]⟩,
⟨(some 30),.p .mv,[.t 29],none,[]⟩,
⟨(some 31),.p .mv,[.t 1],(some (30,false)),[]⟩,
⟨(some 32),.p (.bin .eql),[.t 31,.c (.int .i64 0)],(some (30,false)),[]⟩,
⟨(some 33),.p .pick,[.t 30,.c (.bool true),.t 32],none,[]⟩] false []) <|
 .cond (.t 33) (.seq (.region [
⟨(some 34),.p .mv,[.t 5],none,[]⟩,
⟨(some 35),.p (.bin .eql),[.t 34,.c (.int .i64 0)],none,[]⟩,
⟨(some 36),.p .mv,[.t 35],none,[]⟩,
⟨(some 37),.p .mv,[.t 8],(some (36,true)),[]⟩,
⟨(some 38),.p (.bin .eql),[.t 37,.c (.int .i64 0)],(some (36,true)),[]⟩,
⟨(some 39),.p .pick,[.t 36,.t 38,.c (.bool false)],none,[]⟩,
⟨(some 40),.p .mv,[.t 39],none,[]⟩,
⟨(some 41),.p .mv,[.t 7],(some (40,true)),[]⟩,
⟨(some 42),.p (.bin .neq),[.t 41,.c (.int .i64 0)],(some (40,true)),[]⟩,
⟨(some 43),.p .mv,[.t 42],(some (40,true)),[]⟩,
⟨(some 44),.p .mv,[.t 6],(some (43,false)),[]⟩,
⟨(some 45),.p (.bin .eql),[.t 44,.c (.int .i64 2)],(some (43,false)),[]⟩,
⟨(some 46),.p .mv,[.t 45],(some (43,false)),[]⟩,
⟨(some 47),.p .mv,[.t 9],(some (46,true)),[]⟩,
⟨(some 48),.p (.bin .eql),[.t 47,.c (.int .i64 2)],(some (46,true)),[]⟩,
⟨(some 49),.p .pick,[.t 46,.t 48,.c (.bool false)],(some (43,false)),[]⟩,
⟨(some 50),.p .pick,[.t 43,.c (.bool true),.t 49],(some (40,true)),[]⟩,
⟨(some 51),.p .pick,[.t 40,.t 50,.c (.bool false)],none,[]⟩,
⟨(some 52),.p .mv,[.t 51],none,[]⟩,
⟨(some 53),.w .call,[.c (.fn 241 [] [])],(some (52,true)),[]⟩,
⟨(some 54),.p .pick,[.t 52,.t 53,.c (.bool false)],none,[]⟩,
⟨(some 4),.p .mv,[.t 54],none,[]⟩] false []) <|
 .ret) (.skip)) <|
 .seq (.seq (.region [
⟨(some 55),.p .mv,[.t 6],none,[]⟩,
⟨(some 56),.p (.bin .neq),[.t 55,.c (.int .i64 0)],none,[]⟩,
⟨(some 57),.p .mv,[.t 56],none,[]⟩,
⟨(some 58),.p .mv,[.t 9],(some (57,false)),[]⟩,
⟨(some 59),.p (.bin .neq),[.t 58,.c (.int .i64 0)],(some (57,false)),[]⟩,
⟨(some 60),.p .pick,[.t 57,.c (.bool true),.t 59],none,[]⟩] false []) <|
 .cond (.t 60) (.seq (.region [
⟨(some 4),.p .mv,[.c (.bool false)],none,[]⟩] false []) <|
 .ret) (.skip)) <|
 .seq (.region [
⟨(some 61),.p .mv,[.t 1],none,[]⟩,
⟨(some 62),.p .mv,[.t 5],none,[]⟩,
⟨(some 63),.p (.bin .mul),[.t 61,.t 62],none,[]⟩,
⟨(some 64),.p .mv,[.t 8],none,[]⟩,
⟨(some 65),.p (.bin .add),[.t 63,.t 64],none,[]⟩,
⟨(some 66),.p .mv,[.t 0],none,[]⟩,
⟨(some 67),.p (.bin .eql),[.t 65,.t 66],none,[]⟩,
⟨(some 68),.p .mv,[.t 67],none,[]⟩,
⟨(some 69),.p .mv,[.t 8],(some (68,true)),[]⟩,
⟨(some 70),.p (.bin .eql),[.t 69,.c (.int .i64 0)],(some (68,true)),[]⟩,
⟨(some 71),.p .mv,[.t 70],(some (68,true)),[]⟩,
⟨(some 72),.p .mv,[.t 8],(some (71,false)),[]⟩,
⟨(some 73),.p (.bin .gtr),[.t 72,.c (.int .i64 0)],(some (71,false)),[]⟩,
⟨(some 74),.p .mv,[.t 1],(some (71,false)),[]⟩,
⟨(some 75),.p (.bin .gtr),[.t 74,.c (.int .i64 0)],(some (71,false)),[]⟩,
⟨(some 76),.p (.eqB false),[.t 73,.t 75],(some (71,false)),[]⟩,
⟨(some 77),.p .mv,[.t 76],(some (71,false)),[]⟩,
⟨(some 78),.p .mv,[.t 8],(some (77,true)),[]⟩,
⟨(some 79),.w .call,[.c (.fn 194 [] []),.t 78],(some (77,true)),[]⟩,
⟨(some 80),.p .mv,[.t 1],(some (77,true)),[]⟩,
⟨(some 81),.w .call,[.c (.fn 194 [] []),.t 80],(some (77,true)),[]⟩,
⟨(some 82),.p (.bin .lss),[.t 79,.t 81],(some (77,true)),[]⟩,
⟨(some 83),.p .pick,[.t 77,.t 82,.c (.bool false)],(some (71,false)),[]⟩,
⟨(some 84),.p .pick,[.t 71,.c (.bool true),.t 83],(some (68,true)),[]⟩,
⟨(some 85),.p .pick,[.t 68,.t 84,.c (.bool false)],none,[]⟩,
⟨(some 86),.p .mv,[.t 85],none,[]⟩,
⟨(some 87),.w .call,[.c (.fn 241 [] [])],(some (86,true)),[]⟩,
⟨(some 88),.p .pick,[.t 86,.t 87,.c (.bool false)],none,[]⟩,
⟨(some 4),.p .mv,[.t 88],none,[]⟩] false []) <|
 .ret, [.tmp 4]⟩
structure D234 (T : Tab) : Prop where
  fn : T.fn 234 = some ir234
  pr : T.prim 234 = none
  d167 : D167 T
  d241 : D241 T
  d194 : D194 T
/-- motley/motleylaw01.NumOrders -/
def ir235 : AFunc := ⟨.seq (.region [
⟨(some 4),.p .mv,[.c (.bool false)],none,[]⟩] false []) <|
 .seq (.seq (.region [
⟨(some 5),.p .mv,[.t 0],none,[]⟩,
⟨(some 6),.w .call,[.c (.fn 240 [] []),.t 5],none,[]⟩,
⟨(some 7),.p .mv,[.t 6],none,[]⟩,
⟨(some 8),.p .mv,[.t 1],(some (7,false)),[]⟩,
⟨(some 9),.w .call,[.c (.fn 240 [] []),.t 8],(some (7,false)),[]⟩,
⟨(some 10),.p .pick,[.t 7,.c (.bool true),.t 9],none,[]⟩] false []) <|
 .cond (.t 10) (.seq (.region [
⟨(some 11),.w .call,[.c (.fn 241 [] [])],none,[]⟩,
⟨(some 4),.p .mv,[.t 11],none,[]⟩] false []) <|
 .ret) (.skip)) <|
 .seq (.region [
⟨(some 12),.p .mv,[.t 0],none,[]⟩,
⟨(some 13),.p .mv,[.t 1],none,[]⟩,
⟨(some 14),.w .call,[.c (.fn 244 [] []),.t 12,.t 13],none,[]⟩,
⟨(some 15),.p .mv,[.t 0],none,[]⟩,
⟨(some 16),.p .mv,[.t 1],none,[]⟩,
⟨(some 17),.w .call,[.c (.fn 155 [] []),.t 15,.t 16],none,[]⟩,
⟨(some 18),.p (.bin .eql),[.t 14,.t 17],none,[]⟩,
⟨(some 19),.p .mv,[.t 18],none,[]⟩,
⟨(some 20),.p .mv,[.t 1],(some (19,true)),[]⟩,
⟨(some 21),.p .mv,[.t 0],(some (19,true)),[]⟩,
⟨(some 22),.w .call,[.c (.fn 244 [] []),.t 20,.t 21],(some (19,true)),[]⟩,
⟨(some 23),.p .mv,[.t 0],(some (19,true)),[]⟩,
⟨(some 24),.p .mv,[.t 1],(some (19,true)),[]⟩,
⟨(some 25),.w .call,[.c (.fn 244 [] []),.t 23,.t 24],(some (19,true)),[]⟩,
⟨(some 26),.p (.un .neg),[.t 25],(some (19,true)),[]⟩,
⟨(some 27),.p (.bin .eql),[.t 22,.t 26],(some (19,true)),[]⟩,
⟨(some 28),.p .pick,[.t 19,.t 27,.c (.bool false)],none,[]⟩,
⟨(some 29),.p .mv,[.t 28],none,[]⟩,
⟨(some 30),.w .call,[.c (.fn 241 [] [])],(some (29,true)),[]⟩,
⟨(some 31),.p .pick,[.t 29,.t 30,.c (.bool false)],none,[]⟩,
⟨(some 4),.p .mv,[.t 31],none,[]⟩] false []) <|
 .ret, [.tmp 4]⟩
structure D235 (T : Tab) : Prop where
  fn : T.fn 235 = some ir235
  pr : T.prim 235 = none
  d240 : D240 T
  d241 : D241 T
  d244 : D244 T
  d155 : D155 T
/-- motley/motleylaw01.NumRounds -/
def ir236 : AFunc := ⟨.seq (.region [
⟨(some 4),.p .mv,[.c (.bool false)],none,[]⟩] false []) <|
 .seq (.region [
⟨(some 10),.p .mv,[.t 0],none,[]⟩,
⟨(some 11),.p .mv,[.t 1],none,[]⟩,
⟨(some 12),.w .call,[.c (.fn 245 [] []),.t 10,.t 11],none,[]⟩,
⟨(some 9),.p .mv,[.t 12],none,[]⟩,
⟨(some 13),.p (.ext 0),[.t 9],none,[]⟩,
⟨(some 14),.p (.ext 1),[.t 9],none,[]⟩,
⟨(some 5),.p .mv,[.t 13],none,[]⟩,
⟨(some 6),.p .mv,[.t 14],none,[]⟩] false []) <|
 .seq (.region [
⟨(some 16),.p .mv,[.t 0],none,[]⟩,
⟨(some 17),.p .mv,[.t 1],none,[]⟩,
⟨(some 18),.w .call,[.c (.fn 246 [] []),.t 16,.t 17],none,[]⟩,
⟨(some 15),.p .mv,[.t 18],none,[]⟩,
⟨(some 19),.p (.ext 0),[.t 15],none,[]⟩,
⟨(some 20),.p (.ext 1),[.t 15],none,[]⟩,
⟨(some 7),.p .mv,[.t 19],none,[]⟩,
⟨(some 8),.p .mv,[.t 20],none,[]⟩] false []) <|
 .seq (.region [
⟨(some 21),.p .mv,[.t 7],none,[]⟩,
⟨(some 22),.p .mv,[.t 5],none,[]⟩,
⟨(some 23),.p (.bin .eql),[.t 21,.t 22],none,[]⟩,
⟨(some 24),.p .mv,[.t 23],none,[]⟩,
⟨(some 25),.p .mv,[.t 8],(some (24,true)),[]⟩,
⟨(some 26),.p .mv,[.t 6],(some (24,true)),[]⟩,
⟨(some 27),.p (.bin .eql),[.t 25,.t 26],(some (24,true)),[]⟩,
⟨(some 28),.p .pick,[.t 24,.t 27,.c (.bool false)],none,[]⟩,
⟨(some 29),.p .mv,[.t 28],none,[]⟩,
⟨(some 30),.w .call,[.c (.fn 241 [] [])],(some (29,true)),[]⟩,
⟨(some 31),.p .pick,[.t 29,.t 30,.c (.bool false)],none,[]⟩,
⟨(some 4),.p .mv,[.t 31],none,[]⟩] false []) <|
 .ret, [.tmp 4]⟩
structure D236 (T : Tab) : Prop where
  fn : T.fn 236 = some ir236
  pr : T.prim 236 = none
  d245 : D245 T
  d246 : D246 T
  d241 : D241 T
/-- motley/motleylaw01.NumCompares -/
def ir237 : AFunc := ⟨.seq (.region [
⟨(some 4),.p .mv,[.c (.bool false)],none,[]⟩] false []) <|
 .seq (.region [
⟨(some 5),.p .mv,[.t 0],none,[]⟩,
⟨(some 6),.p .mv,[.t 1],none,[]⟩,
⟨(some 7),.w .call,[.c (.fn 160 [] []),.t 5,.t 6],none,[]⟩,
⟨(some 8),.p .mv,[.t 0],none,[]⟩,
⟨(some 9),.p .mv,[.t 1],none,[]⟩,
⟨(some 10),.w .call,[.c (.fn 176 [] []),.t 8,.t 9],none,[]⟩,
⟨(some 11),.p (.bin .eql),[.t 7,.t 10],none,[]⟩,
⟨(some 12),.p .mv,[.t 11],none,[]⟩,
⟨(some 13),.p .mv,[.t 1],(some (12,true)),[]⟩,
⟨(some 14),.p .mv,[.t 0],(some (12,true)),[]⟩,
⟨(some 15),.w .call,[.c (.fn 160 [] []),.t 13,.t 14],(some (12,true)),[]⟩,
⟨(some 16),.p .mv,[.t 0],(some (12,true)),[]⟩,
⟨(some 17),.p .mv,[.t 1],(some (12,true)),[]⟩,
⟨(some 18),.w .call,[.c (.fn 160 [] []),.t 16,.t 17],(some (12,true)),[]⟩,
⟨(some 19),.p (.un .neg),[.t 18],(some (12,true)),[]⟩,
⟨(some 20),.p (.bin .eql),[.t 15,.t 19],(some (12,true)),[]⟩,
⟨(some 21),.p .pick,[.t 12,.t 20,.c (.bool false)],none,[]⟩,
⟨(some 22),.p .mv,[.t 21],none,[]⟩,
⟨(some 23),.w .call,[.c (.fn 241 [] [])],(some (22,true)),[]⟩,
⟨(some 24),.p .pick,[.t 22,.t 23,.c (.bool false)],none,[]⟩,
⟨(some 4),.p .mv,[.t 24],none,[]⟩] false []) <|
 .ret, [.tmp 4]⟩
structure D237 (T : Tab) : Prop where
  fn : T.fn 237 = some ir237
  pr : T.prim 237 = none
  d160 : D160 T
  d176 : D176 T
  d241 : D241 T
/-- motley/motleylaw01.NumRadix -/
def ir238 : AFunc := ⟨.seq (.region [
⟨(some 2),.p .mv,[.c (.bool false)],none,[]⟩] false []) <|
 .seq (.seq (.region [
⟨(some 7),.p .mv,[.t 0],none,[]⟩,
⟨(some 8),.w .call,[.c (.fn 240 [] []),.t 7],none,[]⟩] false []) <|
 .cond (.t 8) (.seq (.region [
⟨(some 9),.w .call,[.c (.fn 241 [] [])],none,[]⟩,
⟨(some 2),.p .mv,[.t 9],none,[]⟩] false []) <|
 .ret) (.skip)) <|
 .seq (.region [
⟨(some 11),.p .mv,[.t 0],none,[]⟩,
⟨(some 12),.w .call,[.c (.fn 247 [] []),.t 11],none,[]⟩,
⟨(some 10),.p .mv,[.t 12],none,[]⟩,
⟨(some 13),.p (.ext 0),[.t 10],none,[]⟩,
⟨(some 14),.p (.ext 1),[.t 10],none,[]⟩,
⟨(some 3),.p .mv,[.t 13],none,[]⟩,
⟨(some 4),.p .mv,[.t 14],none,[]⟩] false []) <|
 .seq (.region [
⟨(some 16),.p .mv,[.t 0],none,[]⟩,
⟨(some 17),.w .call,[.c (.fn 248 [] []),.t 16],none,[]⟩,
⟨(some 15),.p .mv,[.t 17],none,[]⟩,
⟨(some 18),.p (.ext 0),[.t 15],none,[]⟩,
⟨(some 19),.p (.ext 1),[.t 15],none,[]⟩,
⟨(some 5),.p .mv,[.t 18],none,[]⟩,
⟨(some 6),.p .mv,[.t 19],none,[]⟩] false []) <|
 .seq (.region [
⟨(some 20),.p .mv,[.t 5],none,[]⟩,
⟨(some 21),.p .mv,[.t 3],none,[]⟩,
⟨(some 22),.p (.bin .eql),[.t 20,.t 21],none,[]⟩,
⟨(some 23),.p .mv,[.t 22],none,[]⟩,
⟨(some 24),.p .mv,[.t 6],(some (23,true)),[]⟩,
⟨(some 25),.p .mv,[.t 4],(some (23,true)),[]⟩,
⟨(some 26),.p (.eqB false),[.t 24,.t 25],(some (23,true)),[]⟩,
⟨(some 27),.p .pick,[.t 23,.t 26,.c (.bool false)],none,[]⟩,
⟨(some 28),.p .mv,[.t 27],none,[]⟩,
⟨(some 29),.w .call,[.c (.fn 241 [] [])],(some (28,true)),[]⟩,
⟨(some 30),.p .pick,[.t 28,.t 29,.c (.bool false)],none,[]⟩,
⟨(some 2),.p .mv,[.t 30],none,[]⟩] false []) <|
 .ret, [.tmp 2]⟩
structure D238 (T : Tab) : Prop where
  fn : T.fn 238 = some ir238
  pr : T.prim 238 = none
  d240 : D240 T
  d241 : D241 T
  d247 : D247 T
  d248 : D248 T
/-- motley/motleylaw01.NumRepeats -/
def ir239 : AFunc := ⟨.seq (.region [
⟨(some 4),.p .mv,[.c (.bool false)],none,[]⟩] false []) <|
 .seq (.seq (.region [
⟨(some 9),.p .mv,[.t 0],none,[]⟩,
⟨(some 10),.w .call,[.c (.fn 240 [] []),.t 9],none,[]⟩] false []) <|
 .cond (.t 10) (.seq (.region [
⟨(some 11),.w .call,[.c (.fn 241 [] [])],none,[]⟩,
⟨(some 4),.p .mv,[.t 11],none,[]⟩] false []) <|
 .ret) (.skip)) <|
 .seq (.region [
⟨(some 13),.p .mv,[.t 0],none,[]⟩,
⟨(some 14),.p .mv,[.t 1],none,[]⟩,
⟨(some 15),.w .call,[.c (.fn 249 [] []),.t 13,.t 14],none,[]⟩,
⟨(some 12),.p .mv,[.t 15],none,[]⟩,
⟨(some 16),.p (.ext 0),[.t 12],none,[]⟩,
⟨(some 17),.p (.ext 1),[.t 12],none,[]⟩,
⟨(some 5),.p .mv,[.t 16],none,[]⟩,
⟨(some 6),.p .mv,[.t 17],none,[]⟩] false []) <|
 .seq (.region [
⟨(some 19),.p .mv,[.t 0],none,[]⟩,
⟨(some 20),.p .mv,[.t 1],none,[]⟩,
⟨(some 21),.w .call,[.c (.fn 250 [] []),.t 19,.t 20],none,[]⟩,
⟨(some 18),.p .mv,[.t 21],none,[]⟩,
⟨(some 22),.p (.ext 0),[.t 18],none,[]⟩,
⟨(some 23),.p (.ext 1),[.t 18],none,[]⟩,
⟨(some 7),.p .mv,[.t 22],none,[]⟩,
⟨(some 8),.p .mv,[.t 23],none,[]⟩] false []) <|
 .seq (.region [
⟨(some 24),.p .mv,[.t 7],none,[]⟩,
⟨(some 25),.p .mv,[.t 5],none,[]⟩,
⟨(some 26),.p (.bin .eql),[.t 24,.t 25],none,[]⟩,
⟨(some 27),.p .mv,[.t 26],none,[]⟩,
⟨(some 28),.p .mv,[.t 8],(some (27,true)),[]⟩,
⟨(some 29),.p .mv,[.t 6],(some (27,true)),[]⟩,
⟨(some 30),.p (.bin .eql),[.t 28,.t 29],(some (27,true)),[]⟩,
⟨(some 31),.p .pick,[.t 27,.t 30,.c (.bool false)],none,[]⟩,
⟨(some 32),.p .mv,[.t 31],none,[]⟩,
⟨(some 33),.w .call,[.c (.fn 241 [] [])],(some (32,true)),[]⟩,
⟨(some 34),.p .pick,[.t 32,.t 33,.c (.bool false)],none,[]⟩,
⟨(some 4),.p .mv,[.t 34],none,[]⟩] false []) <|
 .ret, [.tmp 4]⟩
structure D239 (T : Tab) : Prop where
  fn : T.fn 239 = some ir239
  pr : T.prim 239 = none
  d240 : D240 T
  d241 : D241 T
  d249 : D249 T
  d250 : D250 T
/-- motley/motleylaw01.NumScalars -/
def ir269 : AFunc := ⟨.seq (.region [
⟨(some 1),.w .box,[.t 0],none,[]⟩,
⟨(some 2),.p .mv,[.c (.bool false)],none,[]⟩] false []) <|
 .seq (.seq (.region [
⟨(some 10),.p (.fa 2),[.t 1],none,[]⟩,
⟨(some 11),.r (.ld 1 false),[.t 10],none,[]⟩,
⟨(some 12),.w .call,[.c (.fn 240 [] []),.t 11],none,[]⟩] false []) <|
 .cond (.t 12) (.seq (.region [
⟨(some 13),.w .call,[.c (.fn 241 [] [])],none,[]⟩,
⟨(some 2),.p .mv,[.t 13],none,[]⟩] false []) <|
 .ret) (.skip)) <|
 .seq (.region [
⟨(some 14),.r (.ld 4 true),[.t 1],none,[]⟩,
⟨(some 15),.w .call,[.c (.fn 186 [] []),.t 14],none,[]⟩,
⟨(some 3),.p .mv,[.t 15],none,[]⟩] false []) <|
 .seq (.region [
⟨(some 17),.r (.ld 4 true),[.t 1],none,[]⟩,
⟨(some 18),.w .call,[.c (.fn 170 [] []),.t 17],none,[]⟩,
⟨(some 16),.p .mv,[.t 18],none,[]⟩,
⟨(some 19),.p (.ext 0),[.t 16],none,[]⟩,
⟨(some 20),.p (.ext 1),[.t 16],none,[]⟩,
⟨(some 4),.p .mv,[.t 19],none,[]⟩,
⟨(some 5),.p .mv,[.t 20],none,[]⟩] false []) <|
 .seq (.region [
⟨(some 22),.r (.ld 4 true),[.t 1],none,[]⟩,
⟨(some 23),.w .call,[.c (.fn 273 [] []),.t 22],none,[]⟩,
⟨(some 21),.p .mv,[.t 23],none,[]⟩,
⟨(some 24),.p (.ext 0),[.t 21],none,[]⟩,
⟨(some 25),.p (.ext 1),[.t 21],none,[]⟩,
⟨(some 6),.p .mv,[.t 24],none,[]⟩,
⟨(some 7),.p .mv,[.t 25],none,[]⟩] false []) <|
 .seq (.region [
⟨(some 27),.r (.ld 4 true),[.t 1],none,[]⟩,
⟨(some 28),.w .call,[.c (.fn 274 [] []),.t 27],none,[]⟩,
⟨(some 26),.p .mv,[.t 28],none,[]⟩,
⟨(some 29),.p (.ext 0),[.t 26],none,[]⟩,
⟨(some 30),.p (.ext 1),[.t 26],none,[]⟩,
⟨(some 8),.p .mv,[.t 29],none,[]⟩,
⟨(some 9),.p .mv,[.t 30],none,[]⟩] false []) <|
 .seq (.seq (.region [
⟨(some 31),.r (.ld 4 true),[.t 1],none,[]⟩,
⟨(some 32),.w .call,[.c (.fn 188 [] []),.t 31],none,[]⟩,
⟨(some 33),.p .mv,[.t 3],none,[]⟩,
⟨(some 34),.p (.bin .neq),[.t 32,.t 33],none,[]⟩,
⟨(some 35),.p .mv,[.t 34],none,[]⟩,
⟨(some 36),.p .mv,[.t 5],(some (35,false)),[]⟩,
⟨(some 37),.p .mv,[.t 3],(some (35,false)),[]⟩,
⟨(some 38),.p (.bin .neq),[.t 36,.t 37],(some (35,false)),[]⟩,
⟨(some 39),.p .pick,[.t 35,.c (.bool true),.t 38],none,[]⟩,
⟨(some 40),.p .mv,[.t 39],none,[]⟩,
⟨(some 41),.p .mv,[.t 7],(some (40,false)),[]⟩,
⟨(some 42),.p .mv,[.t 3],(some (40,false)),[]⟩,
⟨(some 43),.p (.bin .neq),[.t 41,.t 42],(some (40,false)),[]⟩,
⟨(some 44),.p .pick,[.t 40,.c (.bool true),.t 43],none,[]⟩,
⟨(some 45),.p .mv,[.t 44],none,[]⟩,
⟨(some 46),.p .mv,[.t 9],(some (45,false)),[]⟩,
⟨(some 47),.p .mv,[.t 3],(some (45,false)),[]⟩,
⟨(some 48),.p (.bin .neq),[.t 46,.t 47],(some (45,false)),[]⟩,
⟨(some 49),.p .pick,[.t 45,.c (.bool true),.t 48],none,[]⟩] false []) <|
 .cond (.t 49) (.seq (.region [
⟨(some 2),.p .mv,[.c (.bool false)],none,[]⟩] false []) <|
 .ret) (.skip)) <|
 .seq (.seq (.region [
⟨(some 50),.p .mv,[.t 3],none,[]⟩,
⟨(some 51),.p (.bin .neq),[.t 50,.c (.int .i64 0)],none,[]⟩] false []) <|
 .cond (.t 51) (.seq (.region [
⟨(some 52),.p .mv,[.t 4],none,[]⟩,
⟨(some 53),.p (.bin .eql),[.t 52,.c (.int .i64 0)],none,[]⟩,
⟨(some 54),.p .mv,[.t 53],none,[]⟩,
⟨(some 55),.p .mv,[.t 6],(some (54,true)),[]⟩,
⟨(some 56),.p (.bin .eql),[.t 55,.c (.str [])],(some (54,true)),[]⟩,
⟨(some 57),.p .pick,[.t 54,.t 56,.c (.bool false)],none,[]⟩,
⟨(some 58),.p .mv,[.t 57],none,[]⟩,
⟨(some 59),.p .mv,[.t 8],(some (58,true)),[]⟩,
⟨(some 60),.p (.un .not),[.t 59],(some (58,true)),[]⟩,
⟨(some 61),.p .pick,[.t 58,.t 60,.c (.bool false)],none,[]⟩,
⟨(some 62),.p .mv,[.t 61],none,[]⟩,
⟨(some 63),.w .call,[.c (.fn 241 [] [])],(some (62,true)),[]⟩,
⟨(some 64),.p .pick,[.t 62,.t 63,.c (.bool false)],none,[]⟩,
⟨(some 2),.p .mv,[.t 64],none,[]⟩] false []) <|
 .ret) (.skip)) <|
 .seq (.region [
⟨(some 65),.p .mv,[.t 4],none,[]⟩,
⟨(some 66),.r (.ld 4 true),[.t 1],none,[]⟩,
⟨(some 67),.w .call,[.c (.fn 169 [] []),.t 66],none,[]⟩,
⟨(some 68),.p (.bin .eql),[.t 65,.t 67],none,[]⟩,
⟨(some 69),.p .mv,[.t 68],none,[]⟩,
⟨(some 70),.p .mv,[.t 6],(some (69,true)),[]⟩,
⟨(some 71),.r (.ld 4 true),[.t 1],(some (69,true)),[]⟩,
⟨(some 72),.w .call,[.c (.fn 275 [] []),.t 71],(some (69,true)),[]⟩,
⟨(some 73),.p (.bin .eql),[.t 70,.t 72],(some (69,true)),[]⟩,
⟨(some 74),.p .pick,[.t 69,.t 73,.c (.bool false)],none,[]⟩,
⟨(some 75),.p .mv,[.t 74],none,[]⟩,
⟨(some 76),.p .mv,[.t 8],(some (75,true)),[]⟩,
⟨(some 77),.r (.ld 4 true),[.t 1],(some (75,true)),[]⟩,
⟨(some 78),.w .call,[.c (.fn 276 [] []),.t 77],(some (75,true)),[]⟩,
⟨(some 79),.p (.eqB false),[.t 76,.t 78],(some (75,true)),[]⟩,
⟨(some 80),.p .pick,[.t 75,.t 79,.c (.bool false)],none,[]⟩,
⟨(some 81),.p .mv,[.t 80],none,[]⟩,
⟨(some 82),.w .call,[.c (.fn 241 [] [])],(some (81,true)),[]⟩,
⟨(some 83),.p .pick,[.t 81,.t 82,.c (.bool false)],none,[]⟩,
⟨(some 2),.p .mv,[.t 83],none,[]⟩] false []) <|
 .ret, [.tmp 2]⟩
structure D269 (T : Tab) : Prop where
  fn : T.fn 269 = some ir269
  pr : T.prim 269 = none
  d240 : D240 T
  d241 : D241 T
  d186 : D186 T
  d170 : D170 T
  d273 : D273 T
  d274 : D274 T
  d188 : D188 T
  d169 : D169 T
  d275 : D275 T
  d276 : D276 T
/-- motley/motleylaw01.NumNexts -/
def ir270 : AFunc := ⟨.seq (.region [
⟨(some 2),.p .mv,[.c (.bool false)],none,[]⟩] false []) <|
 .seq (.seq (.region [
⟨(some 7),.p .mv,[.t 0],none,[]⟩,
⟨(some 8),.w .call,[.c (.fn 240 [] []),.t 7],none,[]⟩] false []) <|
 .cond (.t 8) (.seq (.region [
⟨(some 9),.w .call,[.c (.fn 241 [] [])],none,[]⟩,
⟨(some 2),.p .mv,[.t 9],none,[]⟩] false []) <|
 .ret) (.skip)) <|
 .seq (.region [
⟨(some 11),.p .mv,[.t 0],none,[]⟩,
⟨(some 12),.w .call,[.c (.fn 277 [] []),.t 11],none,[]⟩,
⟨(some 10),.p .mv,[.t 12],none,[]⟩,
⟨(some 13),.p (.ext 0),[.t 10],none,[]⟩,
⟨(some 14),.p (.ext 1),[.t 10],none,[]⟩,
⟨(some 3),.p .mv,[.t 13],none,[]⟩,
⟨(some 4),.p .mv,[.t 14],none,[]⟩] false []) <|
 .seq (.region [
⟨(some 16),.p .mv,[.t 0],none,[]⟩,
⟨(some 17),.w .call,[.c (.fn 278 [] []),.t 16],none,[]⟩,
⟨(some 15),.p .mv,[.t 17],none,[]⟩,
⟨(some 18),.p (.ext 0),[.t 15],none,[]⟩,
⟨(some 19),.p (.ext 1),[.t 15],none,[]⟩,
⟨(some 5),.p .mv,[.t 18],none,[]⟩,
⟨(some 6),.p .mv,[.t 19],none,[]⟩] false []) <|
 .seq (.region [
⟨(some 20),.p .mv,[.t 5],none,[]⟩,
⟨(some 21),.p .mv,[.t 3],none,[]⟩,
⟨(some 22),.p (.bin .eql),[.t 20,.t 21],none,[]⟩,
⟨(some 23),.p .mv,[.t 22],none,[]⟩,
⟨(some 24),.p .mv,[.t 6],(some (23,true)),[]⟩,
⟨(some 25),.p .mv,[.t 4],(some (23,true)),[]⟩,
⟨(some 26),.p (.bin .eql),[.t 24,.t 25],(some (23,true)),[]⟩,
⟨(some 27),.p .pick,[.t 23,.t 26,.c (.bool false)],none,[]⟩,
⟨(some 28),.p .mv,[.t 27],none,[]⟩,
⟨(some 29),.w .call,[.c (.fn 241 [] [])],(some (28,true)),[]⟩,
⟨(some 30),.p .pick,[.t 28,.t 29,.c (.bool false)],none,[]⟩,
⟨(some 2),.p .mv,[.t 30],none,[]⟩] false []) <|
 .ret, [.tmp 2]⟩
structure D270 (T : Tab) : Prop where
  fn : T.fn 270 = some ir270
  pr : T.prim 270 = none
  d240 : D240 T
  d241 : D241 T
  d277 : D277 T
  d278 : D278 T
/-- motley/motleylaw01.NumSpells -/
def ir271 : AFunc := ⟨.seq (.region [
⟨(some 4),.p .mv,[.c (.bool false)],none,[]⟩] false []) <|
 .seq (.region [
⟨(some 12),.p .mv,[.t 0],none,[]⟩,
⟨(some 13),.p .mv,[.t 1],none,[]⟩,
⟨(some 14),.w .call,[.c (.fn 279 [] []),.t 12,.t 13],none,[]⟩,
⟨(some 11),.p .mv,[.t 14],none,[]⟩,
⟨(some 15),.p (.ext 0),[.t 11],none,[]⟩,
⟨(some 16),.p (.ext 1),[.t 11],none,[]⟩,
⟨(some 5),.p .mv,[.t 15],none,[]⟩,
⟨(some 6),.p .mv,[.t 16],none,[]⟩] false []) <|
 .seq (.region [
⟨(some 18),.p .mv,[.t 0],none,[]⟩,
⟨(some 19),.p .mv,[.t 1],none,[]⟩,
⟨(some 20),.w .call,[.c (.fn 280 [] []),.t 18,.t 19],none,[]⟩,
⟨(some 17),.p .mv,[.t 20],none,[]⟩,
⟨(some 21),.p (.ext 0),[.t 17],none,[]⟩,
⟨(some 22),.p (.ext 1),[.t 17],none,[]⟩,
⟨(some 7),.p .mv,[.t 21],none,[]⟩,
⟨(some 8),.p .mv,[.t 22],none,[]⟩] false []) <|
 .seq (.seq (.region [
⟨(some 23),.p .mv,[.t 7],none,[]⟩,
⟨(some 24),.p .mv,[.t 5],none,[]⟩,
⟨(some 25),.p (.bin .neq),[.t 23,.t 24],none,[]⟩,
⟨(some 26),.p .mv,[.t 25],none,[]⟩,
⟨(some 27),.p .mv,[.t 8],(some (26,false)),[]⟩,
⟨(some 28),.p .mv,[.t 6],(some (26,false)),[]⟩,
⟨(some 29),.p (.bin .neq),[.t 27,.t 28],(some (26,false)),[]⟩,
⟨(some 30),.p .pick,[.t 26,.c (.bool true),.t 29],none,[]⟩] false []) <|
 .cond (.t 30) (.seq (.region [
⟨(some 4),.p .mv,[.c (.bool false)],none,[]⟩] false []) <|
 .ret) (.skip)) <|
 .seq (.seq (.region [
⟨(some 31),.p .mv,[.t 8],none,[]⟩,
⟨(some 32),.p (.bin .neq),[.t 31,.c (.int .i64 0)],none,[]⟩,
⟨(some 33),.p .mv,[.t 32],none,[]⟩,
⟨(some 34),.p .mv,[.t 0],(some (33,false)),[]⟩,
⟨(some 35),.p (.bin .lss),[.t 34,.c (.int .i64 0)],(some (33,false)),[]⟩,
⟨(some 36),.p .pick,[.t 33,.c (.bool true),.t 35],none,[]⟩] false []) <|
 .cond (.t 36) (.seq (.region [
⟨(some 37),.w .call,[.c (.fn 241 [] [])],none,[]⟩,
⟨(some 4),.p .mv,[.t 37],none,[]⟩] false []) <|
 .ret) (.skip)) <|
 .seq (.region [
⟨(some 39),.p .mv,[.t 7],none,[]⟩,
⟨(some 40),.w .call,[.c (.fn 248 [] []),.t 39],none,[]⟩,
⟨(some 38),.p .mv,[.t 40],none,[]⟩,
⟨(some 41),.p (.ext 0),[.t 38],none,[]⟩,
⟨(some 42),.p (.ext 1),[.t 38],none,[]⟩,
⟨(some 9),.p .mv,[.t 41],none,[]⟩,
⟨(some 10),.p .mv,[.t 42],none,[]⟩] false []) <|
 .seq (.region [
⟨(some 43),.p .mv,[.t 10],none,[]⟩,
⟨(some 44),.p .mv,[.t 43],none,[]⟩,
⟨(some 45),.p .mv,[.t 9],(some (44,true)),[]⟩,
⟨(some 46),.p .mv,[.t 0],(some (44,true)),[]⟩,
⟨(some 47),.p (.bin .eql),[.t 45,.t 46],(some (44,true)),[]⟩,
⟨(some 48),.p .pick,[.t 44,.t 47,.c (.bool false)],none,[]⟩,
⟨(some 49),.p .mv,[.t 48],none,[]⟩,
⟨(some 50),.w .call,[.c (.fn 241 [] [])],(some (49,true)),[]⟩,
⟨(some 51),.p .pick,[.t 49,.t 50,.c (.bool false)],none,[]⟩,
⟨(some 4),.p .mv,[.t 51],none,[]⟩] false []) <|
 .ret, [.tmp 4]⟩
structure D271 (T : Tab) : Prop where
  fn : T.fn 271 = some ir271
  pr : T.prim 271 = none
  d279 : D279 T
  d280 : D280 T
  d241 : D241 T
  d248 : D248 T
/-- motley/motleylaw01.NumRanges -/
def ir272 : AFunc := ⟨.seq (.region [
⟨(some 4),.p .mv,[.c (.bool false)],none,[]⟩] false []) <|
 .seq (.seq (.region [
⟨(some 9),.p .mv,[.t 0],none,[]⟩,
⟨(some 10),.w .call,[.c (.fn 240 [] []),.t 9],none,[]⟩,
⟨(some 11),.p .mv,[.t 10],none,[]⟩,
⟨(some 12),.p .mv,[.t 1],(some (11,false)),[]⟩,
⟨(some 13),.w .call,[.c (.fn 240 [] []),.t 12],(some (11,false)),[]⟩,
⟨(some 14),.p .pick,[.t 11,.c (.bool true),.t 13],none,[]⟩] false []) <|
 .cond (.t 14) (.seq (.region [
⟨(some 15),.w .call,[.c (.fn 241 [] [])],none,[]⟩,
⟨(some 4),.p .mv,[.t 15],none,[]⟩] false []) <|
 .ret) (.skip)) <|
 .seq (.region [
⟨(some 17),.p .mv,[.t 0],none,[]⟩,
⟨(some 18),.p .mv,[.t 1],none,[]⟩,
⟨(some 19),.w .call,[.c (.fn 281 [] []),.t 17,.t 18],none,[]⟩,
⟨(some 16),.p .mv,[.t 19],none,[]⟩,
⟨(some 20),.p (.ext 0),[.t 16],none,[]⟩,
⟨(some 21),.p (.ext 1),[.t 16],none,[]⟩,
⟨(some 5),.p .mv,[.t 20],none,[]⟩,
⟨(some 6),.p .mv,[.t 21],none,[]⟩] false []) <|
 .seq (.region [
⟨(some 23),.p .mv,[.t 0],none,[]⟩,
⟨(some 24),.p .mv,[.t 1],none,[]⟩,
⟨(some 25),.w .call,[.c (.fn 282 [] []),.t 23,.t 24],none,[]⟩,
⟨(some 22),.p .mv,[.t 25],none,[]⟩,
⟨(some 26),.p (.ext 0),[.t 22],none,[]⟩,
⟨(some 27),.p (.ext 1),[.t 22],none,[]⟩,
⟨(some 7),.p .mv,[.t 26],none,[]⟩,
⟨(some 8),.p .mv,[.t 27],none,[]⟩] false []) <|
 .seq (.region [
⟨(some 28),.p .mv,[.t 7],none,[]⟩,
⟨(some 29),.p .mv,[.t 5],none,[]⟩,
⟨(some 30),.w .call,[.c (.fn 122 [] []),.t 28,.t 29],none,[]⟩,
⟨(some 31),.p .mv,[.t 30],none,[]⟩,
⟨(some 32),.p .mv,[.t 8],(some (31,true)),[]⟩,
⟨(some 33),.p .mv,[.t 6],(some (31,true)),[]⟩,
⟨(some 34),.p (.bin .eql),[.t 32,.t 33],(some (31,true)),[]⟩,
⟨(some 35),.p .pick,[.t 31,.t 34,.c (.bool false)],none,[]⟩,
⟨(some 36),.p .mv,[.t 35],none,[]⟩,
⟨(some 37),.w .call,[.c (.fn 241 [] [])],(some (36,true)),[]⟩,
⟨(some 38),.p .pick,[.t 36,.t 37,.c (.bool false)],none,[]⟩,
⟨(some 4),.p .mv,[.t 38],none,[]⟩] false []) <|
 .ret, [.tmp 4]⟩
structure D272 (T : Tab) : Prop where
  fn : T.fn 272 = some ir272
  pr : T.prim 272 = none
  d240 : D240 T
  d241 : D241 T
  d281 : D281 T
  d282 : D282 T
  d122 : D122 T
end Go.Am
