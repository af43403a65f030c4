/- Texts of functions for the small machine, printed by mkfile.py out of the compiled functions, and for each what a table has to hold. -/
import Derived.Test.YtepgjaknkjkpaaaDoorAmPrimFD
import Derived.Test.YtepgjaknkjkpaaaDoorAmIrStd
set_option linter.unusedVariables false
namespace Go.Am
/-- motley/num.Compare -/
def ir160 : AFunc := ⟨.seq (.region [
⟨(some 4),.p .mv,[.c (.int .i64 0)],none,[]⟩] false []) <|
 .seq (.region [
⟨(some 5),.p .mv,[.t 0],none,[]⟩,
⟨(some 6),.p .mv,[.t 1],none,[]⟩,
⟨(some 7),.w .call,[.c (.fn 178 [] []),.t 5,.t 6],none,[]⟩,
⟨(some 4),.p .mv,[.t 7],none,[]⟩] false []) <|
 .ret, [.tmp 4]⟩
structure D160 (T : Tab) : Prop where
  fn : T.fn 160 = some ir160
  pr : T.prim 160 = none
  d178 : D178 T
/-- motley/num.inRange -/
def ir185 : AFunc := ⟨.seq (.region [
⟨(some 2),.p .mv,[.c (.bool false)],none,[]⟩] false []) <|
 .seq (.region [
⟨(some 3),.p .mv,[.t 0],none,[]⟩,
⟨(some 4),.p (.bin .geq),[.t 3,.c (.int .i64 (-9007199254740992))],none,[]⟩,
⟨(some 5),.p .mv,[.t 4],none,[]⟩,
⟨(some 6),.p .mv,[.t 0],(some (5,true)),[]⟩,
⟨(some 7),.p (.bin .leq),[.t 6,.c (.int .i64 9007199254740992)],(some (5,true)),[]⟩,
⟨(some 8),.p .pick,[.t 5,.t 7,.c (.bool false)],none,[]⟩,
⟨(some 2),.p .mv,[.t 8],none,[]⟩] false []) <|
 .ret, [.tmp 2]⟩
structure D185 (T : Tab) : Prop where
  fn : T.fn 185 = some ir185
  pr : T.prim 185 = none
/-- motley/num.limited -/
def ir196 : AFunc := ⟨.seq (.region [
⟨(some 2),.p .mv,[.c (.int .i64 0)],none,[]⟩,
⟨(some 3),.p .mv,[.c (.int .i64 0)],none,[]⟩] false []) <|
 .seq (.seq (.region [
⟨(some 4),.p .mv,[.t 0],none,[]⟩,
⟨(some 5),.w .call,[.c (.fn 185 [] []),.t 4],none,[]⟩,
⟨(some 6),.p (.un .not),[.t 5],none,[]⟩] false []) <|
 .cond (.t 6) (.seq (.region [
⟨(some 2),.p .mv,[.c (.int .i64 0)],none,[]⟩,
⟨(some 3),.p .mv,[.c (.int .i64 1)],none,[]⟩] false []) <|
 .ret) (.skip)) <|
 .seq (.region [
⟨(some 7),.p .mv,[.t 0],none,[]⟩,
⟨(some 2),.p .mv,[.t 7],none,[]⟩,
⟨(some 3),.p .mv,[.c (.int .i64 0)],none,[]⟩] false []) <|
 .ret, [.tmp 2,.tmp 3]⟩
structure D196 (T : Tab) : Prop where
  fn : T.fn 196 = some ir196
  pr : T.prim 196 = none
  d185 : D185 T
/-- motley/num.operations$1 -/
def ir195 : AFunc := ⟨.seq (.region [
⟨(some 4),.p .mv,[.c (.int .i64 0)],none,[]⟩,
⟨(some 5),.p .mv,[.c (.int .i64 0)],none,[]⟩] false []) <|
 .seq (.region [
⟨(some 6),.p .mv,[.t 0],none,[]⟩,
⟨(some 7),.p .mv,[.t 1],none,[]⟩,
⟨(some 8),.p (.bin .add),[.t 6,.t 7],none,[]⟩,
⟨(some 9),.w .call,[.c (.fn 196 [] []),.t 8],none,[]⟩,
⟨(some 10),.p (.ext 0),[.t 9],none,[]⟩,
⟨(some 11),.p (.ext 1),[.t 9],none,[]⟩,
⟨(some 4),.p .mv,[.t 10],none,[]⟩,
⟨(some 5),.p .mv,[.t 11],none,[]⟩] false []) <|
 .ret, [.tmp 4,.tmp 5]⟩
structure D195 (T : Tab) : Prop where
  fn : T.fn 195 = some ir195
  pr : T.prim 195 = none
  d196 : D196 T
/-- motley/num.operations$2 -/
def ir197 : AFunc := ⟨.seq (.region [
⟨(some 4),.p .mv,[.c (.int .i64 0)],none,[]⟩,
⟨(some 5),.p .mv,[.c (.int .i64 0)],none,[]⟩] false []) <|
 .seq (.region [
⟨(some 6),.p .mv,[.t 0],none,[]⟩,
⟨(some 7),.p .mv,[.t 1],none,[]⟩,
⟨(some 8),.p (.bin .sub),[.t 6,.t 7],none,[]⟩,
⟨(some 9),.w .call,[.c (.fn 196 [] []),.t 8],none,[]⟩,
⟨(some 10),.p (.ext 0),[.t 9],none,[]⟩,
⟨(some 11),.p (.ext 1),[.t 9],none,[]⟩,
⟨(some 4),.p .mv,[.t 10],none,[]⟩,
⟨(some 5),.p .mv,[.t 11],none,[]⟩] false []) <|
 .ret, [.tmp 4,.tmp 5]⟩
structure D197 (T : Tab) : Prop where
  fn : T.fn 197 = some ir197
  pr : T.prim 197 = none
  d196 : D196 T
/-- motley/num.product -/
def ir198 : AFunc := ⟨.seq (.region [
⟨(some 4),.p .mv,[.c (.int .i64 0)],none,[]⟩,
⟨(some 5),.p .mv,[.c (.int .i64 0)],none,[]⟩] false []) <|
 .seq (.seq (.region [
⟨(some 6),.p .mv,[.t 0],none,[]⟩,
⟨(some 7),.p (.bin .eql),[.t 6,.c (.int .i64 0)],none,[]⟩,
⟨(some 8),.p .mv,[.t 7],none,[]⟩,
⟨(some 9),.p .mv,[.t 1],(some (8,false)),[]⟩,
⟨(some 10),.p (.bin .eql),[.t 9,.c (.int .i64 0)],(some (8,false)),[]⟩,
⟨(some 11),.p .pick,[.t 8,.c (.bool true),.t 10],none,[]⟩] false []) <|
 .cond (.t 11) (.seq (.region [
⟨(some 4),.p .mv,[.c (.int .i64 0)],none,[]⟩,
⟨(some 5),.p .mv,[.c (.int .i64 0)],none,[]⟩] false []) <|
 .ret) (.skip)) <|
 .seq (.seq (.region [
⟨(some 12),.p .mv,[.t 0],none,[]⟩,
⟨(some 13),.p .mv,[.t 0],none,[]⟩,
⟨(some 14),.p (.un .neg),[.t 13],none,[]⟩,
⟨(some 15),.p .max,[.t 12,.t 14],none,[]⟩,
⟨(some 16),.p .mv,[.t 1],none,[]⟩,
⟨(some 17),.p .mv,[.t 1],none,[]⟩,
⟨(some 18),.p (.un .neg),[.t 17],none,[]⟩,
⟨(some 19),.p .max,[.t 16,.t 18],none,[]⟩,
⟨(some 20),.p (.bin .quo),[.c (.int .i64 9007199254740992),.t 19],none,[]⟩,
⟨(some 21),.p (.bin .gtr),[.t 15,.t 20],none,[]⟩] false []) <|
 .cond (.t 21) (.seq (.region [
⟨(some 4),.p .mv,[.c (.int .i64 0)],none,[]⟩,
⟨(some 5),.p .mv,[.c (.int .i64 1)],none,[]⟩] false []) <|
 .ret) (.skip)) <|
 .seq (.region [
⟨(some 22),.p .mv,[.t 0],none,[]⟩,
⟨(some 23),.p .mv,[.t 1],none,[]⟩,
⟨(some 24),.p (.bin .mul),[.t 22,.t 23],none,[]⟩,
⟨(some 4),.p .mv,[.t 24],none,[]⟩,
⟨(some 5),.p .mv,[.c (.int .i64 0)],none,[]⟩] false []) <|
 .ret, [.tmp 4,.tmp 5]⟩
structure D198 (T : Tab) : Prop where
  fn : T.fn 198 = some ir198
  pr : T.prim 198 = none
/-- motley/num.divided$1 -/
def ir210 : AFunc := ⟨.seq (.region [
⟨(some 5),.p .mv,[.c (.int .i64 0)],none,[]⟩,
⟨(some 6),.p .mv,[.c (.int .i64 0)],none,[]⟩] false []) <|
 .seq (.seq (.region [
⟨(some 7),.p .mv,[.t 1],none,[]⟩,
⟨(some 8),.p (.bin .eql),[.t 7,.c (.int .i64 0)],none,[]⟩] false []) <|
 .cond (.t 8) (.seq (.region [
⟨(some 5),.p .mv,[.c (.int .i64 0)],none,[]⟩,
⟨(some 6),.p .mv,[.c (.int .i64 2)],none,[]⟩] false []) <|
 .ret) (.skip)) <|
 .seq (.region [
⟨(some 9),.r (.ld 1 false),[.t 2],none,[]⟩,
⟨(some 10),.p .mv,[.t 0],none,[]⟩,
⟨(some 11),.p .mv,[.t 1],none,[]⟩,
⟨(some 12),.w .call,[.t 9,.t 10,.t 11],none,[]⟩,
⟨(some 13),.w .call,[.c (.fn 196 [] []),.t 12],none,[]⟩,
⟨(some 14),.p (.ext 0),[.t 13],none,[]⟩,
⟨(some 15),.p (.ext 1),[.t 13],none,[]⟩,
⟨(some 5),.p .mv,[.t 14],none,[]⟩,
⟨(some 6),.p .mv,[.t 15],none,[]⟩] false []) <|
 .ret, [.tmp 5,.tmp 6]⟩
structure D210 (T : Tab) : Prop where
  fn : T.fn 210 = some ir210
  pr : T.prim 210 = none
  d196 : D196 T
/-- motley/num.divided -/
def ir199 : AFunc := ⟨.seq (.region [
⟨(some 1),.w .box,[.t 0],none,[]⟩,
⟨(some 2),.p .mv,[.c .nilFn],none,[]⟩] false []) <|
 .seq (.region [
⟨(some 3),.p (.mkF 210 0),[.t 1],none,[]⟩,
⟨(some 2),.p .mv,[.t 3],none,[]⟩] false []) <|
 .ret, [.tmp 2]⟩
structure D199 (T : Tab) : Prop where
  fn : T.fn 199 = some ir199
  pr : T.prim 199 = none
  d210 : D210 T
/-- motley/num.floor -/
def ir201 : AFunc := ⟨.seq (.region [
⟨(some 4),.p .mv,[.c (.int .i64 0)],none,[]⟩,
⟨(some 5),.p .mv,[.c (.int .i64 0)],none,[]⟩] false []) <|
 .seq (.region [
⟨(some 8),.p .mv,[.t 0],none,[]⟩,
⟨(some 9),.p .mv,[.t 1],none,[]⟩,
⟨(some 10),.p (.bin .quo),[.t 8,.t 9],none,[]⟩,
⟨(some 11),.p .mv,[.t 0],none,[]⟩,
⟨(some 12),.p .mv,[.t 1],none,[]⟩,
⟨(some 13),.p (.bin .rem),[.t 11,.t 12],none,[]⟩,
⟨(some 6),.p .mv,[.t 10],none,[]⟩,
⟨(some 7),.p .mv,[.t 13],none,[]⟩] true []) <|
 .seq (.seq (.region [
⟨(some 14),.p .mv,[.t 7],none,[]⟩,
⟨(some 15),.p (.bin .neq),[.t 14,.c (.int .i64 0)],none,[]⟩,
⟨(some 16),.p .mv,[.t 15],none,[]⟩,
⟨(some 17),.p .mv,[.t 7],(some (16,true)),[]⟩,
⟨(some 18),.p (.bin .lss),[.t 17,.c (.int .i64 0)],(some (16,true)),[]⟩,
⟨(some 19),.p .mv,[.t 1],(some (16,true)),[]⟩,
⟨(some 20),.p (.bin .lss),[.t 19,.c (.int .i64 0)],(some (16,true)),[]⟩,
⟨(some 21),.p (.eqB true),[.t 18,.t 20],(some (16,true)),[]⟩,
⟨(some 22),.p .pick,[.t 16,.t 21,.c (.bool false)],none,[]⟩] false []) <|
 .cond (.t 22) (.region [
⟨(some 23),.p .mv,[.t 6],none,[]⟩,
⟨(some 24),.p (.bin .sub),[.t 23,.c (.int .i64 1)],none,[]⟩,
⟨(some 25),.p .mv,[.t 7],none,[]⟩,
⟨(some 26),.p .mv,[.t 1],none,[]⟩,
⟨(some 27),.p (.bin .add),[.t 25,.t 26],none,[]⟩,
⟨(some 6),.p .mv,[.t 24],none,[]⟩,
⟨(some 7),.p .mv,[.t 27],none,[]⟩] false []) (.skip)) <|
 .seq (.region [
⟨(some 28),.p .mv,[.t 6],none,[]⟩,
⟨(some 29),.p .mv,[.t 7],none,[]⟩,
⟨(some 4),.p .mv,[.t 28],none,[]⟩,
⟨(some 5),.p .mv,[.t 29],none,[]⟩] false []) <|
 .ret, [.tmp 4,.tmp 5]⟩
structure D201 (T : Tab) : Prop where
  fn : T.fn 201 = some ir201
  pr : T.prim 201 = none
/-- motley/num.operations$3 -/
def ir200 : AFunc := ⟨.seq (.region [
⟨(some 4),.p .mv,[.c (.int .i64 0)],none,[]⟩] false []) <|
 .seq (.region [
⟨(some 8),.p .mv,[.t 0],none,[]⟩,
⟨(some 9),.p .mv,[.t 1],none,[]⟩,
⟨(some 10),.w .call,[.c (.fn 201 [] []),.t 8,.t 9],none,[]⟩,
⟨(some 7),.p .mv,[.t 10],none,[]⟩,
⟨(some 11),.p (.ext 0),[.t 7],none,[]⟩,
⟨(some 12),.p (.ext 1),[.t 7],none,[]⟩,
⟨(some 5),.p .mv,[.t 11],none,[]⟩,
⟨(some 6),.p .mv,[.t 12],none,[]⟩] false []) <|
 .seq (.region [
⟨(some 13),.p .mv,[.t 5],none,[]⟩,
⟨(some 4),.p .mv,[.t 13],none,[]⟩] false []) <|
 .ret, [.tmp 4]⟩
structure D200 (T : Tab) : Prop where
  fn : T.fn 200 = some ir200
  pr : T.prim 200 = none
  d201 : D201 T
/-- motley/num.operations$4 -/
def ir202 : AFunc := ⟨.seq (.region [
⟨(some 4),.p .mv,[.c (.int .i64 0)],none,[]⟩] false []) <|
 .seq (.region [
⟨(some 8),.p .mv,[.t 0],none,[]⟩,
⟨(some 9),.p .mv,[.t 1],none,[]⟩,
⟨(some 10),.w .call,[.c (.fn 201 [] []),.t 8,.t 9],none,[]⟩,
⟨(some 7),.p .mv,[.t 10],none,[]⟩,
⟨(some 11),.p (.ext 0),[.t 7],none,[]⟩,
⟨(some 12),.p (.ext 1),[.t 7],none,[]⟩,
⟨(some 5),.p .mv,[.t 11],none,[]⟩,
⟨(some 6),.p .mv,[.t 12],none,[]⟩] false []) <|
 .seq (.region [
⟨(some 13),.p .mv,[.t 6],none,[]⟩,
⟨(some 4),.p .mv,[.t 13],none,[]⟩] false []) <|
 .ret, [.tmp 4]⟩
structure D202 (T : Tab) : Prop where
  fn : T.fn 202 = some ir202
  pr : T.prim 202 = none
  d201 : D201 T
/-- motley/num.power -/
def ir203 : AFunc := ⟨.seq (.region [
⟨(some 4),.p .mv,[.c (.int .i64 0)],none,[]⟩,
⟨(some 5),.p .mv,[.c (.int .i64 0)],none,[]⟩] false []) <|
 .seq (.seq (.region [
⟨(some 8),.p .mv,[.t 1],none,[]⟩,
⟨(some 9),.p (.bin .lss),[.t 8,.c (.int .i64 0)],none,[]⟩] false []) <|
 .cond (.t 9) (.seq (.region [
⟨(some 4),.p .mv,[.c (.int .i64 0)],none,[]⟩,
⟨(some 5),.p .mv,[.c (.int .i64 1)],none,[]⟩] false []) <|
 .ret) (.skip)) <|
 .seq (.seq (.region [
⟨(some 10),.p .mv,[.t 0],none,[]⟩] false []) <|
 .block 0 (.seq (.region [
⟨(some 12),.p (.bin .eql),[.t 10,.c (.int .i64 0)],none,[]⟩,
⟨(some 11),.p .mv,[.t 12],none,[]⟩] false []) <|
 .cond (.t 11) (.seq (.seq (.region [
⟨(some 13),.p .mv,[.t 1],none,[]⟩,
⟨(some 14),.p (.bin .eql),[.t 13,.c (.int .i64 0)],none,[]⟩] false []) <|
 .cond (.t 14) (.seq (.region [
⟨(some 4),.p .mv,[.c (.int .i64 1)],none,[]⟩,
⟨(some 5),.p .mv,[.c (.int .i64 0)],none,[]⟩] false []) <|
 .ret) (.skip)) <|
 .seq (.region [
⟨(some 4),.p .mv,[.c (.int .i64 0)],none,[]⟩,
⟨(some 5),.p .mv,[.c (.int .i64 0)],none,[]⟩] false []) <|
 .ret) (.seq (.region [
⟨(some 16),.p (.bin .eql),[.t 10,.c (.int .i64 1)],none,[]⟩,
⟨(some 15),.p .mv,[.t 16],none,[]⟩] false []) <|
 .cond (.t 15) (.seq (.region [
⟨(some 4),.p .mv,[.c (.int .i64 1)],none,[]⟩,
⟨(some 5),.p .mv,[.c (.int .i64 0)],none,[]⟩] false []) <|
 .ret) (.seq (.region [
⟨(some 18),.p (.bin .eql),[.t 10,.c (.int .i64 (-1))],none,[]⟩,
⟨(some 17),.p .mv,[.t 18],none,[]⟩] false []) <|
 .cond (.t 17) (.seq (.region [
⟨(some 19),.p .mv,[.t 1],none,[]⟩,
⟨(some 20),.p (.bin .rem),[.t 19,.c (.int .i64 2)],none,[]⟩,
⟨(some 21),.p (.bin .mul),[.c (.int .i64 2),.t 20],none,[]⟩,
⟨(some 22),.p (.bin .sub),[.c (.int .i64 1),.t 21],none,[]⟩,
⟨(some 4),.p .mv,[.t 22],none,[]⟩,
⟨(some 5),.p .mv,[.c (.int .i64 0)],none,[]⟩] false []) <|
 .ret) (.skip))))) <|
 .seq (.region [
⟨(some 6),.p .mv,[.c (.int .i64 1)],none,[]⟩,
⟨(some 7),.p .mv,[.c (.int .i64 0)],none,[]⟩] false []) <|
 .seq (.seq (.region [
⟨(some 23),.p .mv,[.t 1],none,[]⟩,
⟨(some 24),.p .mv,[.c (.int .i64 0)],none,[]⟩] false []) <|
 .block 1 (.loop (.seq (.region [
⟨(some 25),.p (.bin .lss),[.t 24,.t 23],none,[]⟩] false []) <|
 .seq (.cond (.t 25) (.skip) (.exit 1)) <|
 .seq (.block 2 (.seq (.region [
⟨(some 27),.p .mv,[.t 6],none,[]⟩,
⟨(some 28),.p .mv,[.t 0],none,[]⟩,
⟨(some 29),.w .call,[.c (.fn 198 [] []),.t 27,.t 28],none,[]⟩,
⟨(some 26),.p .mv,[.t 29],none,[]⟩,
⟨(some 30),.p (.ext 0),[.t 26],none,[]⟩,
⟨(some 31),.p (.ext 1),[.t 26],none,[]⟩,
⟨(some 6),.p .mv,[.t 30],none,[]⟩,
⟨(some 7),.p .mv,[.t 31],none,[]⟩] false []) <|
 .seq (.region [
⟨(some 32),.p .mv,[.t 7],none,[]⟩,
⟨(some 33),.p (.bin .neq),[.t 32,.c (.int .i64 0)],none,[]⟩] false []) <|
 .cond (.t 33) (.seq (.region [
⟨(some 34),.p .mv,[.t 7],none,[]⟩,
⟨(some 4),.p .mv,[.c (.int .i64 0)],none,[]⟩,
⟨(some 5),.p .mv,[.t 34],none,[]⟩] false []) <|
 .ret) (.skip))) <|
 .region [
⟨(some 35),.p (.bin .add),[.t 24,.c (.int .i64 1)],none,[]⟩,
⟨(some 24),.p .mv,[.t 35],none,[]⟩] false []))) <|
 .seq (.region [
⟨(some 36),.p .mv,[.t 6],none,[]⟩,
⟨(some 4),.p .mv,[.t 36],none,[]⟩,
⟨(some 5),.p .mv,[.c (.int .i64 0)],none,[]⟩] false []) <|
 .ret, [.tmp 4,.tmp 5]⟩
structure D203 (T : Tab) : Prop where
  fn : T.fn 203 = some ir203
  pr : T.prim 203 = none
  d198 : D198 T
/-- motley/num.bits$1 -/
def ir211 : AFunc := ⟨.seq (.region [
⟨(some 5),.p .mv,[.c (.int .i64 0)],none,[]⟩,
⟨(some 6),.p .mv,[.c (.int .i64 0)],none,[]⟩] false []) <|
 .seq (.seq (.region [
⟨(some 7),.p .mv,[.t 0],none,[]⟩,
⟨(some 8),.p (.bin .lss),[.t 7,.c (.int .i64 0)],none,[]⟩,
⟨(some 9),.p .mv,[.t 8],none,[]⟩,
⟨(some 10),.p .mv,[.t 1],(some (9,false)),[]⟩,
⟨(some 11),.p (.bin .lss),[.t 10,.c (.int .i64 0)],(some (9,false)),[]⟩,
⟨(some 12),.p .pick,[.t 9,.c (.bool true),.t 11],none,[]⟩] false []) <|
 .cond (.t 12) (.seq (.region [
⟨(some 5),.p .mv,[.c (.int .i64 0)],none,[]⟩,
⟨(some 6),.p .mv,[.c (.int .i64 1)],none,[]⟩] false []) <|
 .ret) (.skip)) <|
 .seq (.region [
⟨(some 13),.r (.ld 1 false),[.t 2],none,[]⟩,
⟨(some 14),.p .mv,[.t 0],none,[]⟩,
⟨(some 15),.p .mv,[.t 1],none,[]⟩,
⟨(some 16),.w .call,[.t 13,.t 14,.t 15],none,[]⟩,
⟨(some 17),.w .call,[.c (.fn 196 [] []),.t 16],none,[]⟩,
⟨(some 18),.p (.ext 0),[.t 17],none,[]⟩,
⟨(some 19),.p (.ext 1),[.t 17],none,[]⟩,
⟨(some 5),.p .mv,[.t 18],none,[]⟩,
⟨(some 6),.p .mv,[.t 19],none,[]⟩] false []) <|
 .ret, [.tmp 5,.tmp 6]⟩
structure D211 (T : Tab) : Prop where
  fn : T.fn 211 = some ir211
  pr : T.prim 211 = none
  d196 : D196 T
/-- motley/num.bits -/
def ir204 : AFunc := ⟨.seq (.region [
⟨(some 1),.w .box,[.t 0],none,[]⟩,
⟨(some 2),.p .mv,[.c .nilFn],none,[]⟩] false []) <|
 .seq (.region [
⟨(some 3),.p (.mkF 211 0),[.t 1],none,[]⟩,
⟨(some 2),.p .mv,[.t 3],none,[]⟩] false []) <|
 .ret, [.tmp 2]⟩
structure D204 (T : Tab) : Prop where
  fn : T.fn 204 = some ir204
  pr : T.prim 204 = none
  d211 : D211 T
/-- motley/num.operations$5 -/
def ir205 : AFunc := ⟨.seq (.region [
⟨(some 4),.p .mv,[.c (.int .i64 0)],none,[]⟩] false []) <|
 .seq (.region [
⟨(some 5),.p .mv,[.t 0],none,[]⟩,
⟨(some 6),.p .mv,[.t 1],none,[]⟩,
⟨(some 7),.p (.bin .and),[.t 5,.t 6],none,[]⟩,
⟨(some 4),.p .mv,[.t 7],none,[]⟩] false []) <|
 .ret, [.tmp 4]⟩
structure D205 (T : Tab) : Prop where
  fn : T.fn 205 = some ir205
  pr : T.prim 205 = none
/-- motley/num.operations$6 -/
def ir206 : AFunc := ⟨.seq (.region [
⟨(some 4),.p .mv,[.c (.int .i64 0)],none,[]⟩] false []) <|
 .seq (.region [
⟨(some 5),.p .mv,[.t 0],none,[]⟩,
⟨(some 6),.p .mv,[.t 1],none,[]⟩,
⟨(some 7),.p (.bin .or),[.t 5,.t 6],none,[]⟩,
⟨(some 4),.p .mv,[.t 7],none,[]⟩] false []) <|
 .ret, [.tmp 4]⟩
structure D206 (T : Tab) : Prop where
  fn : T.fn 206 = some ir206
  pr : T.prim 206 = none
/-- motley/num.operations$7 -/
def ir207 : AFunc := ⟨.seq (.region [
⟨(some 4),.p .mv,[.c (.int .i64 0)],none,[]⟩] false []) <|
 .seq (.region [
⟨(some 5),.p .mv,[.t 0],none,[]⟩,
⟨(some 6),.p .mv,[.t 1],none,[]⟩,
⟨(some 7),.p (.bin .xor),[.t 5,.t 6],none,[]⟩,
⟨(some 4),.p .mv,[.t 7],none,[]⟩] false []) <|
 .ret, [.tmp 4]⟩
structure D207 (T : Tab) : Prop where
  fn : T.fn 207 = some ir207
  pr : T.prim 207 = none
/-- motley/num.operations -/
def ir184 : AFunc := ⟨.seq (.region [
⟨(some 0),.p .mv,[.c (.map none)],none,[]⟩] false []) <|
 .seq (.region [
⟨(some 1),.w .mkM,[],none,[]⟩,
⟨none,.w (.mset .int),[.t 1,.c (.int .i64 0),.c (.fn 195 [] [])],none,[]⟩,
⟨none,.w (.mset .int),[.t 1,.c (.int .i64 1),.c (.fn 197 [] [])],none,[]⟩,
⟨none,.w (.mset .int),[.t 1,.c (.int .i64 2),.c (.fn 198 [] [])],none,[]⟩,
⟨(some 2),.w .call,[.c (.fn 199 [] []),.c (.fn 200 [] [])],none,[]⟩,
⟨none,.w (.mset .int),[.t 1,.c (.int .i64 3),.t 2],none,[]⟩,
⟨(some 3),.w .call,[.c (.fn 199 [] []),.c (.fn 202 [] [])],none,[]⟩,
⟨none,.w (.mset .int),[.t 1,.c (.int .i64 4),.t 3],none,[]⟩,
⟨none,.w (.mset .int),[.t 1,.c (.int .i64 5),.c (.fn 203 [] [])],none,[]⟩,
⟨(some 4),.w .call,[.c (.fn 204 [] []),.c (.fn 205 [] [])],none,[]⟩,
⟨none,.w (.mset .int),[.t 1,.c (.int .i64 6),.t 4],none,[]⟩,
⟨(some 5),.w .call,[.c (.fn 204 [] []),.c (.fn 206 [] [])],none,[]⟩,
⟨none,.w (.mset .int),[.t 1,.c (.int .i64 7),.t 5],none,[]⟩,
⟨(some 6),.w .call,[.c (.fn 204 [] []),.c (.fn 207 [] [])],none,[]⟩,
⟨none,.w (.mset .int),[.t 1,.c (.int .i64 8),.t 6],none,[]⟩,
⟨(some 7),.p .mv,[.t 1],none,[]⟩,
⟨(some 0),.p .mv,[.t 7],none,[]⟩] false []) <|
 .ret, [.tmp 0]⟩
structure D184 (T : Tab) : Prop where
  fn : T.fn 184 = some ir184
  pr : T.prim 184 = none
  d195 : D195 T
  d197 : D197 T
  d198 : D198 T
  d199 : D199 T
  d200 : D200 T
  d202 : D202 T
  d203 : D203 T
  d204 : D204 T
  d205 : D205 T
  d206 : D206 T
  d207 : D207 T
/-- motley/num.Do -/
def ir167 : AFunc := ⟨.seq (.region [
⟨(some 6),.p .mv,[.c (.int .i64 0)],none,[]⟩,
⟨(some 7),.p .mv,[.c (.int .i64 0)],none,[]⟩,
⟨(some 8),.p .mv,[.c (.int .i64 0)],none,[]⟩] false []) <|
 .seq (.region [
⟨(some 12),.w .call,[.c (.fn 184 [] [])],none,[]⟩,
⟨(some 13),.p .mv,[.t 0],none,[]⟩,
⟨(some 14),.r (.look .int .nilFn false),[.t 12,.t 13],none,[]⟩,
⟨(some 9),.p .mv,[.t 14],none,[]⟩] false []) <|
 .seq (.seq (.region [
⟨(some 15),.p .mv,[.t 9],none,[]⟩,
⟨(some 16),.p (.isNil .fn false),[.t 15],none,[]⟩,
⟨(some 17),.p .mv,[.t 16],none,[]⟩,
⟨(some 18),.p .mv,[.t 1],(some (17,false)),[]⟩,
⟨(some 19),.w .call,[.c (.fn 185 [] []),.t 18],(some (17,false)),[]⟩,
⟨(some 20),.p (.un .not),[.t 19],(some (17,false)),[]⟩,
⟨(some 21),.p .pick,[.t 17,.c (.bool true),.t 20],none,[]⟩,
⟨(some 22),.p .mv,[.t 21],none,[]⟩,
⟨(some 23),.p .mv,[.t 2],(some (22,false)),[]⟩,
⟨(some 24),.w .call,[.c (.fn 185 [] []),.t 23],(some (22,false)),[]⟩,
⟨(some 25),.p (.un .not),[.t 24],(some (22,false)),[]⟩,
⟨(some 26),.p .pick,[.t 22,.c (.bool true),.t 25],none,[]⟩] false []) <|
 .cond (.t 26) (.seq (.region [
⟨(some 6),.p .mv,[.c (.int .i64 0)],none,[]⟩,
⟨(some 7),.p .mv,[.c (.int .i64 0)],none,[]⟩,
⟨(some 8),.p .mv,[.c (.int .i64 1)],none,[]⟩] false []) <|
 .ret) (.skip)) <|
 .seq (.region [
⟨(some 28),.p .mv,[.t 9],none,[]⟩,
⟨(some 29),.p .mv,[.t 1],none,[]⟩,
⟨(some 30),.p .mv,[.t 2],none,[]⟩,
⟨(some 31),.w .call,[.t 28,.t 29,.t 30],none,[]⟩,
⟨(some 27),.p .mv,[.t 31],none,[]⟩,
⟨(some 32),.p (.ext 0),[.t 27],none,[]⟩,
⟨(some 33),.p (.ext 1),[.t 27],none,[]⟩,
⟨(some 10),.p .mv,[.t 32],none,[]⟩,
⟨(some 11),.p .mv,[.t 33],none,[]⟩] false []) <|
 .seq (.region [
⟨(some 34),.p .mv,[.t 10],none,[]⟩,
⟨(some 35),.p .mv,[.t 11],none,[]⟩,
⟨(some 6),.p .mv,[.t 34],none,[]⟩,
⟨(some 7),.p .mv,[.t 35],none,[]⟩,
⟨(some 8),.p .mv,[.c (.int .i64 0)],none,[]⟩] false []) <|
 .ret, [.tmp 6,.tmp 7,.tmp 8]⟩
structure D167 (T : Tab) : Prop where
  fn : T.fn 167 = some ir167
  pr : T.prim 167 = none
  d184 : D184 T
  d185 : D185 T
/-- motley/num.Validate -/
def ir188 : AFunc := ⟨.seq (.region [
⟨(some 1),.w .box,[.t 0],none,[]⟩,
⟨(some 2),.p .mv,[.c (.int .i64 0)],none,[]⟩] false []) <|
 .seq (.seq (.region [
⟨(some 4),.p (.fa 2),[.t 1],none,[]⟩,
⟨(some 5),.r (.ld 1 false),[.t 4],none,[]⟩,
⟨(some 6),.p .lenS,[.t 5],none,[]⟩,
⟨(some 7),.p (.bin .gtr),[.t 6,.c (.int .i64 4096)],none,[]⟩] false []) <|
 .cond (.t 7) (.seq (.region [
⟨(some 2),.p .mv,[.c (.int .i64 3)],none,[]⟩] false []) <|
 .ret) (.skip)) <|
 .seq (.region [
⟨(some 3),.p .mv,[.c (.bool false)],none,[]⟩] false []) <|
 .seq (.seq (.region [
⟨(some 8),.p (.fa 0),[.t 1],none,[]⟩,
⟨(some 9),.r (.ld 1 false),[.t 8],none,[]⟩] false []) <|
 .block 0 (.seq (.region [
⟨(some 11),.p (.bin .eql),[.t 9,.c (.int .i64 0)],none,[]⟩,
⟨(some 10),.p .mv,[.t 11],none,[]⟩] false []) <|
 .cond (.t 10) (.region [
⟨(some 12),.p (.fa 1),[.t 1],none,[]⟩,
⟨(some 13),.r (.ld 1 false),[.t 12],none,[]⟩,
⟨(some 14),.p (.bin .eql),[.t 13,.c (.int .i64 0)],none,[]⟩,
⟨(some 15),.p .mv,[.t 14],none,[]⟩,
⟨(some 16),.p (.fa 2),[.t 1],(some (15,true)),[]⟩,
⟨(some 17),.r (.ld 1 false),[.t 16],(some (15,true)),[]⟩,
⟨(some 18),.p (.bin .eql),[.t 17,.c (.str [])],(some (15,true)),[]⟩,
⟨(some 19),.p .pick,[.t 15,.t 18,.c (.bool false)],none,[]⟩,
⟨(some 3),.p .mv,[.t 19],none,[]⟩] false []) (.seq (.region [
⟨(some 21),.p (.bin .eql),[.t 9,.c (.int .i64 1)],none,[]⟩,
⟨(some 20),.p .mv,[.t 21],none,[]⟩] false []) <|
 .cond (.t 20) (.region [
⟨(some 22),.p (.fa 1),[.t 1],none,[]⟩,
⟨(some 23),.r (.ld 1 false),[.t 22],none,[]⟩,
⟨(some 24),.w .call,[.c (.fn 185 [] []),.t 23],none,[]⟩,
⟨(some 25),.p .mv,[.t 24],none,[]⟩,
⟨(some 26),.p (.fa 2),[.t 1],(some (25,true)),[]⟩,
⟨(some 27),.r (.ld 1 false),[.t 26],(some (25,true)),[]⟩,
⟨(some 28),.p (.bin .eql),[.t 27,.c (.str [])],(some (25,true)),[]⟩,
⟨(some 29),.p .pick,[.t 25,.t 28,.c (.bool false)],none,[]⟩,
⟨(some 3),.p .mv,[.t 29],none,[]⟩] false []) (.seq (.region [
⟨(some 31),.p (.bin .eql),[.t 9,.c (.int .i64 2)],none,[]⟩,
⟨(some 30),.p .mv,[.t 31],none,[]⟩] false []) <|
 .cond (.t 30) (.region [
⟨(some 32),.p (.fa 1),[.t 1],none,[]⟩,
⟨(some 33),.r (.ld 1 false),[.t 32],none,[]⟩,
⟨(some 34),.p (.bin .eql),[.t 33,.c (.int .i64 0)],none,[]⟩,
⟨(some 3),.p .mv,[.t 34],none,[]⟩] false []) (.skip))))) <|
 .seq (.seq (.region [
⟨(some 35),.p .mv,[.t 3],none,[]⟩,
⟨(some 36),.p (.un .not),[.t 35],none,[]⟩] false []) <|
 .cond (.t 36) (.seq (.region [
⟨(some 2),.p .mv,[.c (.int .i64 1)],none,[]⟩] false []) <|
 .ret) (.skip)) <|
 .seq (.region [
⟨(some 2),.p .mv,[.c (.int .i64 0)],none,[]⟩] false []) <|
 .ret, [.tmp 2]⟩
structure D188 (T : Tab) : Prop where
  fn : T.fn 188 = some ir188
  pr : T.prim 188 = none
  d185 : D185 T
/-- motley/num.isBlank -/
def ir214 : AFunc := ⟨.seq (.region [
⟨(some 2),.p .mv,[.c (.bool false)],none,[]⟩] false []) <|
 .seq (.region [
⟨(some 3),.p .mv,[.t 0],none,[]⟩,
⟨(some 4),.p (.bin .eql),[.t 3,.c (.int .u8 9)],none,[]⟩,
⟨(some 5),.p .mv,[.t 4],none,[]⟩,
⟨(some 6),.p .mv,[.t 0],(some (5,false)),[]⟩,
⟨(some 7),.p (.bin .eql),[.t 6,.c (.int .u8 10)],(some (5,false)),[]⟩,
⟨(some 8),.p .pick,[.t 5,.c (.bool true),.t 7],none,[]⟩,
⟨(some 9),.p .mv,[.t 8],none,[]⟩,
⟨(some 10),.p .mv,[.t 0],(some (9,false)),[]⟩,
⟨(some 11),.p (.bin .eql),[.t 10,.c (.int .u8 13)],(some (9,false)),[]⟩,
⟨(some 12),.p .pick,[.t 9,.c (.bool true),.t 11],none,[]⟩,
⟨(some 13),.p .mv,[.t 12],none,[]⟩,
⟨(some 14),.p .mv,[.t 0],(some (13,false)),[]⟩,
⟨(some 15),.p (.bin .eql),[.t 14,.c (.int .u8 32)],(some (13,false)),[]⟩,
⟨(some 16),.p .pick,[.t 13,.c (.bool true),.t 15],none,[]⟩,
⟨(some 2),.p .mv,[.t 16],none,[]⟩] false []) <|
 .ret, [.tmp 2]⟩
structure D214 (T : Tab) : Prop where
  fn : T.fn 214 = some ir214
  pr : T.prim 214 = none
/-- motley/num.isDigit -/
def ir215 : AFunc := ⟨.seq (.region [
⟨(some 2),.p .mv,[.c (.bool false)],none,[]⟩] false []) <|
 .seq (.region [
⟨(some 3),.p .mv,[.t 0],none,[]⟩,
⟨(some 4),.p (.bin .geq),[.t 3,.c (.int .u8 48)],none,[]⟩,
⟨(some 5),.p .mv,[.t 4],none,[]⟩,
⟨(some 6),.p .mv,[.t 0],(some (5,true)),[]⟩,
⟨(some 7),.p (.bin .leq),[.t 6,.c (.int .u8 57)],(some (5,true)),[]⟩,
⟨(some 8),.p .pick,[.t 5,.t 7,.c (.bool false)],none,[]⟩,
⟨(some 2),.p .mv,[.t 8],none,[]⟩] false []) <|
 .ret, [.tmp 2]⟩
structure D215 (T : Tab) : Prop where
  fn : T.fn 215 = some ir215
  pr : T.prim 215 = none
/-- motley/num.cut -/
def ir209 : AFunc := ⟨.seq (.region [
⟨(some 2),.p .mv,[.c (.bool false)],none,[]⟩,
⟨(some 3),.p .mv,[.c (.str [])],none,[]⟩,
⟨(some 4),.p .mv,[.c (.str [])],none,[]⟩] false []) <|
 .seq (.block 0 (.loop (.seq (.seq (.region [
⟨(some 7),.p .mv,[.t 0],none,[]⟩,
⟨(some 8),.p (.bin .neq),[.t 7,.c (.str [])],none,[]⟩,
⟨(some 9),.p .mv,[.t 8],none,[]⟩,
⟨(some 10),.p .mv,[.t 0],(some (9,true)),[]⟩,
⟨(some 11),.p .idxS,[.t 10,.c (.int .i64 0)],(some (9,true)),[]⟩,
⟨(some 12),.w .call,[.c (.fn 214 [] []),.t 11],(some (9,true)),[]⟩,
⟨(some 13),.p .pick,[.t 9,.t 12,.c (.bool false)],none,[]⟩] false []) <|
 .cond (.t 13) (.skip) (.exit 0)) <|
 .block 1 (.region [
⟨(some 14),.p .mv,[.t 0],none,[]⟩,
⟨(some 15),.p (.slS true false),[.t 14,.c (.int .i64 1)],none,[]⟩,
⟨(some 0),.p .mv,[.t 15],none,[]⟩] false [])))) <|
 .seq (.region [
⟨(some 5),.p .mv,[.c (.bool false)],none,[]⟩] false []) <|
 .seq (.seq (.region [
⟨(some 16),.p .mv,[.t 0],none,[]⟩,
⟨(some 17),.p (.bin .neq),[.t 16,.c (.str [])],none,[]⟩,
⟨(some 18),.p .mv,[.t 17],none,[]⟩,
⟨(some 19),.p .mv,[.t 0],(some (18,true)),[]⟩,
⟨(some 20),.p .idxS,[.t 19,.c (.int .i64 0)],(some (18,true)),[]⟩,
⟨(some 21),.p (.bin .eql),[.t 20,.c (.int .u8 43)],(some (18,true)),[]⟩,
⟨(some 22),.p .mv,[.t 21],(some (18,true)),[]⟩,
⟨(some 23),.p .mv,[.t 0],(some (22,false)),[]⟩,
⟨(some 24),.p .idxS,[.t 23,.c (.int .i64 0)],(some (22,false)),[]⟩,
⟨(some 25),.p (.bin .eql),[.t 24,.c (.int .u8 45)],(some (22,false)),[]⟩,
⟨(some 26),.p .pick,[.t 22,.c (.bool true),.t 25],(some (18,true)),[]⟩,
⟨(some 27),.p .pick,[.t 18,.t 26,.c (.bool false)],none,[]⟩] false []) <|
 .cond (.t 27) (.region [
⟨(some 28),.p .mv,[.t 0],none,[]⟩,
⟨(some 29),.p .idxS,[.t 28,.c (.int .i64 0)],none,[]⟩,
⟨(some 30),.p (.bin .eql),[.t 29,.c (.int .u8 45)],none,[]⟩,
⟨(some 31),.p .mv,[.t 0],none,[]⟩,
⟨(some 32),.p (.slS true false),[.t 31,.c (.int .i64 1)],none,[]⟩,
⟨(some 5),.p .mv,[.t 30],none,[]⟩,
⟨(some 0),.p .mv,[.t 32],none,[]⟩] true []) (.skip)) <|
 .seq (.region [
⟨(some 6),.p .mv,[.c (.int .i64 0)],none,[]⟩] false []) <|
 .seq (.block 2 (.loop (.seq (.seq (.region [
⟨(some 33),.p .mv,[.t 6],none,[]⟩,
⟨(some 34),.p .mv,[.t 0],none,[]⟩,
⟨(some 35),.p .lenS,[.t 34],none,[]⟩,
⟨(some 36),.p (.bin .lss),[.t 33,.t 35],none,[]⟩,
⟨(some 37),.p .mv,[.t 36],none,[]⟩,
⟨(some 38),.p .mv,[.t 0],(some (37,true)),[]⟩,
⟨(some 39),.p .mv,[.t 6],(some (37,true)),[]⟩,
⟨(some 40),.p .idxS,[.t 38,.t 39],(some (37,true)),[]⟩,
⟨(some 41),.w .call,[.c (.fn 215 [] []),.t 40],(some (37,true)),[]⟩,
⟨(some 42),.p .pick,[.t 37,.t 41,.c (.bool false)],none,[]⟩] false []) <|
 .cond (.t 42) (.skip) (.exit 2)) <|
 .block 3 (.region [
⟨(some 43),.p .mv,[.t 6],none,[]⟩,
⟨(some 44),.p (.bin .add),[.t 43,.c (.int .i64 1)],none,[]⟩,
⟨(some 6),.p .mv,[.t 44],none,[]⟩] false [])))) <|
 .seq (.region [
⟨(some 45),.p .mv,[.t 5],none,[]⟩,
⟨(some 46),.p .mv,[.t 0],none,[]⟩,
⟨(some 47),.p .mv,[.t 6],none,[]⟩,
⟨(some 48),.p (.slS false true),[.t 46,.t 47],none,[]⟩,
⟨(some 49),.p .mv,[.t 0],none,[]⟩,
⟨(some 50),.p .mv,[.t 6],none,[]⟩,
⟨(some 51),.p (.slS true false),[.t 49,.t 50],none,[]⟩,
⟨(some 2),.p .mv,[.t 45],none,[]⟩,
⟨(some 3),.p .mv,[.t 48],none,[]⟩,
⟨(some 4),.p .mv,[.t 51],none,[]⟩] true []) <|
 .ret, [.tmp 2,.tmp 3,.tmp 4]⟩
structure D209 (T : Tab) : Prop where
  fn : T.fn 209 = some ir209
  pr : T.prim 209 = none
  d214 : D214 T
  d215 : D215 T
/-- motley/num.of -/
def ir189 : AFunc := ⟨.seq (.region [
⟨(some 2),.p .mv,[.c (.int .i64 0)],none,[]⟩] false []) <|
 .seq (.region [
⟨(some 9),.p .mv,[.t 0],none,[]⟩,
⟨(some 10),.w .call,[.c (.fn 209 [] []),.t 9],none,[]⟩,
⟨(some 8),.p .mv,[.t 10],none,[]⟩,
⟨(some 11),.p (.ext 0),[.t 8],none,[]⟩,
⟨(some 12),.p (.ext 1),[.t 8],none,[]⟩,
⟨(some 13),.p (.ext 2),[.t 8],none,[]⟩,
⟨(some 3),.p .mv,[.t 11],none,[]⟩,
⟨(some 4),.p .mv,[.t 12],none,[]⟩,
⟨(some 5),.p .mv,[.t 13],none,[]⟩] false []) <|
 .seq (.region [
⟨(some 6),.p .mv,[.c (.int .i64 0)],none,[]⟩] false []) <|
 .seq (.seq (.region [
⟨(some 14),.p .mv,[.t 4],none,[]⟩,
⟨(some 15),.p .lenS,[.t 14],none,[]⟩,
⟨(some 16),.p .mv,[.c (.int .i64 0)],none,[]⟩] false []) <|
 .block 0 (.loop (.seq (.region [
⟨(some 17),.p (.bin .lss),[.t 16,.t 15],none,[]⟩] false []) <|
 .seq (.cond (.t 17) (.skip) (.exit 0)) <|
 .seq (.block 1 (.seq (.region [
⟨(some 18),.p .mv,[.t 16],none,[]⟩,
⟨(some 7),.p .mv,[.t 18],none,[]⟩] false []) <|
 .region [
⟨(some 19),.p .mv,[.t 6],none,[]⟩,
⟨(some 20),.p (.bin .mul),[.c (.int .i64 10),.t 19],none,[]⟩,
⟨(some 21),.p .mv,[.t 4],none,[]⟩,
⟨(some 22),.p .mv,[.t 7],none,[]⟩,
⟨(some 23),.p .idxS,[.t 21,.t 22],none,[]⟩,
⟨(some 24),.p (.conv .i64),[.t 23],none,[]⟩,
⟨(some 25),.p (.bin .add),[.t 20,.t 24],none,[]⟩,
⟨(some 26),.p (.bin .sub),[.t 25,.c (.int .i64 48)],none,[]⟩,
⟨(some 27),.p .min,[.t 26,.c (.int .i64 9007199254740992)],none,[]⟩,
⟨(some 6),.p .mv,[.t 27],none,[]⟩] false [])) <|
 .region [
⟨(some 28),.p (.bin .add),[.t 16,.c (.int .i64 1)],none,[]⟩,
⟨(some 16),.p .mv,[.t 28],none,[]⟩] false []))) <|
 .seq (.seq (.region [
⟨(some 29),.p .mv,[.t 3],none,[]⟩] false []) <|
 .cond (.t 29) (.region [
⟨(some 30),.p .mv,[.t 6],none,[]⟩,
⟨(some 31),.p (.un .neg),[.t 30],none,[]⟩,
⟨(some 6),.p .mv,[.t 31],none,[]⟩] false []) (.skip)) <|
 .seq (.region [
⟨(some 32),.p .mv,[.t 6],none,[]⟩,
⟨(some 2),.p .mv,[.t 32],none,[]⟩] false []) <|
 .ret, [.tmp 2]⟩
structure D189 (T : Tab) : Prop where
  fn : T.fn 189 = some ir189
  pr : T.prim 189 = none
  d209 : D209 T
/-- motley/num.NumberOf -/
def ir170 : AFunc := ⟨.seq (.region [
⟨(some 1),.w .box,[.t 0],none,[]⟩,
⟨(some 2),.p .mv,[.c (.int .i64 0)],none,[]⟩,
⟨(some 3),.p .mv,[.c (.int .i64 0)],none,[]⟩] false []) <|
 .seq (.seq (.region [
⟨(some 5),.r (.ld 4 true),[.t 1],none,[]⟩,
⟨(some 6),.w .call,[.c (.fn 188 [] []),.t 5],none,[]⟩,
⟨(some 4),.p .mv,[.t 6],none,[]⟩] false []) <|
 .seq (.region [
⟨(some 7),.p .mv,[.t 4],none,[]⟩,
⟨(some 8),.p (.bin .neq),[.t 7,.c (.int .i64 0)],none,[]⟩] false []) <|
 .cond (.t 8) (.seq (.region [
⟨(some 9),.p .mv,[.t 4],none,[]⟩,
⟨(some 2),.p .mv,[.c (.int .i64 0)],none,[]⟩,
⟨(some 3),.p .mv,[.t 9],none,[]⟩] false []) <|
 .ret) (.skip)) <|
 .seq (.seq (.region [
⟨(some 10),.p (.fa 0),[.t 1],none,[]⟩,
⟨(some 11),.r (.ld 1 false),[.t 10],none,[]⟩,
⟨(some 12),.p (.bin .eql),[.t 11,.c (.int .i64 2)],none,[]⟩] false []) <|
 .cond (.t 12) (.seq (.region [
⟨(some 13),.p (.fa 2),[.t 1],none,[]⟩,
⟨(some 14),.r (.ld 1 false),[.t 13],none,[]⟩,
⟨(some 15),.w .call,[.c (.fn 189 [] []),.t 14],none,[]⟩,
⟨(some 2),.p .mv,[.t 15],none,[]⟩,
⟨(some 3),.p .mv,[.c (.int .i64 0)],none,[]⟩] false []) <|
 .ret) (.skip)) <|
 .seq (.region [
⟨(some 16),.p (.fa 1),[.t 1],none,[]⟩,
⟨(some 17),.r (.ld 1 false),[.t 16],none,[]⟩,
⟨(some 2),.p .mv,[.t 17],none,[]⟩,
⟨(some 3),.p .mv,[.c (.int .i64 0)],none,[]⟩] false []) <|
 .ret, [.tmp 2,.tmp 3]⟩
structure D170 (T : Tab) : Prop where
  fn : T.fn 170 = some ir170
  pr : T.prim 170 = none
  d188 : D188 T
  d189 : D189 T
/-- motley/num.Looks -/
def ir242 : AFunc := ⟨.seq (.region [
⟨(some 2),.p .mv,[.c (.bool false)],none,[]⟩] false []) <|
 .seq (.region [
⟨(some 8),.p .mv,[.t 0],none,[]⟩,
⟨(some 9),.w .call,[.c (.fn 209 [] []),.t 8],none,[]⟩,
⟨(some 7),.p .mv,[.t 9],none,[]⟩,
⟨(some 10),.p (.ext 0),[.t 7],none,[]⟩,
⟨(some 11),.p (.ext 1),[.t 7],none,[]⟩,
⟨(some 12),.p (.ext 2),[.t 7],none,[]⟩,
⟨(some 3),.p .mv,[.t 10],none,[]⟩,
⟨(some 4),.p .mv,[.t 11],none,[]⟩,
⟨(some 5),.p .mv,[.t 12],none,[]⟩] false []) <|
 .seq (.seq (.region [
⟨(some 13),.p .mv,[.t 5],none,[]⟩,
⟨(some 14),.p .lenS,[.t 13],none,[]⟩,
⟨(some 15),.p .mv,[.c (.int .i64 0)],none,[]⟩] false []) <|
 .block 0 (.loop (.seq (.region [
⟨(some 16),.p (.bin .lss),[.t 15,.t 14],none,[]⟩] false []) <|
 .seq (.cond (.t 16) (.skip) (.exit 0)) <|
 .seq (.block 1 (.seq (.region [
⟨(some 17),.p .mv,[.t 15],none,[]⟩,
⟨(some 6),.p .mv,[.t 17],none,[]⟩] false []) <|
 .seq (.region [
⟨(some 18),.p .mv,[.t 5],none,[]⟩,
⟨(some 19),.p .mv,[.t 6],none,[]⟩,
⟨(some 20),.p .idxS,[.t 18,.t 19],none,[]⟩,
⟨(some 21),.w .call,[.c (.fn 214 [] []),.t 20],none,[]⟩,
⟨(some 22),.p (.un .not),[.t 21],none,[]⟩] false []) <|
 .cond (.t 22) (.seq (.region [
⟨(some 2),.p .mv,[.c (.bool false)],none,[]⟩] false []) <|
 .ret) (.skip))) <|
 .region [
⟨(some 23),.p (.bin .add),[.t 15,.c (.int .i64 1)],none,[]⟩,
⟨(some 15),.p .mv,[.t 23],none,[]⟩] false []))) <|
 .seq (.region [
⟨(some 24),.p .mv,[.t 4],none,[]⟩,
⟨(some 25),.p (.bin .neq),[.t 24,.c (.str [])],none,[]⟩,
⟨(some 2),.p .mv,[.t 25],none,[]⟩] false []) <|
 .ret, [.tmp 2]⟩
structure D242 (T : Tab) : Prop where
  fn : T.fn 242 = some ir242
  pr : T.prim 242 = none
  d209 : D209 T
  d214 : D214 T
/-- motley/num.CompareText -/
def ir244 : AFunc := ⟨.seq (.region [
⟨(some 4),.p .mv,[.c (.int .i64 0)],none,[]⟩] false []) <|
 .seq (.region [
⟨(some 5),.p .mv,[.t 0],none,[]⟩,
⟨(some 6),.p .mv,[.t 1],none,[]⟩,
⟨(some 7),.w .call,[.c (.fn 158 [] []),.t 5,.t 6],none,[]⟩,
⟨(some 4),.p .mv,[.t 7],none,[]⟩] false []) <|
 .ret, [.tmp 4]⟩
structure D244 (T : Tab) : Prop where
  fn : T.fn 244 = some ir244
  pr : T.prim 244 = none
  d158 : D158 T
/-- motley/num.Round -/
def ir246 : AFunc := ⟨.seq (.region [
⟨(some 4),.p .mv,[.c (.int .i64 0)],none,[]⟩,
⟨(some 5),.p .mv,[.c (.int .i64 0)],none,[]⟩] false []) <|
 .seq (.seq (.region [
⟨(some 11),.p .mv,[.t 0],none,[]⟩,
⟨(some 12),.w .call,[.c (.fn 185 [] []),.t 11],none,[]⟩,
⟨(some 13),.p (.un .not),[.t 12],none,[]⟩,
⟨(some 14),.p .mv,[.t 13],none,[]⟩,
⟨(some 15),.p .mv,[.t 1],(some (14,false)),[]⟩,
⟨(some 16),.p (.bin .lss),[.t 15,.c (.int .i64 1)],(some (14,false)),[]⟩,
⟨(some 17),.p .pick,[.t 14,.c (.bool true),.t 16],none,[]⟩,
⟨(some 18),.p .mv,[.t 17],none,[]⟩,
⟨(some 19),.p .mv,[.t 1],(some (18,false)),[]⟩,
⟨(some 20),.p (.bin .gtr),[.t 19,.c (.int .i64 9007199254740992)],(some (18,false)),[]⟩,
⟨(some 21),.p .pick,[.t 18,.c (.bool true),.t 20],none,[]⟩] false []) <|
 .cond (.t 21) (.seq (.region [
⟨(some 4),.p .mv,[.c (.int .i64 0)],none,[]⟩,
⟨(some 5),.p .mv,[.c (.int .i64 1)],none,[]⟩] false []) <|
 .ret) (.skip)) <|
 .seq (.region [
⟨(some 6),.p .mv,[.c (.int .i64 1)],none,[]⟩] false []) <|
 .seq (.seq (.region [
⟨(some 22),.p .mv,[.t 0],none,[]⟩,
⟨(some 23),.p (.bin .lss),[.t 22,.c (.int .i64 0)],none,[]⟩] false []) <|
 .cond (.t 23) (.region [
⟨(some 24),.p .mv,[.t 0],none,[]⟩,
⟨(some 25),.p (.un .neg),[.t 24],none,[]⟩,
⟨(some 6),.p .mv,[.c (.int .i64 (-1))],none,[]⟩,
⟨(some 0),.p .mv,[.t 25],none,[]⟩] false []) (.skip)) <|
 .seq (.region [
⟨(some 26),.p .mv,[.t 0],none,[]⟩,
⟨(some 27),.p .mv,[.t 1],none,[]⟩,
⟨(some 28),.p (.bin .quo),[.t 26,.t 27],none,[]⟩,
⟨(some 29),.p .mv,[.t 0],none,[]⟩,
⟨(some 30),.p .mv,[.t 1],none,[]⟩,
⟨(some 31),.p (.bin .rem),[.t 29,.t 30],none,[]⟩,
⟨(some 7),.p .mv,[.t 28],none,[]⟩,
⟨(some 8),.p .mv,[.t 31],none,[]⟩] true []) <|
 .seq (.seq (.region [
⟨(some 32),.p .mv,[.t 8],none,[]⟩,
⟨(some 33),.p .mv,[.t 1],none,[]⟩,
⟨(some 34),.p .mv,[.t 8],none,[]⟩,
⟨(some 35),.p (.bin .sub),[.t 33,.t 34],none,[]⟩,
⟨(some 36),.p (.bin .geq),[.t 32,.t 35],none,[]⟩] false []) <|
 .cond (.t 36) (.region [
⟨(some 37),.p .mv,[.t 7],none,[]⟩,
⟨(some 38),.p (.bin .add),[.t 37,.c (.int .i64 1)],none,[]⟩,
⟨(some 7),.p .mv,[.t 38],none,[]⟩] false []) (.skip)) <|
 .seq (.region [
⟨(some 40),.p .mv,[.t 7],none,[]⟩,
⟨(some 41),.p .mv,[.t 1],none,[]⟩,
⟨(some 42),.w .call,[.c (.fn 198 [] []),.t 40,.t 41],none,[]⟩,
⟨(some 39),.p .mv,[.t 42],none,[]⟩,
⟨(some 43),.p (.ext 0),[.t 39],none,[]⟩,
⟨(some 44),.p (.ext 1),[.t 39],none,[]⟩,
⟨(some 9),.p .mv,[.t 43],none,[]⟩,
⟨(some 10),.p .mv,[.t 44],none,[]⟩] false []) <|
 .seq (.seq (.region [
⟨(some 45),.p .mv,[.t 10],none,[]⟩,
⟨(some 46),.p (.bin .neq),[.t 45,.c (.int .i64 0)],none,[]⟩] false []) <|
 .cond (.t 46) (.seq (.region [
⟨(some 4),.p .mv,[.c (.int .i64 0)],none,[]⟩,
⟨(some 5),.p .mv,[.c (.int .i64 3)],none,[]⟩] false []) <|
 .ret) (.skip)) <|
 .seq (.region [
⟨(some 47),.p .mv,[.t 6],none,[]⟩,
⟨(some 48),.p .mv,[.t 9],none,[]⟩,
⟨(some 49),.p (.bin .mul),[.t 47,.t 48],none,[]⟩,
⟨(some 4),.p .mv,[.t 49],none,[]⟩,
⟨(some 5),.p .mv,[.c (.int .i64 0)],none,[]⟩] false []) <|
 .ret, [.tmp 4,.tmp 5]⟩
structure D246 (T : Tab) : Prop where
  fn : T.fn 246 = some ir246
  pr : T.prim 246 = none
  d185 : D185 T
  d198 : D198 T
/-- motley/num.digitOf -/
def ir253 : AFunc := ⟨.seq (.region [
⟨(some 2),.p .mv,[.c (.int .i64 0)],none,[]⟩] false []) <|
 .seq (.block 0 (.seq (.region [
⟨(some 4),.p .mv,[.t 0],none,[]⟩,
⟨(some 5),.w .call,[.c (.fn 215 [] []),.t 4],none,[]⟩,
⟨(some 3),.p .mv,[.t 5],none,[]⟩] false []) <|
 .cond (.t 3) (.seq (.region [
⟨(some 6),.p .mv,[.t 0],none,[]⟩,
⟨(some 7),.p (.bin .sub),[.t 6,.c (.int .u8 48)],none,[]⟩,
⟨(some 8),.p (.conv .i64),[.t 7],none,[]⟩,
⟨(some 2),.p .mv,[.t 8],none,[]⟩] false []) <|
 .ret) (.seq (.region [
⟨(some 10),.p .mv,[.t 0],none,[]⟩,
⟨(some 11),.p (.bin .geq),[.t 10,.c (.int .u8 97)],none,[]⟩,
⟨(some 12),.p .mv,[.t 11],none,[]⟩,
⟨(some 13),.p .mv,[.t 0],(some (12,true)),[]⟩,
⟨(some 14),.p (.bin .leq),[.t 13,.c (.int .u8 102)],(some (12,true)),[]⟩,
⟨(some 15),.p .pick,[.t 12,.t 14,.c (.bool false)],none,[]⟩,
⟨(some 9),.p .mv,[.t 15],none,[]⟩] false []) <|
 .cond (.t 9) (.seq (.region [
⟨(some 16),.p .mv,[.t 0],none,[]⟩,
⟨(some 17),.p (.bin .sub),[.t 16,.c (.int .u8 97)],none,[]⟩,
⟨(some 18),.p (.conv .i64),[.t 17],none,[]⟩,
⟨(some 19),.p (.bin .add),[.t 18,.c (.int .i64 10)],none,[]⟩,
⟨(some 2),.p .mv,[.t 19],none,[]⟩] false []) <|
 .ret) (.seq (.region [
⟨(some 21),.p .mv,[.t 0],none,[]⟩,
⟨(some 22),.p (.bin .geq),[.t 21,.c (.int .u8 65)],none,[]⟩,
⟨(some 23),.p .mv,[.t 22],none,[]⟩,
⟨(some 24),.p .mv,[.t 0],(some (23,true)),[]⟩,
⟨(some 25),.p (.bin .leq),[.t 24,.c (.int .u8 70)],(some (23,true)),[]⟩,
⟨(some 26),.p .pick,[.t 23,.t 25,.c (.bool false)],none,[]⟩,
⟨(some 20),.p .mv,[.t 26],none,[]⟩] false []) <|
 .cond (.t 20) (.seq (.region [
⟨(some 27),.p .mv,[.t 0],none,[]⟩,
⟨(some 28),.p (.bin .sub),[.t 27,.c (.int .u8 65)],none,[]⟩,
⟨(some 29),.p (.conv .i64),[.t 28],none,[]⟩,
⟨(some 30),.p (.bin .add),[.t 29,.c (.int .i64 10)],none,[]⟩,
⟨(some 2),.p .mv,[.t 30],none,[]⟩] false []) <|
 .ret) (.skip))))) <|
 .seq (.region [
⟨(some 2),.p .mv,[.c (.int .i64 99)],none,[]⟩] false []) <|
 .ret, [.tmp 2]⟩
structure D253 (T : Tab) : Prop where
  fn : T.fn 253 = some ir253
  pr : T.prim 253 = none
  d215 : D215 T
/-- motley/num.Radix -/
def ir248 : AFunc := ⟨.seq (.region [
⟨(some 2),.p .mv,[.c (.int .i64 0)],none,[]⟩,
⟨(some 3),.p .mv,[.c (.bool false)],none,[]⟩] false []) <|
 .seq (.region [
⟨(some 4),.p .mv,[.c (.int .i64 10)],none,[]⟩] false []) <|
 .seq (.block 0 (.seq (.region [
⟨(some 11),.p .mv,[.t 0],none,[]⟩,
⟨(some 12),.w .call,[.c (.fn 252 [] []),.t 11,.c (.str [48,120])],none,[]⟩,
⟨(some 10),.p .mv,[.t 12],none,[]⟩] false []) <|
 .cond (.t 10) (.region [
⟨(some 13),.p .mv,[.t 0],none,[]⟩,
⟨(some 14),.p (.slS true false),[.t 13,.c (.int .i64 2)],none,[]⟩,
⟨(some 4),.p .mv,[.c (.int .i64 16)],none,[]⟩,
⟨(some 0),.p .mv,[.t 14],none,[]⟩] true []) (.seq (.region [
⟨(some 16),.p .mv,[.t 0],none,[]⟩,
⟨(some 17),.w .call,[.c (.fn 252 [] []),.t 16,.c (.str [48,98])],none,[]⟩,
⟨(some 15),.p .mv,[.t 17],none,[]⟩] false []) <|
 .cond (.t 15) (.region [
⟨(some 18),.p .mv,[.t 0],none,[]⟩,
⟨(some 19),.p (.slS true false),[.t 18,.c (.int .i64 2)],none,[]⟩,
⟨(some 4),.p .mv,[.c (.int .i64 2)],none,[]⟩,
⟨(some 0),.p .mv,[.t 19],none,[]⟩] true []) (.seq (.region [
⟨(some 21),.p .mv,[.t 0],none,[]⟩,
⟨(some 22),.w .call,[.c (.fn 252 [] []),.t 21,.c (.str [48])],none,[]⟩,
⟨(some 20),.p .mv,[.t 22],none,[]⟩] false []) <|
 .cond (.t 20) (.region [
⟨(some 4),.p .mv,[.c (.int .i64 8)],none,[]⟩] false []) (.skip))))) <|
 .seq (.region [
⟨(some 5),.p .mv,[.c (.int .i64 0)],none,[]⟩,
⟨(some 6),.p .mv,[.c (.int .u8 95)],none,[]⟩] false []) <|
 .seq (.seq (.region [
⟨(some 23),.p .mv,[.t 0],none,[]⟩,
⟨(some 24),.p .lenS,[.t 23],none,[]⟩,
⟨(some 25),.p .mv,[.c (.int .i64 0)],none,[]⟩] false []) <|
 .block 1 (.loop (.seq (.region [
⟨(some 26),.p (.bin .lss),[.t 25,.t 24],none,[]⟩] false []) <|
 .seq (.cond (.t 26) (.skip) (.exit 1)) <|
 .seq (.block 2 (.seq (.region [
⟨(some 27),.p .mv,[.t 25],none,[]⟩,
⟨(some 7),.p .mv,[.t 27],none,[]⟩] false []) <|
 .seq (.region [
⟨(some 28),.p .mv,[.t 0],none,[]⟩,
⟨(some 29),.p .mv,[.t 7],none,[]⟩,
⟨(some 30),.p .idxS,[.t 28,.t 29],none,[]⟩,
⟨(some 8),.p .mv,[.t 30],none,[]⟩] false []) <|
 .seq (.seq (.region [
⟨(some 31),.p .mv,[.t 8],none,[]⟩,
⟨(some 32),.p (.bin .eql),[.t 31,.c (.int .u8 95)],none,[]⟩] false []) <|
 .cond (.t 32) (.seq (.seq (.region [
⟨(some 33),.p .mv,[.t 6],none,[]⟩,
⟨(some 34),.p (.bin .eql),[.t 33,.c (.int .u8 95)],none,[]⟩] false []) <|
 .cond (.t 34) (.seq (.region [
⟨(some 2),.p .mv,[.c (.int .i64 0)],none,[]⟩,
⟨(some 3),.p .mv,[.c (.bool false)],none,[]⟩] false []) <|
 .ret) (.skip)) <|
 .seq (.region [
⟨(some 35),.p .mv,[.t 8],none,[]⟩,
⟨(some 6),.p .mv,[.t 35],none,[]⟩] false []) <|
 .exit 2) (.skip)) <|
 .seq (.region [
⟨(some 36),.p .mv,[.t 8],none,[]⟩,
⟨(some 37),.w .call,[.c (.fn 253 [] []),.t 36],none,[]⟩,
⟨(some 9),.p .mv,[.t 37],none,[]⟩] false []) <|
 .seq (.seq (.region [
⟨(some 38),.p .mv,[.t 9],none,[]⟩,
⟨(some 39),.p .mv,[.t 4],none,[]⟩,
⟨(some 40),.p (.bin .geq),[.t 38,.t 39],none,[]⟩] false []) <|
 .cond (.t 40) (.seq (.region [
⟨(some 2),.p .mv,[.c (.int .i64 0)],none,[]⟩,
⟨(some 3),.p .mv,[.c (.bool false)],none,[]⟩] false []) <|
 .ret) (.skip)) <|
 .seq (.region [
⟨(some 41),.p .mv,[.t 5],none,[]⟩,
⟨(some 42),.p .mv,[.t 4],none,[]⟩,
⟨(some 43),.p (.bin .mul),[.t 41,.t 42],none,[]⟩,
⟨(some 44),.p .mv,[.t 9],none,[]⟩,
⟨(some 45),.p (.bin .add),[.t 43,.t 44],none,[]⟩,
⟨(some 46),.p .min,[.t 45,.c (.int .i64 9007199254740993)],none,[]⟩,
⟨(some 5),.p .mv,[.t 46],none,[]⟩] false []) <|
 .region [
⟨(some 47),.p .mv,[.t 8],none,[]⟩,
⟨(some 6),.p .mv,[.t 47],none,[]⟩] false [])) <|
 .region [
⟨(some 48),.p (.bin .add),[.t 25,.c (.int .i64 1)],none,[]⟩,
⟨(some 25),.p .mv,[.t 48],none,[]⟩] false []))) <|
 .seq (.seq (.region [
⟨(some 49),.p .mv,[.t 6],none,[]⟩,
⟨(some 50),.p (.bin .eql),[.t 49,.c (.int .u8 95)],none,[]⟩,
⟨(some 51),.p .mv,[.t 50],none,[]⟩,
⟨(some 52),.p .mv,[.t 5],(some (51,false)),[]⟩,
⟨(some 53),.p (.bin .gtr),[.t 52,.c (.int .i64 9007199254740992)],(some (51,false)),[]⟩,
⟨(some 54),.p .pick,[.t 51,.c (.bool true),.t 53],none,[]⟩] false []) <|
 .cond (.t 54) (.seq (.region [
⟨(some 2),.p .mv,[.c (.int .i64 0)],none,[]⟩,
⟨(some 3),.p .mv,[.c (.bool false)],none,[]⟩] false []) <|
 .ret) (.skip)) <|
 .seq (.region [
⟨(some 55),.p .mv,[.t 5],none,[]⟩,
⟨(some 2),.p .mv,[.t 55],none,[]⟩,
⟨(some 3),.p .mv,[.c (.bool true)],none,[]⟩] false []) <|
 .ret, [.tmp 2,.tmp 3]⟩
structure D248 (T : Tab) : Prop where
  fn : T.fn 248 = some ir248
  pr : T.prim 248 = none
  d252 : D252 T
  d253 : D253 T
/-- motley/num.Repeat -/
def ir250 : AFunc := ⟨.seq (.region [
⟨(some 4),.p .mv,[.c (.str [])],none,[]⟩,
⟨(some 5),.p .mv,[.c (.int .i64 0)],none,[]⟩] false []) <|
 .seq (.block 0 (.seq (.region [
⟨(some 7),.p .mv,[.t 0],none,[]⟩,
⟨(some 8),.p .lenS,[.t 7],none,[]⟩,
⟨(some 9),.p (.bin .gtr),[.t 8,.c (.int .i64 4096)],none,[]⟩,
⟨(some 6),.p .mv,[.t 9],none,[]⟩] false []) <|
 .cond (.t 6) (.seq (.region [
⟨(some 4),.p .mv,[.c (.str [])],none,[]⟩,
⟨(some 5),.p .mv,[.c (.int .i64 3)],none,[]⟩] false []) <|
 .ret) (.seq (.region [
⟨(some 11),.p .mv,[.t 1],none,[]⟩,
⟨(some 12),.p (.bin .lss),[.t 11,.c (.int .i64 1)],none,[]⟩,
⟨(some 13),.p .mv,[.t 12],none,[]⟩,
⟨(some 14),.p .mv,[.t 0],(some (13,false)),[]⟩,
⟨(some 15),.p (.bin .eql),[.t 14,.c (.str [])],(some (13,false)),[]⟩,
⟨(some 16),.p .pick,[.t 13,.c (.bool true),.t 15],none,[]⟩,
⟨(some 10),.p .mv,[.t 16],none,[]⟩] false []) <|
 .cond (.t 10) (.seq (.region [
⟨(some 4),.p .mv,[.c (.str [])],none,[]⟩,
⟨(some 5),.p .mv,[.c (.int .i64 0)],none,[]⟩] false []) <|
 .ret) (.seq (.region [
⟨(some 18),.p .mv,[.t 1],none,[]⟩,
⟨(some 19),.p .mv,[.t 0],none,[]⟩,
⟨(some 20),.p .lenS,[.t 19],none,[]⟩,
⟨(some 21),.p (.bin .quo),[.c (.int .i64 4096),.t 20],none,[]⟩,
⟨(some 22),.p (.bin .gtr),[.t 18,.t 21],none,[]⟩,
⟨(some 17),.p .mv,[.t 22],none,[]⟩] false []) <|
 .cond (.t 17) (.seq (.region [
⟨(some 4),.p .mv,[.c (.str [])],none,[]⟩,
⟨(some 5),.p .mv,[.c (.int .i64 3)],none,[]⟩] false []) <|
 .ret) (.skip))))) <|
 .seq (.region [
⟨(some 23),.p .mv,[.t 0],none,[]⟩,
⟨(some 24),.p .mv,[.t 1],none,[]⟩,
⟨(some 25),.w .call,[.c (.fn 254 [] []),.t 23,.t 24],none,[]⟩,
⟨(some 4),.p .mv,[.t 25],none,[]⟩,
⟨(some 5),.p .mv,[.c (.int .i64 0)],none,[]⟩] false []) <|
 .ret, [.tmp 4,.tmp 5]⟩
structure D250 (T : Tab) : Prop where
  fn : T.fn 250 = some ir250
  pr : T.prim 250 = none
  p254 : T.prim 254 = some repPrim
/-- motley/num.TextOf -/
def ir273 : AFunc := ⟨.seq (.region [
⟨(some 1),.w .box,[.t 0],none,[]⟩,
⟨(some 2),.p .mv,[.c (.str [])],none,[]⟩,
⟨(some 3),.p .mv,[.c (.int .i64 0)],none,[]⟩] false []) <|
 .seq (.seq (.region [
⟨(some 5),.r (.ld 4 true),[.t 1],none,[]⟩,
⟨(some 6),.w .call,[.c (.fn 188 [] []),.t 5],none,[]⟩,
⟨(some 4),.p .mv,[.t 6],none,[]⟩] false []) <|
 .seq (.region [
⟨(some 7),.p .mv,[.t 4],none,[]⟩,
⟨(some 8),.p (.bin .neq),[.t 7,.c (.int .i64 0)],none,[]⟩] false []) <|
 .cond (.t 8) (.seq (.region [
⟨(some 9),.p .mv,[.t 4],none,[]⟩,
⟨(some 2),.p .mv,[.c (.str [])],none,[]⟩,
⟨(some 3),.p .mv,[.t 9],none,[]⟩] false []) <|
 .ret) (.skip)) <|
 .seq (.seq (.region [
⟨(some 10),.p (.fa 0),[.t 1],none,[]⟩,
⟨(some 11),.r (.ld 1 false),[.t 10],none,[]⟩,
⟨(some 12),.p (.bin .eql),[.t 11,.c (.int .i64 1)],none,[]⟩] false []) <|
 .cond (.t 12) (.seq (.region [
⟨(some 13),.p (.fa 1),[.t 1],none,[]⟩,
⟨(some 14),.r (.ld 1 false),[.t 13],none,[]⟩,
⟨(some 15),.w .call,[.c (.fn 283 [] []),.t 14],none,[]⟩,
⟨(some 2),.p .mv,[.t 15],none,[]⟩,
⟨(some 3),.p .mv,[.c (.int .i64 0)],none,[]⟩] false []) <|
 .ret) (.skip)) <|
 .seq (.region [
⟨(some 16),.p (.fa 2),[.t 1],none,[]⟩,
⟨(some 17),.r (.ld 1 false),[.t 16],none,[]⟩,
⟨(some 2),.p .mv,[.t 17],none,[]⟩,
⟨(some 3),.p .mv,[.c (.int .i64 0)],none,[]⟩] false []) <|
 .ret, [.tmp 2,.tmp 3]⟩
structure D273 (T : Tab) : Prop where
  fn : T.fn 273 = some ir273
  pr : T.prim 273 = none
  d188 : D188 T
  p283 : T.prim 283 = some itoaPrim
/-- motley/num.Truth -/
def ir274 : AFunc := ⟨.seq (.region [
⟨(some 1),.w .box,[.t 0],none,[]⟩,
⟨(some 2),.p .mv,[.c (.bool false)],none,[]⟩,
⟨(some 3),.p .mv,[.c (.int .i64 0)],none,[]⟩] false []) <|
 .seq (.region [
⟨(some 7),.r (.ld 4 true),[.t 1],none,[]⟩,
⟨(some 8),.w .call,[.c (.fn 273 [] []),.t 7],none,[]⟩,
⟨(some 6),.p .mv,[.t 8],none,[]⟩,
⟨(some 9),.p (.ext 0),[.t 6],none,[]⟩,
⟨(some 10),.p (.ext 1),[.t 6],none,[]⟩,
⟨(some 4),.p .mv,[.t 9],none,[]⟩,
⟨(some 5),.p .mv,[.t 10],none,[]⟩] false []) <|
 .seq (.region [
⟨(some 11),.p .mv,[.t 5],none,[]⟩,
⟨(some 12),.p (.bin .eql),[.t 11,.c (.int .i64 0)],none,[]⟩,
⟨(some 13),.p .mv,[.t 12],none,[]⟩,
⟨(some 14),.p .mv,[.t 4],(some (13,true)),[]⟩,
⟨(some 15),.p (.bin .neq),[.t 14,.c (.str [])],(some (13,true)),[]⟩,
⟨(some 16),.p .pick,[.t 13,.t 15,.c (.bool false)],none,[]⟩,
⟨(some 17),.p .mv,[.t 16],none,[]⟩,
⟨(some 18),.p .mv,[.t 4],(some (17,true)),[]⟩,
⟨(some 19),.p (.bin .neq),[.t 18,.c (.str [48])],(some (17,true)),[]⟩,
⟨(some 20),.p .pick,[.t 17,.t 19,.c (.bool false)],none,[]⟩,
⟨(some 21),.p .mv,[.t 5],none,[]⟩,
⟨(some 2),.p .mv,[.t 20],none,[]⟩,
⟨(some 3),.p .mv,[.t 21],none,[]⟩] false []) <|
 .ret, [.tmp 2,.tmp 3]⟩
structure D274 (T : Tab) : Prop where
  fn : T.fn 274 = some ir274
  pr : T.prim 274 = none
  d273 : D273 T
/-- motley/num.isSmall -/
def ir292 : AFunc := ⟨.seq (.region [
⟨(some 2),.p .mv,[.c (.bool false)],none,[]⟩] false []) <|
 .seq (.region [
⟨(some 3),.p .mv,[.t 0],none,[]⟩,
⟨(some 4),.p (.bin .geq),[.t 3,.c (.int .u8 97)],none,[]⟩,
⟨(some 5),.p .mv,[.t 4],none,[]⟩,
⟨(some 6),.p .mv,[.t 0],(some (5,true)),[]⟩,
⟨(some 7),.p (.bin .leq),[.t 6,.c (.int .u8 122)],(some (5,true)),[]⟩,
⟨(some 8),.p .pick,[.t 5,.t 7,.c (.bool false)],none,[]⟩,
⟨(some 2),.p .mv,[.t 8],none,[]⟩] false []) <|
 .ret, [.tmp 2]⟩
structure D292 (T : Tab) : Prop where
  fn : T.fn 292 = some ir292
  pr : T.prim 292 = none
/-- motley/num.isCapital -/
def ir293 : AFunc := ⟨.seq (.region [
⟨(some 2),.p .mv,[.c (.bool false)],none,[]⟩] false []) <|
 .seq (.region [
⟨(some 3),.p .mv,[.t 0],none,[]⟩,
⟨(some 4),.p (.bin .geq),[.t 3,.c (.int .u8 65)],none,[]⟩,
⟨(some 5),.p .mv,[.t 4],none,[]⟩,
⟨(some 6),.p .mv,[.t 0],(some (5,true)),[]⟩,
⟨(some 7),.p (.bin .leq),[.t 6,.c (.int .u8 90)],(some (5,true)),[]⟩,
⟨(some 8),.p .pick,[.t 5,.t 7,.c (.bool false)],none,[]⟩,
⟨(some 2),.p .mv,[.t 8],none,[]⟩] false []) <|
 .ret, [.tmp 2]⟩
structure D293 (T : Tab) : Prop where
  fn : T.fn 293 = some ir293
  pr : T.prim 293 = none
/-- motley/num.steps -/
def ir286 : AFunc := ⟨.seq (.region [
⟨(some 2),.p .mv,[.c (.bool false)],none,[]⟩] false []) <|
 .seq (.region [
⟨(some 3),.p .mv,[.c (.int .i64 0)],none,[]⟩] false []) <|
 .seq (.block 0 (.loop (.seq (.seq (.region [
⟨(some 4),.p .mv,[.t 3],none,[]⟩,
⟨(some 5),.p .mv,[.t 0],none,[]⟩,
⟨(some 6),.p .lenS,[.t 5],none,[]⟩,
⟨(some 7),.p (.bin .lss),[.t 4,.t 6],none,[]⟩,
⟨(some 8),.p .mv,[.t 7],none,[]⟩,
⟨(some 9),.p .mv,[.t 0],(some (8,true)),[]⟩,
⟨(some 10),.p .mv,[.t 3],(some (8,true)),[]⟩,
⟨(some 11),.p .idxS,[.t 9,.t 10],(some (8,true)),[]⟩,
⟨(some 12),.w .call,[.c (.fn 292 [] []),.t 11],(some (8,true)),[]⟩,
⟨(some 13),.p .mv,[.t 12],(some (8,true)),[]⟩,
⟨(some 14),.p .mv,[.t 0],(some (13,false)),[]⟩,
⟨(some 15),.p .mv,[.t 3],(some (13,false)),[]⟩,
⟨(some 16),.p .idxS,[.t 14,.t 15],(some (13,false)),[]⟩,
⟨(some 17),.w .call,[.c (.fn 293 [] []),.t 16],(some (13,false)),[]⟩,
⟨(some 18),.p .pick,[.t 13,.c (.bool true),.t 17],(some (8,true)),[]⟩,
⟨(some 19),.p .pick,[.t 8,.t 18,.c (.bool false)],none,[]⟩] false []) <|
 .cond (.t 19) (.skip) (.exit 0)) <|
 .block 1 (.region [
⟨(some 20),.p .mv,[.t 3],none,[]⟩,
⟨(some 21),.p (.bin .add),[.t 20,.c (.int .i64 1)],none,[]⟩,
⟨(some 3),.p .mv,[.t 21],none,[]⟩] false [])))) <|
 .seq (.block 2 (.loop (.seq (.seq (.region [
⟨(some 22),.p .mv,[.t 3],none,[]⟩,
⟨(some 23),.p .mv,[.t 0],none,[]⟩,
⟨(some 24),.p .lenS,[.t 23],none,[]⟩,
⟨(some 25),.p (.bin .lss),[.t 22,.t 24],none,[]⟩,
⟨(some 26),.p .mv,[.t 25],none,[]⟩,
⟨(some 27),.p .mv,[.t 0],(some (26,true)),[]⟩,
⟨(some 28),.p .mv,[.t 3],(some (26,true)),[]⟩,
⟨(some 29),.p .idxS,[.t 27,.t 28],(some (26,true)),[]⟩,
⟨(some 30),.w .call,[.c (.fn 215 [] []),.t 29],(some (26,true)),[]⟩,
⟨(some 31),.p .pick,[.t 26,.t 30,.c (.bool false)],none,[]⟩] false []) <|
 .cond (.t 31) (.skip) (.exit 2)) <|
 .block 3 (.region [
⟨(some 32),.p .mv,[.t 3],none,[]⟩,
⟨(some 33),.p (.bin .add),[.t 32,.c (.int .i64 1)],none,[]⟩,
⟨(some 3),.p .mv,[.t 33],none,[]⟩] false [])))) <|
 .seq (.region [
⟨(some 34),.p .mv,[.t 0],none,[]⟩,
⟨(some 35),.p (.bin .neq),[.t 34,.c (.str [])],none,[]⟩,
⟨(some 36),.p .mv,[.t 35],none,[]⟩,
⟨(some 37),.p .mv,[.t 3],(some (36,true)),[]⟩,
⟨(some 38),.p .mv,[.t 0],(some (36,true)),[]⟩,
⟨(some 39),.p .lenS,[.t 38],(some (36,true)),[]⟩,
⟨(some 40),.p (.bin .eql),[.t 37,.t 39],(some (36,true)),[]⟩,
⟨(some 41),.p .pick,[.t 36,.t 40,.c (.bool false)],none,[]⟩,
⟨(some 2),.p .mv,[.t 41],none,[]⟩] false []) <|
 .ret, [.tmp 2]⟩
structure D286 (T : Tab) : Prop where
  fn : T.fn 286 = some ir286
  pr : T.prim 286 = none
  d292 : D292 T
  d293 : D293 T
  d215 : D215 T
/-- motley/num.further -/
def ir287 : AFunc := ⟨.seq (.region [
⟨(some 2),.p .mv,[.c (.str [])],none,[]⟩] false []) <|
 .seq (.region [
⟨(some 6),.p .mv,[.t 0],none,[]⟩,
⟨(some 7),.w .s2b,[.t 6],none,[]⟩,
⟨(some 3),.p .mv,[.t 7],none,[]⟩] false []) <|
 .seq (.seq (.region [
⟨(some 8),.p .mv,[.t 3],none,[]⟩,
⟨(some 9),.p .len,[.t 8],none,[]⟩,
⟨(some 10),.p (.bin .sub),[.t 9,.c (.int .i64 1)],none,[]⟩,
⟨(some 4),.p .mv,[.t 10],none,[]⟩] false []) <|
 .block 0 (.loop (.seq (.seq (.region [
⟨(some 11),.p .mv,[.t 4],none,[]⟩,
⟨(some 12),.p (.bin .geq),[.t 11,.c (.int .i64 0)],none,[]⟩] false []) <|
 .cond (.t 12) (.skip) (.exit 0)) <|
 .seq (.block 1 (.seq (.region [
⟨(some 15),.p .mv,[.t 3],none,[]⟩,
⟨(some 16),.p .mv,[.t 4],none,[]⟩,
⟨(some 17),.p (.ia 1),[.t 15,.t 16],none,[]⟩,
⟨(some 18),.r (.ld 1 false),[.t 17],none,[]⟩] false []) <|
 .block 2 (.seq (.region [
⟨(some 28),.p (.bin .eql),[.t 18,.c (.int .u8 122)],none,[]⟩,
⟨(some 27),.p .mv,[.t 28],none,[]⟩] false []) <|
 .cond (.t 27) (.region [
⟨(some 29),.p .mv,[.t 3],none,[]⟩,
⟨(some 30),.p .mv,[.t 4],none,[]⟩,
⟨(some 31),.p (.ia 1),[.t 29,.t 30],none,[]⟩,
⟨none,.w (.st 1),[.t 31,.c (.int .u8 97)],none,[]⟩] false []) (.seq (.region [
⟨(some 33),.p (.bin .eql),[.t 18,.c (.int .u8 90)],none,[]⟩,
⟨(some 32),.p .mv,[.t 33],none,[]⟩] false []) <|
 .cond (.t 32) (.region [
⟨(some 34),.p .mv,[.t 3],none,[]⟩,
⟨(some 35),.p .mv,[.t 4],none,[]⟩,
⟨(some 36),.p (.ia 1),[.t 34,.t 35],none,[]⟩,
⟨none,.w (.st 1),[.t 36,.c (.int .u8 65)],none,[]⟩] false []) (.seq (.region [
⟨(some 38),.p (.bin .eql),[.t 18,.c (.int .u8 57)],none,[]⟩,
⟨(some 37),.p .mv,[.t 38],none,[]⟩] false []) <|
 .cond (.t 37) (.region [
⟨(some 39),.p .mv,[.t 3],none,[]⟩,
⟨(some 40),.p .mv,[.t 4],none,[]⟩,
⟨(some 41),.p (.ia 1),[.t 39,.t 40],none,[]⟩,
⟨none,.w (.st 1),[.t 41,.c (.int .u8 48)],none,[]⟩] false []) (.seq (.region [
⟨(some 19),.p .mv,[.t 3],none,[]⟩,
⟨(some 20),.p .mv,[.t 4],none,[]⟩,
⟨(some 21),.p (.ia 1),[.t 19,.t 20],none,[]⟩,
⟨(some 22),.r (.ld 1 false),[.t 21],none,[]⟩,
⟨(some 23),.p (.bin .add),[.t 22,.c (.int .u8 1)],none,[]⟩,
⟨(some 24),.p (.ia 1),[.t 19,.t 20],none,[]⟩,
⟨none,.w (.st 1),[.t 24,.t 23],none,[]⟩] false []) <|
 .seq (.region [
⟨(some 25),.p .mv,[.t 3],none,[]⟩,
⟨(some 26),.r .b2s,[.t 25],none,[]⟩,
⟨(some 2),.p .mv,[.t 26],none,[]⟩] false []) <|
 .ret)))))) <|
 .region [
⟨(some 13),.p .mv,[.t 4],none,[]⟩,
⟨(some 14),.p (.bin .sub),[.t 13,.c (.int .i64 1)],none,[]⟩,
⟨(some 4),.p .mv,[.t 14],none,[]⟩] false []))) <|
 .seq (.region [
⟨(some 5),.p .mv,[.c (.str [49])],none,[]⟩] false []) <|
 .seq (.block 3 (.seq (.region [
⟨(some 43),.p .mv,[.t 0],none,[]⟩,
⟨(some 44),.p .idxS,[.t 43,.c (.int .i64 0)],none,[]⟩,
⟨(some 45),.w .call,[.c (.fn 292 [] []),.t 44],none,[]⟩,
⟨(some 42),.p .mv,[.t 45],none,[]⟩] false []) <|
 .cond (.t 42) (.region [
⟨(some 5),.p .mv,[.c (.str [97])],none,[]⟩] false []) (.seq (.region [
⟨(some 47),.p .mv,[.t 0],none,[]⟩,
⟨(some 48),.p .idxS,[.t 47,.c (.int .i64 0)],none,[]⟩,
⟨(some 49),.w .call,[.c (.fn 293 [] []),.t 48],none,[]⟩,
⟨(some 46),.p .mv,[.t 49],none,[]⟩] false []) <|
 .cond (.t 46) (.region [
⟨(some 5),.p .mv,[.c (.str [65])],none,[]⟩] false []) (.skip)))) <|
 .seq (.region [
⟨(some 50),.p .mv,[.t 5],none,[]⟩,
⟨(some 51),.p .mv,[.t 3],none,[]⟩,
⟨(some 52),.r .b2s,[.t 51],none,[]⟩,
⟨(some 53),.p (.bin .add),[.t 50,.t 52],none,[]⟩,
⟨(some 2),.p .mv,[.t 53],none,[]⟩] false []) <|
 .ret, [.tmp 2]⟩
structure D287 (T : Tab) : Prop where
  fn : T.fn 287 = some ir287
  pr : T.prim 287 = none
  d292 : D292 T
  d293 : D293 T
/-- motley/num.Next -/
def ir278 : AFunc := ⟨.seq (.region [
⟨(some 2),.p .mv,[.c (.str [])],none,[]⟩,
⟨(some 3),.p .mv,[.c (.int .i64 0)],none,[]⟩] false []) <|
 .seq (.seq (.region [
⟨(some 5),.p .mv,[.t 0],none,[]⟩,
⟨(some 6),.p .lenS,[.t 5],none,[]⟩,
⟨(some 7),.p (.bin .gtr),[.t 6,.c (.int .i64 4096)],none,[]⟩] false []) <|
 .cond (.t 7) (.seq (.region [
⟨(some 2),.p .mv,[.c (.str [])],none,[]⟩,
⟨(some 3),.p .mv,[.c (.int .i64 3)],none,[]⟩] false []) <|
 .ret) (.skip)) <|
 .seq (.seq (.region [
⟨(some 8),.p .mv,[.t 0],none,[]⟩,
⟨(some 9),.w .call,[.c (.fn 286 [] []),.t 8],none,[]⟩,
⟨(some 10),.p (.un .not),[.t 9],none,[]⟩] false []) <|
 .cond (.t 10) (.seq (.region [
⟨(some 11),.p .mv,[.t 0],none,[]⟩,
⟨(some 12),.w .call,[.c (.fn 189 [] []),.t 11],none,[]⟩,
⟨(some 13),.p (.bin .add),[.t 12,.c (.int .i64 1)],none,[]⟩,
⟨(some 14),.p .min,[.t 13,.c (.int .i64 9007199254740992)],none,[]⟩,
⟨(some 15),.w .call,[.c (.fn 283 [] []),.t 14],none,[]⟩,
⟨(some 2),.p .mv,[.t 15],none,[]⟩,
⟨(some 3),.p .mv,[.c (.int .i64 0)],none,[]⟩] false []) <|
 .ret) (.skip)) <|
 .seq (.region [
⟨(some 16),.p .mv,[.t 0],none,[]⟩,
⟨(some 17),.w .call,[.c (.fn 287 [] []),.t 16],none,[]⟩,
⟨(some 4),.p .mv,[.t 17],none,[]⟩] false []) <|
 .seq (.seq (.region [
⟨(some 18),.p .mv,[.t 4],none,[]⟩,
⟨(some 19),.p .lenS,[.t 18],none,[]⟩,
⟨(some 20),.p (.bin .gtr),[.t 19,.c (.int .i64 4096)],none,[]⟩] false []) <|
 .cond (.t 20) (.seq (.region [
⟨(some 2),.p .mv,[.c (.str [])],none,[]⟩,
⟨(some 3),.p .mv,[.c (.int .i64 3)],none,[]⟩] false []) <|
 .ret) (.skip)) <|
 .seq (.region [
⟨(some 21),.p .mv,[.t 4],none,[]⟩,
⟨(some 2),.p .mv,[.t 21],none,[]⟩,
⟨(some 3),.p .mv,[.c (.int .i64 0)],none,[]⟩] false []) <|
 .ret, [.tmp 2,.tmp 3]⟩
structure D278 (T : Tab) : Prop where
  fn : T.fn 278 = some ir278
  pr : T.prim 278 = none
  d286 : D286 T
  d189 : D189 T
  p283 : T.prim 283 = some itoaPrim
  d287 : D287 T
/-- motley/num.Spell -/
def ir280 : AFunc := ⟨.seq (.region [
⟨(some 4),.p .mv,[.c (.str [])],none,[]⟩,
⟨(some 5),.p .mv,[.c (.int .i64 0)],none,[]⟩] false []) <|
 .seq (.region [
⟨(some 10),.w .mkM,[],none,[]⟩,
⟨none,.w (.mset .int),[.t 10,.c (.int .i64 2),.c (.str [48,98])],none,[]⟩,
⟨none,.w (.mset .int),[.t 10,.c (.int .i64 8),.c (.str [48])],none,[]⟩,
⟨none,.w (.mset .int),[.t 10,.c (.int .i64 10),.c (.str [])],none,[]⟩,
⟨none,.w (.mset .int),[.t 10,.c (.int .i64 16),.c (.str [48,120])],none,[]⟩,
⟨(some 11),.p .mv,[.t 10],none,[]⟩,
⟨(some 12),.p .mv,[.t 1],none,[]⟩,
⟨(some 13),.r (.look .int (.str []) true),[.t 11,.t 12],none,[]⟩,
⟨(some 9),.p .mv,[.t 13],none,[]⟩,
⟨(some 14),.p (.ext 0),[.t 9],none,[]⟩,
⟨(some 15),.p (.ext 1),[.t 9],none,[]⟩,
⟨(some 6),.p .mv,[.t 14],none,[]⟩,
⟨(some 7),.p .mv,[.t 15],none,[]⟩] false []) <|
 .seq (.seq (.region [
⟨(some 16),.p .mv,[.t 7],none,[]⟩,
⟨(some 17),.p (.un .not),[.t 16],none,[]⟩,
⟨(some 18),.p .mv,[.t 17],none,[]⟩,
⟨(some 19),.p .mv,[.t 0],(some (18,false)),[]⟩,
⟨(some 20),.w .call,[.c (.fn 185 [] []),.t 19],(some (18,false)),[]⟩,
⟨(some 21),.p (.un .not),[.t 20],(some (18,false)),[]⟩,
⟨(some 22),.p .pick,[.t 18,.c (.bool true),.t 21],none,[]⟩] false []) <|
 .cond (.t 22) (.seq (.region [
⟨(some 4),.p .mv,[.c (.str [])],none,[]⟩,
⟨(some 5),.p .mv,[.c (.int .i64 1)],none,[]⟩] false []) <|
 .ret) (.skip)) <|
 .seq (.region [
⟨(some 8),.p .mv,[.c (.str [])],none,[]⟩] false []) <|
 .seq (.seq (.region [
⟨(some 23),.p .mv,[.t 0],none,[]⟩,
⟨(some 24),.p (.bin .lss),[.t 23,.c (.int .i64 0)],none,[]⟩] false []) <|
 .cond (.t 24) (.region [
⟨(some 25),.p .mv,[.t 0],none,[]⟩,
⟨(some 26),.p (.un .neg),[.t 25],none,[]⟩,
⟨(some 8),.p .mv,[.c (.str [45])],none,[]⟩,
⟨(some 0),.p .mv,[.t 26],none,[]⟩] false []) (.skip)) <|
 .seq (.seq (.region [
⟨(some 27),.p .mv,[.t 0],none,[]⟩,
⟨(some 28),.p (.bin .eql),[.t 27,.c (.int .i64 0)],none,[]⟩,
⟨(some 29),.p .mv,[.t 28],none,[]⟩,
⟨(some 30),.p .mv,[.t 1],(some (29,true)),[]⟩,
⟨(some 31),.p (.bin .eql),[.t 30,.c (.int .i64 8)],(some (29,true)),[]⟩,
⟨(some 32),.p .pick,[.t 29,.t 31,.c (.bool false)],none,[]⟩] false []) <|
 .cond (.t 32) (.seq (.region [
⟨(some 4),.p .mv,[.c (.str [48])],none,[]⟩,
⟨(some 5),.p .mv,[.c (.int .i64 0)],none,[]⟩] false []) <|
 .ret) (.skip)) <|
 .seq (.region [
⟨(some 33),.p .mv,[.t 8],none,[]⟩,
⟨(some 34),.p .mv,[.t 6],none,[]⟩,
⟨(some 35),.p (.bin .add),[.t 33,.t 34],none,[]⟩,
⟨(some 36),.p .mv,[.t 0],none,[]⟩,
⟨(some 37),.p .mv,[.t 1],none,[]⟩,
⟨(some 38),.w .call,[.c (.fn 289 [] []),.t 36,.t 37],none,[]⟩,
⟨(some 39),.p (.bin .add),[.t 35,.t 38],none,[]⟩,
⟨(some 4),.p .mv,[.t 39],none,[]⟩,
⟨(some 5),.p .mv,[.c (.int .i64 0)],none,[]⟩] false []) <|
 .ret, [.tmp 4,.tmp 5]⟩
structure D280 (T : Tab) : Prop where
  fn : T.fn 280 = some ir280
  pr : T.prim 280 = none
  d185 : D185 T
  d289 : D289 T
/-- motley/num.Range -/
def ir282 : AFunc := ⟨.seq (.region [
⟨(some 4),.p .mv,[.c (.slc none 0 0 none)],none,[]⟩,
⟨(some 5),.p .mv,[.c (.int .i64 0)],none,[]⟩] false []) <|
 .seq (.seq (.region [
⟨(some 10),.p .mv,[.t 0],none,[]⟩,
⟨(some 11),.p .lenS,[.t 10],none,[]⟩,
⟨(some 12),.p (.bin .gtr),[.t 11,.c (.int .i64 4096)],none,[]⟩,
⟨(some 13),.p .mv,[.t 12],none,[]⟩,
⟨(some 14),.p .mv,[.t 1],(some (13,false)),[]⟩,
⟨(some 15),.p .lenS,[.t 14],(some (13,false)),[]⟩,
⟨(some 16),.p (.bin .gtr),[.t 15,.c (.int .i64 4096)],(some (13,false)),[]⟩,
⟨(some 17),.p .pick,[.t 13,.c (.bool true),.t 16],none,[]⟩] false []) <|
 .cond (.t 17) (.seq (.region [
⟨(some 4),.p .mv,[.c (.slc none 0 0 none)],none,[]⟩,
⟨(some 5),.p .mv,[.c (.int .i64 3)],none,[]⟩] false []) <|
 .ret) (.skip)) <|
 .seq (.region [
⟨(some 6),.p .mv,[.c (.slc none 0 0 none)],none,[]⟩] false []) <|
 .seq (.seq (.region [
⟨(some 18),.p .mv,[.t 0],none,[]⟩,
⟨(some 7),.p .mv,[.t 18],none,[]⟩] false []) <|
 .block 0 (.loop (.seq (.seq (.region [
⟨(some 19),.p .mv,[.t 7],none,[]⟩,
⟨(some 20),.p .lenS,[.t 19],none,[]⟩,
⟨(some 21),.p .mv,[.t 1],none,[]⟩,
⟨(some 22),.p .lenS,[.t 21],none,[]⟩,
⟨(some 23),.p (.bin .leq),[.t 20,.t 22],none,[]⟩] false []) <|
 .cond (.t 23) (.skip) (.exit 0)) <|
 .block 1 (.seq (.seq (.region [
⟨(some 24),.p .mv,[.t 6],none,[]⟩,
⟨(some 25),.p .len,[.t 24],none,[]⟩,
⟨(some 26),.p (.bin .eql),[.t 25,.c (.int .i64 200)],none,[]⟩] false []) <|
 .cond (.t 26) (.seq (.region [
⟨(some 4),.p .mv,[.c (.slc none 0 0 none)],none,[]⟩,
⟨(some 5),.p .mv,[.c (.int .i64 3)],none,[]⟩] false []) <|
 .ret) (.skip)) <|
 .seq (.region [
⟨(some 27),.p .mv,[.t 6],none,[]⟩,
⟨(some 28),.p .mv,[.t 7],none,[]⟩,
⟨(some 29),.w (.bsl 1 1 [(.str [])] [(0,1)]),[.t 28],none,[]⟩,
⟨(some 30),.w (.app 1 16),[.t 27,.t 29],none,[]⟩,
⟨(some 6),.p .mv,[.t 30],none,[]⟩] false []) <|
 .seq (.region [
⟨(some 32),.p .mv,[.t 7],none,[]⟩,
⟨(some 33),.w .call,[.c (.fn 278 [] []),.t 32],none,[]⟩,
⟨(some 31),.p .mv,[.t 33],none,[]⟩,
⟨(some 34),.p (.ext 0),[.t 31],none,[]⟩,
⟨(some 35),.p (.ext 1),[.t 31],none,[]⟩,
⟨(some 8),.p .mv,[.t 34],none,[]⟩,
⟨(some 9),.p .mv,[.t 35],none,[]⟩] false []) <|
 .seq (.seq (.region [
⟨(some 36),.p .mv,[.t 7],none,[]⟩,
⟨(some 37),.p .mv,[.t 1],none,[]⟩,
⟨(some 38),.p (.bin .eql),[.t 36,.t 37],none,[]⟩,
⟨(some 39),.p .mv,[.t 38],none,[]⟩,
⟨(some 40),.p .mv,[.t 9],(some (39,false)),[]⟩,
⟨(some 41),.p (.bin .neq),[.t 40,.c (.int .i64 0)],(some (39,false)),[]⟩,
⟨(some 42),.p .pick,[.t 39,.c (.bool true),.t 41],none,[]⟩] false []) <|
 .cond (.t 42) (.exit 0) (.skip)) <|
 .region [
⟨(some 43),.p .mv,[.t 8],none,[]⟩,
⟨(some 7),.p .mv,[.t 43],none,[]⟩] false [])))) <|
 .seq (.region [
⟨(some 44),.p .mv,[.t 6],none,[]⟩,
⟨(some 4),.p .mv,[.t 44],none,[]⟩,
⟨(some 5),.p .mv,[.c (.int .i64 0)],none,[]⟩] false []) <|
 .ret, [.tmp 4,.tmp 5]⟩
structure D282 (T : Tab) : Prop where
  fn : T.fn 282 = some ir282
  pr : T.prim 282 = none
  d278 : D278 T
end Go.Am
