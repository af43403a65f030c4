/- Texts of functions for the small machine, printed by mkfile.py out of the compiled functions, and for each what a table has to hold. -/
import Derived.Test.YtepgjaknkjkpaaaDoorAmPrimFD
import Derived.Test.YtepgjaknkjkpaaaDoorAmIrStd
set_option linter.unusedVariables false
namespace Go.Am
/-- motley/motleyref01.SameTexts -/
def ir122 : AFunc := ⟨.seq (.region [
⟨(some 4),.p .mv,[.c (.bool false)],none,[]⟩] false []) <|
 .seq (.seq (.region [
⟨(some 6),.p .mv,[.t 0],none,[]⟩,
⟨(some 7),.p .len,[.t 6],none,[]⟩,
⟨(some 8),.p .mv,[.t 1],none,[]⟩,
⟨(some 9),.p .len,[.t 8],none,[]⟩,
⟨(some 10),.p (.bin .neq),[.t 7,.t 9],none,[]⟩] false []) <|
 .cond (.t 10) (.seq (.region [
⟨(some 4),.p .mv,[.c (.bool false)],none,[]⟩] false []) <|
 .ret) (.skip)) <|
 .seq (.seq (.region [
⟨(some 5),.p .mv,[.c (.int .i64 0)],none,[]⟩] false []) <|
 .block 0 (.loop (.seq (.seq (.region [
⟨(some 11),.p .mv,[.t 5],none,[]⟩,
⟨(some 12),.p .mv,[.t 0],none,[]⟩,
⟨(some 13),.p .len,[.t 12],none,[]⟩,
⟨(some 14),.p (.bin .lss),[.t 11,.t 13],none,[]⟩] false []) <|
 .cond (.t 14) (.skip) (.exit 0)) <|
 .seq (.block 1 (.seq (.region [
⟨(some 17),.p .mv,[.t 0],none,[]⟩,
⟨(some 18),.p .mv,[.t 5],none,[]⟩,
⟨(some 19),.p (.ia 1),[.t 17,.t 18],none,[]⟩,
⟨(some 20),.r (.ld 1 false),[.t 19],none,[]⟩,
⟨(some 21),.p .mv,[.t 1],none,[]⟩,
⟨(some 22),.p .mv,[.t 5],none,[]⟩,
⟨(some 23),.p (.ia 1),[.t 21,.t 22],none,[]⟩,
⟨(some 24),.r (.ld 1 false),[.t 23],none,[]⟩,
⟨(some 25),.p (.bin .neq),[.t 20,.t 24],none,[]⟩] true []) <|
 .cond (.t 25) (.seq (.region [
⟨(some 4),.p .mv,[.c (.bool false)],none,[]⟩] false []) <|
 .ret) (.skip))) <|
 .region [
⟨(some 15),.p .mv,[.t 5],none,[]⟩,
⟨(some 16),.p (.bin .add),[.t 15,.c (.int .i64 1)],none,[]⟩,
⟨(some 5),.p .mv,[.t 16],none,[]⟩] false []))) <|
 .seq (.region [
⟨(some 4),.p .mv,[.c (.bool true)],none,[]⟩] false []) <|
 .ret, [.tmp 4]⟩
structure D122 (T : Tab) : Prop where
  fn : T.fn 122 = some ir122
  pr : T.prim 122 = none
/-- motley/motleyref01.SameInts -/
def ir135 : AFunc := ⟨.seq (.region [
⟨(some 4),.p .mv,[.c (.bool false)],none,[]⟩] false []) <|
 .seq (.seq (.region [
⟨(some 6),.p .mv,[.t 0],none,[]⟩,
⟨(some 7),.p .len,[.t 6],none,[]⟩,
⟨(some 8),.p .mv,[.t 1],none,[]⟩,
⟨(some 9),.p .len,[.t 8],none,[]⟩,
⟨(some 10),.p (.bin .neq),[.t 7,.t 9],none,[]⟩] false []) <|
 .cond (.t 10) (.seq (.region [
⟨(some 4),.p .mv,[.c (.bool false)],none,[]⟩] false []) <|
 .ret) (.skip)) <|
 .seq (.seq (.region [
⟨(some 5),.p .mv,[.c (.int .i64 0)],none,[]⟩] false []) <|
 .block 0 (.loop (.seq (.seq (.region [
⟨(some 11),.p .mv,[.t 5],none,[]⟩,
⟨(some 12),.p .mv,[.t 0],none,[]⟩,
⟨(some 13),.p .len,[.t 12],none,[]⟩,
⟨(some 14),.p (.bin .lss),[.t 11,.t 13],none,[]⟩] false []) <|
 .cond (.t 14) (.skip) (.exit 0)) <|
 .seq (.block 1 (.seq (.region [
⟨(some 17),.p .mv,[.t 0],none,[]⟩,
⟨(some 18),.p .mv,[.t 5],none,[]⟩,
⟨(some 19),.p (.ia 1),[.t 17,.t 18],none,[]⟩,
⟨(some 20),.r (.ld 1 false),[.t 19],none,[]⟩,
⟨(some 21),.p .mv,[.t 1],none,[]⟩,
⟨(some 22),.p .mv,[.t 5],none,[]⟩,
⟨(some 23),.p (.ia 1),[.t 21,.t 22],none,[]⟩,
⟨(some 24),.r (.ld 1 false),[.t 23],none,[]⟩,
⟨(some 25),.p (.bin .neq),[.t 20,.t 24],none,[]⟩] true []) <|
 .cond (.t 25) (.seq (.region [
⟨(some 4),.p .mv,[.c (.bool false)],none,[]⟩] false []) <|
 .ret) (.skip))) <|
 .region [
⟨(some 15),.p .mv,[.t 5],none,[]⟩,
⟨(some 16),.p (.bin .add),[.t 15,.c (.int .i64 1)],none,[]⟩,
⟨(some 5),.p .mv,[.t 16],none,[]⟩] false []))) <|
 .seq (.region [
⟨(some 4),.p .mv,[.c (.bool true)],none,[]⟩] false []) <|
 .ret, [.tmp 4]⟩
structure D135 (T : Tab) : Prop where
  fn : T.fn 135 = some ir135
  pr : T.prim 135 = none
/-- motley/motleyref01.Compare -/
def ir176 : AFunc := ⟨.seq (.region [
⟨(some 4),.p .mv,[.c (.int .i64 0)],none,[]⟩] false []) <|
 .seq (.seq (.region [
⟨(some 5),.p .mv,[.t 0],none,[]⟩,
⟨(some 6),.p .mv,[.t 1],none,[]⟩,
⟨(some 7),.p (.bin .lss),[.t 5,.t 6],none,[]⟩] false []) <|
 .cond (.t 7) (.seq (.region [
⟨(some 4),.p .mv,[.c (.int .i64 (-1))],none,[]⟩] false []) <|
 .ret) (.skip)) <|
 .seq (.seq (.region [
⟨(some 8),.p .mv,[.t 0],none,[]⟩,
⟨(some 9),.p .mv,[.t 1],none,[]⟩,
⟨(some 10),.p (.bin .gtr),[.t 8,.t 9],none,[]⟩] false []) <|
 .cond (.t 10) (.seq (.region [
⟨(some 4),.p .mv,[.c (.int .i64 1)],none,[]⟩] false []) <|
 .ret) (.skip)) <|
 .seq (.region [
⟨(some 4),.p .mv,[.c (.int .i64 0)],none,[]⟩] false []) <|
 .ret, [.tmp 4]⟩
structure D176 (T : Tab) : Prop where
  fn : T.fn 176 = some ir176
  pr : T.prim 176 = none
/-- motley/motleyref01.CompareText -/
def ir155 : AFunc := ⟨.seq (.region [
⟨(some 4),.p .mv,[.c (.int .i64 0)],none,[]⟩] false []) <|
 .seq (.seq (.region [
⟨(some 5),.p .mv,[.c (.int .i64 0)],none,[]⟩] false []) <|
 .block 0 (.loop (.seq (.seq (.region [
⟨(some 6),.p .mv,[.t 5],none,[]⟩,
⟨(some 7),.p .mv,[.t 0],none,[]⟩,
⟨(some 8),.p .lenS,[.t 7],none,[]⟩,
⟨(some 9),.p (.bin .lss),[.t 6,.t 8],none,[]⟩,
⟨(some 10),.p .mv,[.t 9],none,[]⟩,
⟨(some 11),.p .mv,[.t 5],(some (10,true)),[]⟩,
⟨(some 12),.p .mv,[.t 1],(some (10,true)),[]⟩,
⟨(some 13),.p .lenS,[.t 12],(some (10,true)),[]⟩,
⟨(some 14),.p (.bin .lss),[.t 11,.t 13],(some (10,true)),[]⟩,
⟨(some 15),.p .pick,[.t 10,.t 14,.c (.bool false)],none,[]⟩] false []) <|
 .cond (.t 15) (.skip) (.exit 0)) <|
 .seq (.block 1 (.seq (.region [
⟨(some 18),.p .mv,[.t 0],none,[]⟩,
⟨(some 19),.p .mv,[.t 5],none,[]⟩,
⟨(some 20),.p .idxS,[.t 18,.t 19],none,[]⟩,
⟨(some 21),.p .mv,[.t 1],none,[]⟩,
⟨(some 22),.p .mv,[.t 5],none,[]⟩,
⟨(some 23),.p .idxS,[.t 21,.t 22],none,[]⟩,
⟨(some 24),.p (.bin .neq),[.t 20,.t 23],none,[]⟩] true []) <|
 .cond (.t 24) (.seq (.region [
⟨(some 25),.p .mv,[.t 0],none,[]⟩,
⟨(some 26),.p .mv,[.t 5],none,[]⟩,
⟨(some 27),.p .idxS,[.t 25,.t 26],none,[]⟩,
⟨(some 28),.p (.conv .i64),[.t 27],none,[]⟩,
⟨(some 29),.p .mv,[.t 1],none,[]⟩,
⟨(some 30),.p .mv,[.t 5],none,[]⟩,
⟨(some 31),.p .idxS,[.t 29,.t 30],none,[]⟩,
⟨(some 32),.p (.conv .i64),[.t 31],none,[]⟩,
⟨(some 33),.w .call,[.c (.fn 176 [] []),.t 28,.t 32],none,[]⟩,
⟨(some 4),.p .mv,[.t 33],none,[]⟩] true []) <|
 .ret) (.skip))) <|
 .region [
⟨(some 16),.p .mv,[.t 5],none,[]⟩,
⟨(some 17),.p (.bin .add),[.t 16,.c (.int .i64 1)],none,[]⟩,
⟨(some 5),.p .mv,[.t 17],none,[]⟩] false []))) <|
 .seq (.region [
⟨(some 34),.p .mv,[.t 0],none,[]⟩,
⟨(some 35),.p .lenS,[.t 34],none,[]⟩,
⟨(some 36),.p .mv,[.t 1],none,[]⟩,
⟨(some 37),.p .lenS,[.t 36],none,[]⟩,
⟨(some 38),.w .call,[.c (.fn 176 [] []),.t 35,.t 37],none,[]⟩,
⟨(some 4),.p .mv,[.t 38],none,[]⟩] false []) <|
 .ret, [.tmp 4]⟩
structure D155 (T : Tab) : Prop where
  fn : T.fn 155 = some ir155
  pr : T.prim 155 = none
  d176 : D176 T
/-- motley/motleyref01.IsNum -/
def ir165 : AFunc := ⟨.seq (.region [
⟨(some 2),.p .mv,[.c (.bool false)],none,[]⟩] false []) <|
 .seq (.region [
⟨(some 3),.p .mv,[.t 0],none,[]⟩,
⟨(some 4),.p (.bin .leq),[.c (.int .i64 (-9007199254740992)),.t 3],none,[]⟩,
⟨(some 5),.p .mv,[.t 4],none,[]⟩,
⟨(some 6),.p .mv,[.t 0],(some (5,true)),[]⟩,
⟨(some 7),.p (.bin .leq),[.t 6,.c (.int .i64 9007199254740992)],(some (5,true)),[]⟩,
⟨(some 8),.p .pick,[.t 5,.t 7,.c (.bool false)],none,[]⟩,
⟨(some 2),.p .mv,[.t 8],none,[]⟩] false []) <|
 .ret, [.tmp 2]⟩
structure D165 (T : Tab) : Prop where
  fn : T.fn 165 = some ir165
  pr : T.prim 165 = none
/-- motley/motleyref01.Size -/
def ir194 : AFunc := ⟨.seq (.region [
⟨(some 2),.p .mv,[.c (.int .i64 0)],none,[]⟩] false []) <|
 .seq (.seq (.region [
⟨(some 3),.p .mv,[.t 0],none,[]⟩,
⟨(some 4),.p (.bin .lss),[.t 3,.c (.int .i64 0)],none,[]⟩] false []) <|
 .cond (.t 4) (.seq (.region [
⟨(some 5),.p .mv,[.t 0],none,[]⟩,
⟨(some 6),.p (.un .neg),[.t 5],none,[]⟩,
⟨(some 2),.p .mv,[.t 6],none,[]⟩] false []) <|
 .ret) (.skip)) <|
 .seq (.region [
⟨(some 7),.p .mv,[.t 0],none,[]⟩,
⟨(some 2),.p .mv,[.t 7],none,[]⟩] false []) <|
 .ret, [.tmp 2]⟩
structure D194 (T : Tab) : Prop where
  fn : T.fn 194 = some ir194
  pr : T.prim 194 = none
/-- motley/motleyref01.product -/
def ir180 : AFunc := ⟨.seq (.region [
⟨(some 4),.p .mv,[.c (.int .i64 0)],none,[]⟩] false []) <|
 .seq (.seq (.region [
⟨(some 5),.p .mv,[.t 0],none,[]⟩,
⟨(some 6),.p (.bin .neq),[.t 5,.c (.int .i64 0)],none,[]⟩,
⟨(some 7),.p .mv,[.t 6],none,[]⟩,
⟨(some 8),.p .mv,[.t 1],(some (7,true)),[]⟩,
⟨(some 9),.w .call,[.c (.fn 194 [] []),.t 8],(some (7,true)),[]⟩,
⟨(some 10),.p .mv,[.t 0],(some (7,true)),[]⟩,
⟨(some 11),.w .call,[.c (.fn 194 [] []),.t 10],(some (7,true)),[]⟩,
⟨(some 12),.p (.bin .quo),[.c (.int .i64 9007199254740992),.t 11],(some (7,true)),[]⟩,
⟨(some 13),.p (.bin .gtr),[.t 9,.t 12],(some (7,true)),[]⟩,
⟨(some 14),.p .pick,[.t 7,.t 13,.c (.bool false)],none,[]⟩] false []) <|
 .cond (.t 14) (.seq (.region [
⟨(some 4),.p .mv,[.c (.int .i64 9007199254740993)],none,[]⟩] false []) <|
 .ret) (.skip)) <|
 .seq (.region [
⟨(some 15),.p .mv,[.t 0],none,[]⟩,
⟨(some 16),.p .mv,[.t 1],none,[]⟩,
⟨(some 17),.p (.bin .mul),[.t 15,.t 16],none,[]⟩,
⟨(some 4),.p .mv,[.t 17],none,[]⟩] false []) <|
 .ret, [.tmp 4]⟩
structure D180 (T : Tab) : Prop where
  fn : T.fn 180 = some ir180
  pr : T.prim 180 = none
  d194 : D194 T
/-- motley/motleyref01.quotient -/
def ir181 : AFunc := ⟨.seq (.region [
⟨(some 4),.p .mv,[.c (.int .i64 0)],none,[]⟩] false []) <|
 .seq (.region [
⟨(some 6),.p .mv,[.t 0],none,[]⟩,
⟨(some 7),.p .mv,[.t 1],none,[]⟩,
⟨(some 8),.p (.bin .quo),[.t 6,.t 7],none,[]⟩,
⟨(some 5),.p .mv,[.t 8],none,[]⟩] false []) <|
 .seq (.seq (.region [
⟨(some 9),.p .mv,[.t 5],none,[]⟩,
⟨(some 10),.p .mv,[.t 1],none,[]⟩,
⟨(some 11),.p (.bin .mul),[.t 9,.t 10],none,[]⟩,
⟨(some 12),.p .mv,[.t 0],none,[]⟩,
⟨(some 13),.p (.bin .neq),[.t 11,.t 12],none,[]⟩,
⟨(some 14),.p .mv,[.t 13],none,[]⟩,
⟨(some 15),.p .mv,[.t 0],(some (14,true)),[]⟩,
⟨(some 16),.p (.bin .lss),[.t 15,.c (.int .i64 0)],(some (14,true)),[]⟩,
⟨(some 17),.p .mv,[.t 1],(some (14,true)),[]⟩,
⟨(some 18),.p (.bin .lss),[.t 17,.c (.int .i64 0)],(some (14,true)),[]⟩,
⟨(some 19),.p (.eqB true),[.t 16,.t 18],(some (14,true)),[]⟩,
⟨(some 20),.p .pick,[.t 14,.t 19,.c (.bool false)],none,[]⟩] false []) <|
 .cond (.t 20) (.region [
⟨(some 21),.p .mv,[.t 5],none,[]⟩,
⟨(some 22),.p (.bin .sub),[.t 21,.c (.int .i64 1)],none,[]⟩,
⟨(some 5),.p .mv,[.t 22],none,[]⟩] false []) (.skip)) <|
 .seq (.region [
⟨(some 23),.p .mv,[.t 5],none,[]⟩,
⟨(some 4),.p .mv,[.t 23],none,[]⟩] false []) <|
 .ret, [.tmp 4]⟩
structure D181 (T : Tab) : Prop where
  fn : T.fn 181 = some ir181
  pr : T.prim 181 = none
/-- motley/motleyref01.power -/
def ir182 : AFunc := ⟨.seq (.region [
⟨(some 4),.p .mv,[.c (.int .i64 0)],none,[]⟩] false []) <|
 .seq (.region [
⟨(some 5),.p .mv,[.c (.int .i64 1)],none,[]⟩] false []) <|
 .seq (.seq (.region [
⟨(some 7),.p .mv,[.t 0],none,[]⟩,
⟨(some 8),.p (.bin .eql),[.t 7,.c (.int .i64 0)],none,[]⟩,
⟨(some 9),.p .mv,[.t 8],none,[]⟩,
⟨(some 10),.p .mv,[.t 0],(some (9,false)),[]⟩,
⟨(some 11),.p (.bin .eql),[.t 10,.c (.int .i64 1)],(some (9,false)),[]⟩,
⟨(some 12),.p .pick,[.t 9,.c (.bool true),.t 11],none,[]⟩] false []) <|
 .cond (.t 12) (.seq (.seq (.region [
⟨(some 13),.p .mv,[.t 1],none,[]⟩,
⟨(some 14),.p (.bin .eql),[.t 13,.c (.int .i64 0)],none,[]⟩] false []) <|
 .cond (.t 14) (.seq (.region [
⟨(some 4),.p .mv,[.c (.int .i64 1)],none,[]⟩] false []) <|
 .ret) (.skip)) <|
 .seq (.region [
⟨(some 15),.p .mv,[.t 0],none,[]⟩,
⟨(some 4),.p .mv,[.t 15],none,[]⟩] false []) <|
 .ret) (.skip)) <|
 .seq (.seq (.region [
⟨(some 16),.p .mv,[.t 0],none,[]⟩,
⟨(some 17),.p (.bin .eql),[.t 16,.c (.int .i64 (-1))],none,[]⟩] false []) <|
 .cond (.t 17) (.seq (.region [
⟨(some 18),.p .mv,[.t 1],none,[]⟩,
⟨(some 19),.p (.bin .rem),[.t 18,.c (.int .i64 2)],none,[]⟩,
⟨(some 20),.p (.bin .mul),[.c (.int .i64 2),.t 19],none,[]⟩,
⟨(some 21),.p (.bin .sub),[.c (.int .i64 1),.t 20],none,[]⟩,
⟨(some 4),.p .mv,[.t 21],none,[]⟩] false []) <|
 .ret) (.skip)) <|
 .seq (.seq (.region [
⟨(some 6),.p .mv,[.c (.int .i64 0)],none,[]⟩] false []) <|
 .block 0 (.loop (.seq (.seq (.region [
⟨(some 22),.p .mv,[.t 6],none,[]⟩,
⟨(some 23),.p .mv,[.t 1],none,[]⟩,
⟨(some 24),.p (.bin .lss),[.t 22,.t 23],none,[]⟩] false []) <|
 .cond (.t 24) (.skip) (.exit 0)) <|
 .seq (.block 1 (.seq (.seq (.region [
⟨(some 27),.p .mv,[.t 5],none,[]⟩,
⟨(some 28),.p .mv,[.t 0],none,[]⟩,
⟨(some 29),.w .call,[.c (.fn 194 [] []),.t 28],none,[]⟩,
⟨(some 30),.p (.bin .quo),[.c (.int .i64 9007199254740992),.t 29],none,[]⟩,
⟨(some 31),.p (.bin .gtr),[.t 27,.t 30],none,[]⟩,
⟨(some 32),.p .mv,[.t 31],none,[]⟩,
⟨(some 33),.p .mv,[.t 5],(some (32,false)),[]⟩,
⟨(some 34),.p .mv,[.t 0],(some (32,false)),[]⟩,
⟨(some 35),.w .call,[.c (.fn 194 [] []),.t 34],(some (32,false)),[]⟩,
⟨(some 36),.p (.bin .quo),[.c (.int .i64 9007199254740992),.t 35],(some (32,false)),[]⟩,
⟨(some 37),.p (.un .neg),[.t 36],(some (32,false)),[]⟩,
⟨(some 38),.p (.bin .lss),[.t 33,.t 37],(some (32,false)),[]⟩,
⟨(some 39),.p .pick,[.t 32,.c (.bool true),.t 38],none,[]⟩] false []) <|
 .cond (.t 39) (.seq (.region [
⟨(some 4),.p .mv,[.c (.int .i64 9007199254740993)],none,[]⟩] false []) <|
 .ret) (.skip)) <|
 .region [
⟨(some 40),.p .mv,[.t 5],none,[]⟩,
⟨(some 41),.p .mv,[.t 0],none,[]⟩,
⟨(some 42),.p (.bin .mul),[.t 40,.t 41],none,[]⟩,
⟨(some 5),.p .mv,[.t 42],none,[]⟩] false [])) <|
 .region [
⟨(some 25),.p .mv,[.t 6],none,[]⟩,
⟨(some 26),.p (.bin .add),[.t 25,.c (.int .i64 1)],none,[]⟩,
⟨(some 6),.p .mv,[.t 26],none,[]⟩] false []))) <|
 .seq (.region [
⟨(some 43),.p .mv,[.t 5],none,[]⟩,
⟨(some 4),.p .mv,[.t 43],none,[]⟩] false []) <|
 .ret, [.tmp 4]⟩
structure D182 (T : Tab) : Prop where
  fn : T.fn 182 = some ir182
  pr : T.prim 182 = none
  d194 : D194 T
/-- motley/motleyref01.bits -/
def ir183 : AFunc := ⟨.seq (.region [
⟨(some 6),.p .mv,[.c (.int .i64 0)],none,[]⟩] false []) <|
 .seq (.region [
⟨(some 7),.p .mv,[.c (.int .i64 0)],none,[]⟩] false []) <|
 .seq (.seq (.region [
⟨(some 8),.p .mv,[.c (.int .i64 1)],none,[]⟩] false []) <|
 .block 0 (.loop (.seq (.seq (.region [
⟨(some 11),.p .mv,[.t 8],none,[]⟩,
⟨(some 12),.p (.bin .leq),[.t 11,.c (.int .i64 9007199254740992)],none,[]⟩] false []) <|
 .cond (.t 12) (.skip) (.exit 0)) <|
 .seq (.block 1 (.seq (.region [
⟨(some 15),.p .mv,[.t 1],none,[]⟩,
⟨(some 16),.p .mv,[.t 8],none,[]⟩,
⟨(some 17),.p (.bin .quo),[.t 15,.t 16],none,[]⟩,
⟨(some 18),.p (.bin .rem),[.t 17,.c (.int .i64 2)],none,[]⟩,
⟨(some 19),.p .mv,[.t 2],none,[]⟩,
⟨(some 20),.p .mv,[.t 8],none,[]⟩,
⟨(some 21),.p (.bin .quo),[.t 19,.t 20],none,[]⟩,
⟨(some 22),.p (.bin .rem),[.t 21,.c (.int .i64 2)],none,[]⟩,
⟨(some 9),.p .mv,[.t 18],none,[]⟩,
⟨(some 10),.p .mv,[.t 22],none,[]⟩] true []) <|
 .seq (.region [
⟨(some 23),.p .mv,[.t 0],none,[]⟩,
⟨(some 24),.p (.bin .eql),[.t 23,.c (.int .i64 6)],none,[]⟩,
⟨(some 25),.p .mv,[.t 24],none,[]⟩,
⟨(some 26),.p .mv,[.t 9],(some (25,true)),[]⟩,
⟨(some 27),.p .mv,[.t 10],(some (25,true)),[]⟩,
⟨(some 28),.p (.bin .add),[.t 26,.t 27],(some (25,true)),[]⟩,
⟨(some 29),.p (.bin .eql),[.t 28,.c (.int .i64 2)],(some (25,true)),[]⟩,
⟨(some 30),.p .pick,[.t 25,.t 29,.c (.bool false)],none,[]⟩,
⟨(some 31),.p .mv,[.t 30],none,[]⟩,
⟨(some 32),.p .mv,[.t 0],(some (31,false)),[]⟩,
⟨(some 33),.p (.bin .eql),[.t 32,.c (.int .i64 7)],(some (31,false)),[]⟩,
⟨(some 34),.p .mv,[.t 33],(some (31,false)),[]⟩,
⟨(some 35),.p .mv,[.t 9],(some (34,true)),[]⟩,
⟨(some 36),.p .mv,[.t 10],(some (34,true)),[]⟩,
⟨(some 37),.p (.bin .add),[.t 35,.t 36],(some (34,true)),[]⟩,
⟨(some 38),.p (.bin .gtr),[.t 37,.c (.int .i64 0)],(some (34,true)),[]⟩,
⟨(some 39),.p .pick,[.t 34,.t 38,.c (.bool false)],(some (31,false)),[]⟩,
⟨(some 40),.p .pick,[.t 31,.c (.bool true),.t 39],none,[]⟩,
⟨(some 41),.p .mv,[.t 40],none,[]⟩,
⟨(some 42),.p .mv,[.t 0],(some (41,false)),[]⟩,
⟨(some 43),.p (.bin .eql),[.t 42,.c (.int .i64 8)],(some (41,false)),[]⟩,
⟨(some 44),.p .mv,[.t 43],(some (41,false)),[]⟩,
⟨(some 45),.p .mv,[.t 9],(some (44,true)),[]⟩,
⟨(some 46),.p .mv,[.t 10],(some (44,true)),[]⟩,
⟨(some 47),.p (.bin .add),[.t 45,.t 46],(some (44,true)),[]⟩,
⟨(some 48),.p (.bin .eql),[.t 47,.c (.int .i64 1)],(some (44,true)),[]⟩,
⟨(some 49),.p .pick,[.t 44,.t 48,.c (.bool false)],(some (41,false)),[]⟩,
⟨(some 50),.p .pick,[.t 41,.c (.bool true),.t 49],none,[]⟩] false []) <|
 .cond (.t 50) (.region [
⟨(some 51),.p .mv,[.t 7],none,[]⟩,
⟨(some 52),.p .mv,[.t 8],none,[]⟩,
⟨(some 53),.p (.bin .add),[.t 51,.t 52],none,[]⟩,
⟨(some 7),.p .mv,[.t 53],none,[]⟩] false []) (.skip))) <|
 .region [
⟨(some 13),.p .mv,[.t 8],none,[]⟩,
⟨(some 14),.p (.bin .mul),[.t 13,.c (.int .i64 2)],none,[]⟩,
⟨(some 8),.p .mv,[.t 14],none,[]⟩] false []))) <|
 .seq (.region [
⟨(some 54),.p .mv,[.t 7],none,[]⟩,
⟨(some 6),.p .mv,[.t 54],none,[]⟩] false []) <|
 .ret, [.tmp 6]⟩
structure D183 (T : Tab) : Prop where
  fn : T.fn 183 = some ir183
  pr : T.prim 183 = none
/-- motley/motleyref01.Do -/
def ir166 : AFunc := ⟨.seq (.region [
⟨(some 6),.p .mv,[.c (.int .i64 0)],none,[]⟩,
⟨(some 7),.p .mv,[.c (.int .i64 0)],none,[]⟩,
⟨(some 8),.p .mv,[.c (.int .i64 0)],none,[]⟩] false []) <|
 .seq (.seq (.region [
⟨(some 10),.p .mv,[.t 0],none,[]⟩,
⟨(some 11),.p (.bin .lss),[.t 10,.c (.int .i64 0)],none,[]⟩,
⟨(some 12),.p .mv,[.t 11],none,[]⟩,
⟨(some 13),.p .mv,[.t 0],(some (12,false)),[]⟩,
⟨(some 14),.p (.bin .gtr),[.t 13,.c (.int .i64 8)],(some (12,false)),[]⟩,
⟨(some 15),.p .pick,[.t 12,.c (.bool true),.t 14],none,[]⟩,
⟨(some 16),.p .mv,[.t 15],none,[]⟩,
⟨(some 17),.p .mv,[.t 1],(some (16,false)),[]⟩,
⟨(some 18),.w .call,[.c (.fn 165 [] []),.t 17],(some (16,false)),[]⟩,
⟨(some 19),.p (.un .not),[.t 18],(some (16,false)),[]⟩,
⟨(some 20),.p .pick,[.t 16,.c (.bool true),.t 19],none,[]⟩,
⟨(some 21),.p .mv,[.t 20],none,[]⟩,
⟨(some 22),.p .mv,[.t 2],(some (21,false)),[]⟩,
⟨(some 23),.w .call,[.c (.fn 165 [] []),.t 22],(some (21,false)),[]⟩,
⟨(some 24),.p (.un .not),[.t 23],(some (21,false)),[]⟩,
⟨(some 25),.p .pick,[.t 21,.c (.bool true),.t 24],none,[]⟩] false []) <|
 .cond (.t 25) (.seq (.region [
⟨(some 6),.p .mv,[.c (.int .i64 0)],none,[]⟩,
⟨(some 7),.p .mv,[.c (.int .i64 0)],none,[]⟩,
⟨(some 8),.p .mv,[.c (.int .i64 1)],none,[]⟩] false []) <|
 .ret) (.skip)) <|
 .seq (.region [
⟨(some 9),.p .mv,[.c (.int .i64 0)],none,[]⟩] false []) <|
 .seq (.seq (.region [
⟨(some 26),.p .mv,[.t 0],none,[]⟩] false []) <|
 .block 0 (.seq (.region [
⟨(some 38),.p (.bin .eql),[.t 26,.c (.int .i64 0)],none,[]⟩,
⟨(some 37),.p .mv,[.t 38],none,[]⟩] false []) <|
 .cond (.t 37) (.region [
⟨(some 39),.p .mv,[.t 1],none,[]⟩,
⟨(some 40),.p .mv,[.t 2],none,[]⟩,
⟨(some 41),.p (.bin .add),[.t 39,.t 40],none,[]⟩,
⟨(some 9),.p .mv,[.t 41],none,[]⟩] false []) (.seq (.region [
⟨(some 43),.p (.bin .eql),[.t 26,.c (.int .i64 1)],none,[]⟩,
⟨(some 42),.p .mv,[.t 43],none,[]⟩] false []) <|
 .cond (.t 42) (.region [
⟨(some 44),.p .mv,[.t 1],none,[]⟩,
⟨(some 45),.p .mv,[.t 2],none,[]⟩,
⟨(some 46),.p (.bin .sub),[.t 44,.t 45],none,[]⟩,
⟨(some 9),.p .mv,[.t 46],none,[]⟩] false []) (.seq (.region [
⟨(some 48),.p (.bin .eql),[.t 26,.c (.int .i64 2)],none,[]⟩,
⟨(some 47),.p .mv,[.t 48],none,[]⟩] false []) <|
 .cond (.t 47) (.region [
⟨(some 49),.p .mv,[.t 1],none,[]⟩,
⟨(some 50),.p .mv,[.t 2],none,[]⟩,
⟨(some 51),.w .call,[.c (.fn 180 [] []),.t 49,.t 50],none,[]⟩,
⟨(some 9),.p .mv,[.t 51],none,[]⟩] false []) (.seq (.seq (.region [
⟨(some 53),.p (.bin .eql),[.t 26,.c (.int .i64 3)],none,[]⟩,
⟨(some 52),.p .mv,[.t 53],none,[]⟩] false []) <|
 .cond (.t 52) (.skip) (.region [
⟨(some 54),.p (.bin .eql),[.t 26,.c (.int .i64 4)],none,[]⟩,
⟨(some 52),.p .mv,[.t 54],none,[]⟩] false [])) <|
 .cond (.t 52) (.seq (.seq (.region [
⟨(some 55),.p .mv,[.t 2],none,[]⟩,
⟨(some 56),.p (.bin .eql),[.t 55,.c (.int .i64 0)],none,[]⟩] false []) <|
 .cond (.t 56) (.seq (.region [
⟨(some 6),.p .mv,[.c (.int .i64 0)],none,[]⟩,
⟨(some 7),.p .mv,[.c (.int .i64 2)],none,[]⟩,
⟨(some 8),.p .mv,[.c (.int .i64 0)],none,[]⟩] false []) <|
 .ret) (.skip)) <|
 .seq (.region [
⟨(some 57),.p .mv,[.t 1],none,[]⟩,
⟨(some 58),.p .mv,[.t 2],none,[]⟩,
⟨(some 59),.w .call,[.c (.fn 181 [] []),.t 57,.t 58],none,[]⟩,
⟨(some 9),.p .mv,[.t 59],none,[]⟩] false []) <|
 .seq (.region [
⟨(some 60),.p .mv,[.t 0],none,[]⟩,
⟨(some 61),.p (.bin .eql),[.t 60,.c (.int .i64 4)],none,[]⟩] false []) <|
 .cond (.t 61) (.region [
⟨(some 62),.p .mv,[.t 1],none,[]⟩,
⟨(some 63),.p .mv,[.t 2],none,[]⟩,
⟨(some 64),.p .mv,[.t 9],none,[]⟩,
⟨(some 65),.p (.bin .mul),[.t 63,.t 64],none,[]⟩,
⟨(some 66),.p (.bin .sub),[.t 62,.t 65],none,[]⟩,
⟨(some 9),.p .mv,[.t 66],none,[]⟩] false []) (.skip)) (.seq (.region [
⟨(some 68),.p (.bin .eql),[.t 26,.c (.int .i64 5)],none,[]⟩,
⟨(some 67),.p .mv,[.t 68],none,[]⟩] false []) <|
 .cond (.t 67) (.seq (.seq (.region [
⟨(some 69),.p .mv,[.t 2],none,[]⟩,
⟨(some 70),.p (.bin .lss),[.t 69,.c (.int .i64 0)],none,[]⟩] false []) <|
 .cond (.t 70) (.seq (.region [
⟨(some 6),.p .mv,[.c (.int .i64 0)],none,[]⟩,
⟨(some 7),.p .mv,[.c (.int .i64 1)],none,[]⟩,
⟨(some 8),.p .mv,[.c (.int .i64 0)],none,[]⟩] false []) <|
 .ret) (.skip)) <|
 .region [
⟨(some 71),.p .mv,[.t 1],none,[]⟩,
⟨(some 72),.p .mv,[.t 2],none,[]⟩,
⟨(some 73),.w .call,[.c (.fn 182 [] []),.t 71,.t 72],none,[]⟩,
⟨(some 9),.p .mv,[.t 73],none,[]⟩] false []) (.seq (.seq (.region [
⟨(some 27),.p .mv,[.t 1],none,[]⟩,
⟨(some 28),.p (.bin .lss),[.t 27,.c (.int .i64 0)],none,[]⟩,
⟨(some 29),.p .mv,[.t 28],none,[]⟩,
⟨(some 30),.p .mv,[.t 2],(some (29,false)),[]⟩,
⟨(some 31),.p (.bin .lss),[.t 30,.c (.int .i64 0)],(some (29,false)),[]⟩,
⟨(some 32),.p .pick,[.t 29,.c (.bool true),.t 31],none,[]⟩] false []) <|
 .cond (.t 32) (.seq (.region [
⟨(some 6),.p .mv,[.c (.int .i64 0)],none,[]⟩,
⟨(some 7),.p .mv,[.c (.int .i64 1)],none,[]⟩,
⟨(some 8),.p .mv,[.c (.int .i64 0)],none,[]⟩] false []) <|
 .ret) (.skip)) <|
 .region [
⟨(some 33),.p .mv,[.t 0],none,[]⟩,
⟨(some 34),.p .mv,[.t 1],none,[]⟩,
⟨(some 35),.p .mv,[.t 2],none,[]⟩,
⟨(some 36),.w .call,[.c (.fn 183 [] []),.t 33,.t 34,.t 35],none,[]⟩,
⟨(some 9),.p .mv,[.t 36],none,[]⟩] false []))))))) <|
 .seq (.seq (.region [
⟨(some 74),.p .mv,[.t 9],none,[]⟩,
⟨(some 75),.w .call,[.c (.fn 165 [] []),.t 74],none,[]⟩,
⟨(some 76),.p (.un .not),[.t 75],none,[]⟩] false []) <|
 .cond (.t 76) (.seq (.region [
⟨(some 6),.p .mv,[.c (.int .i64 0)],none,[]⟩,
⟨(some 7),.p .mv,[.c (.int .i64 1)],none,[]⟩,
⟨(some 8),.p .mv,[.c (.int .i64 0)],none,[]⟩] false []) <|
 .ret) (.skip)) <|
 .seq (.region [
⟨(some 77),.p .mv,[.t 9],none,[]⟩,
⟨(some 6),.p .mv,[.t 77],none,[]⟩,
⟨(some 7),.p .mv,[.c (.int .i64 0)],none,[]⟩,
⟨(some 8),.p .mv,[.c (.int .i64 0)],none,[]⟩] false []) <|
 .ret, [.tmp 6,.tmp 7,.tmp 8]⟩
structure D166 (T : Tab) : Prop where
  fn : T.fn 166 = some ir166
  pr : T.prim 166 = none
  d165 : D165 T
  d180 : D180 T
  d181 : D181 T
  d182 : D182 T
  d183 : D183 T
/-- motley/motleyref01.blank -/
def ir212 : AFunc := ⟨.seq (.region [
⟨(some 2),.p .mv,[.c (.bool false)],none,[]⟩] false []) <|
 .seq (.region [
⟨(some 3),.p .mv,[.t 0],none,[]⟩,
⟨(some 4),.p (.bin .eql),[.t 3,.c (.int .u8 9)],none,[]⟩,
⟨(some 5),.p .mv,[.t 4],none,[]⟩,
⟨(some 6),.p .mv,[.t 0],(some (5,false)),[]⟩,
⟨(some 7),.p (.bin .eql),[.t 6,.c (.int .u8 10)],(some (5,false)),[]⟩,
⟨(some 8),.p .pick,[.t 5,.c (.bool true),.t 7],none,[]⟩,
⟨(some 9),.p .mv,[.t 8],none,[]⟩,
⟨(some 10),.p .mv,[.t 0],(some (9,false)),[]⟩,
⟨(some 11),.p (.bin .eql),[.t 10,.c (.int .u8 13)],(some (9,false)),[]⟩,
⟨(some 12),.p .pick,[.t 9,.c (.bool true),.t 11],none,[]⟩,
⟨(some 13),.p .mv,[.t 12],none,[]⟩,
⟨(some 14),.p .mv,[.t 0],(some (13,false)),[]⟩,
⟨(some 15),.p (.bin .eql),[.t 14,.c (.int .u8 32)],(some (13,false)),[]⟩,
⟨(some 16),.p .pick,[.t 13,.c (.bool true),.t 15],none,[]⟩,
⟨(some 2),.p .mv,[.t 16],none,[]⟩] false []) <|
 .ret, [.tmp 2]⟩
structure D212 (T : Tab) : Prop where
  fn : T.fn 212 = some ir212
  pr : T.prim 212 = none
/-- motley/motleyref01.digit -/
def ir213 : AFunc := ⟨.seq (.region [
⟨(some 2),.p .mv,[.c (.bool false)],none,[]⟩] false []) <|
 .seq (.region [
⟨(some 3),.p .mv,[.t 0],none,[]⟩,
⟨(some 4),.p (.bin .leq),[.c (.int .u8 48),.t 3],none,[]⟩,
⟨(some 5),.p .mv,[.t 4],none,[]⟩,
⟨(some 6),.p .mv,[.t 0],(some (5,true)),[]⟩,
⟨(some 7),.p (.bin .leq),[.t 6,.c (.int .u8 57)],(some (5,true)),[]⟩,
⟨(some 8),.p .pick,[.t 5,.t 7,.c (.bool false)],none,[]⟩,
⟨(some 2),.p .mv,[.t 8],none,[]⟩] false []) <|
 .ret, [.tmp 2]⟩
structure D213 (T : Tab) : Prop where
  fn : T.fn 213 = some ir213
  pr : T.prim 213 = none
/-- motley/motleyref01.head -/
def ir208 : AFunc := ⟨.seq (.region [
⟨(some 2),.p .mv,[.c (.int .i64 0)],none,[]⟩,
⟨(some 3),.p .mv,[.c (.int .i64 0)],none,[]⟩] false []) <|
 .seq (.region [
⟨(some 4),.p .mv,[.c (.int .i64 0)],none,[]⟩] false []) <|
 .seq (.block 0 (.loop (.seq (.seq (.region [
⟨(some 6),.p .mv,[.t 4],none,[]⟩,
⟨(some 7),.p .mv,[.t 0],none,[]⟩,
⟨(some 8),.p .lenS,[.t 7],none,[]⟩,
⟨(some 9),.p (.bin .lss),[.t 6,.t 8],none,[]⟩,
⟨(some 10),.p .mv,[.t 9],none,[]⟩,
⟨(some 11),.p .mv,[.t 0],(some (10,true)),[]⟩,
⟨(some 12),.p .mv,[.t 4],(some (10,true)),[]⟩,
⟨(some 13),.p .idxS,[.t 11,.t 12],(some (10,true)),[]⟩,
⟨(some 14),.w .call,[.c (.fn 212 [] []),.t 13],(some (10,true)),[]⟩,
⟨(some 15),.p .pick,[.t 10,.t 14,.c (.bool false)],none,[]⟩] false []) <|
 .cond (.t 15) (.skip) (.exit 0)) <|
 .block 1 (.region [
⟨(some 16),.p .mv,[.t 4],none,[]⟩,
⟨(some 17),.p (.bin .add),[.t 16,.c (.int .i64 1)],none,[]⟩,
⟨(some 4),.p .mv,[.t 17],none,[]⟩] false [])))) <|
 .seq (.seq (.region [
⟨(some 18),.p .mv,[.t 4],none,[]⟩,
⟨(some 19),.p .mv,[.t 0],none,[]⟩,
⟨(some 20),.p .lenS,[.t 19],none,[]⟩,
⟨(some 21),.p (.bin .lss),[.t 18,.t 20],none,[]⟩,
⟨(some 22),.p .mv,[.t 21],none,[]⟩,
⟨(some 23),.p .mv,[.t 0],(some (22,true)),[]⟩,
⟨(some 24),.p .mv,[.t 4],(some (22,true)),[]⟩,
⟨(some 25),.p .idxS,[.t 23,.t 24],(some (22,true)),[]⟩,
⟨(some 26),.p (.bin .eql),[.t 25,.c (.int .u8 43)],(some (22,true)),[]⟩,
⟨(some 27),.p .mv,[.t 26],(some (22,true)),[]⟩,
⟨(some 28),.p .mv,[.t 0],(some (27,false)),[]⟩,
⟨(some 29),.p .mv,[.t 4],(some (27,false)),[]⟩,
⟨(some 30),.p .idxS,[.t 28,.t 29],(some (27,false)),[]⟩,
⟨(some 31),.p (.bin .eql),[.t 30,.c (.int .u8 45)],(some (27,false)),[]⟩,
⟨(some 32),.p .pick,[.t 27,.c (.bool true),.t 31],(some (22,true)),[]⟩,
⟨(some 33),.p .pick,[.t 22,.t 32,.c (.bool false)],none,[]⟩] false []) <|
 .cond (.t 33) (.region [
⟨(some 34),.p .mv,[.t 4],none,[]⟩,
⟨(some 35),.p (.bin .add),[.t 34,.c (.int .i64 1)],none,[]⟩,
⟨(some 4),.p .mv,[.t 35],none,[]⟩] false []) (.skip)) <|
 .seq (.region [
⟨(some 36),.p .mv,[.t 4],none,[]⟩,
⟨(some 5),.p .mv,[.t 36],none,[]⟩] false []) <|
 .seq (.block 2 (.loop (.seq (.seq (.region [
⟨(some 37),.p .mv,[.t 5],none,[]⟩,
⟨(some 38),.p .mv,[.t 0],none,[]⟩,
⟨(some 39),.p .lenS,[.t 38],none,[]⟩,
⟨(some 40),.p (.bin .lss),[.t 37,.t 39],none,[]⟩,
⟨(some 41),.p .mv,[.t 40],none,[]⟩,
⟨(some 42),.p .mv,[.t 0],(some (41,true)),[]⟩,
⟨(some 43),.p .mv,[.t 5],(some (41,true)),[]⟩,
⟨(some 44),.p .idxS,[.t 42,.t 43],(some (41,true)),[]⟩,
⟨(some 45),.w .call,[.c (.fn 213 [] []),.t 44],(some (41,true)),[]⟩,
⟨(some 46),.p .pick,[.t 41,.t 45,.c (.bool false)],none,[]⟩] false []) <|
 .cond (.t 46) (.skip) (.exit 2)) <|
 .block 3 (.region [
⟨(some 47),.p .mv,[.t 5],none,[]⟩,
⟨(some 48),.p (.bin .add),[.t 47,.c (.int .i64 1)],none,[]⟩,
⟨(some 5),.p .mv,[.t 48],none,[]⟩] false [])))) <|
 .seq (.region [
⟨(some 49),.p .mv,[.t 4],none,[]⟩,
⟨(some 50),.p .mv,[.t 5],none,[]⟩,
⟨(some 2),.p .mv,[.t 49],none,[]⟩,
⟨(some 3),.p .mv,[.t 50],none,[]⟩] false []) <|
 .ret, [.tmp 2,.tmp 3]⟩
structure D208 (T : Tab) : Prop where
  fn : T.fn 208 = some ir208
  pr : T.prim 208 = none
  d212 : D212 T
  d213 : D213 T
/-- motley/motleyref01.OfText -/
def ir187 : AFunc := ⟨.seq (.region [
⟨(some 2),.p .mv,[.c (.int .i64 0)],none,[]⟩] false []) <|
 .seq (.region [
⟨(some 8),.p .mv,[.t 0],none,[]⟩,
⟨(some 9),.w .call,[.c (.fn 208 [] []),.t 8],none,[]⟩,
⟨(some 7),.p .mv,[.t 9],none,[]⟩,
⟨(some 10),.p (.ext 0),[.t 7],none,[]⟩,
⟨(some 11),.p (.ext 1),[.t 7],none,[]⟩,
⟨(some 3),.p .mv,[.t 10],none,[]⟩,
⟨(some 4),.p .mv,[.t 11],none,[]⟩] false []) <|
 .seq (.region [
⟨(some 5),.p .mv,[.c (.int .i64 0)],none,[]⟩] false []) <|
 .seq (.seq (.region [
⟨(some 12),.p .mv,[.t 3],none,[]⟩,
⟨(some 6),.p .mv,[.t 12],none,[]⟩] false []) <|
 .block 0 (.loop (.seq (.seq (.region [
⟨(some 13),.p .mv,[.t 6],none,[]⟩,
⟨(some 14),.p .mv,[.t 4],none,[]⟩,
⟨(some 15),.p (.bin .lss),[.t 13,.t 14],none,[]⟩,
⟨(some 16),.p .mv,[.t 15],none,[]⟩,
⟨(some 17),.p .mv,[.t 5],(some (16,true)),[]⟩,
⟨(some 18),.p (.bin .leq),[.t 17,.c (.int .i64 9007199254740992)],(some (16,true)),[]⟩,
⟨(some 19),.p .pick,[.t 16,.t 18,.c (.bool false)],none,[]⟩] false []) <|
 .cond (.t 19) (.skip) (.exit 0)) <|
 .seq (.block 1 (.region [
⟨(some 22),.p .mv,[.t 5],none,[]⟩,
⟨(some 23),.p (.bin .mul),[.c (.int .i64 10),.t 22],none,[]⟩,
⟨(some 24),.p .mv,[.t 0],none,[]⟩,
⟨(some 25),.p .mv,[.t 6],none,[]⟩,
⟨(some 26),.p .idxS,[.t 24,.t 25],none,[]⟩,
⟨(some 27),.p (.bin .sub),[.t 26,.c (.int .u8 48)],none,[]⟩,
⟨(some 28),.p (.conv .i64),[.t 27],none,[]⟩,
⟨(some 29),.p (.bin .add),[.t 23,.t 28],none,[]⟩,
⟨(some 5),.p .mv,[.t 29],none,[]⟩] false [])) <|
 .region [
⟨(some 20),.p .mv,[.t 6],none,[]⟩,
⟨(some 21),.p (.bin .add),[.t 20,.c (.int .i64 1)],none,[]⟩,
⟨(some 6),.p .mv,[.t 21],none,[]⟩] false []))) <|
 .seq (.region [
⟨(some 30),.p .mv,[.t 5],none,[]⟩,
⟨(some 31),.p .min,[.t 30,.c (.int .i64 9007199254740992)],none,[]⟩,
⟨(some 5),.p .mv,[.t 31],none,[]⟩] false []) <|
 .seq (.seq (.region [
⟨(some 32),.p .mv,[.t 3],none,[]⟩,
⟨(some 33),.p (.bin .gtr),[.t 32,.c (.int .i64 0)],none,[]⟩,
⟨(some 34),.p .mv,[.t 33],none,[]⟩,
⟨(some 35),.p .mv,[.t 0],(some (34,true)),[]⟩,
⟨(some 36),.p .mv,[.t 3],(some (34,true)),[]⟩,
⟨(some 37),.p (.bin .sub),[.t 36,.c (.int .i64 1)],(some (34,true)),[]⟩,
⟨(some 38),.p .idxS,[.t 35,.t 37],(some (34,true)),[]⟩,
⟨(some 39),.p (.bin .eql),[.t 38,.c (.int .u8 45)],(some (34,true)),[]⟩,
⟨(some 40),.p .pick,[.t 34,.t 39,.c (.bool false)],none,[]⟩] false []) <|
 .cond (.t 40) (.seq (.region [
⟨(some 41),.p .mv,[.t 5],none,[]⟩,
⟨(some 42),.p (.un .neg),[.t 41],none,[]⟩,
⟨(some 2),.p .mv,[.t 42],none,[]⟩] false []) <|
 .ret) (.skip)) <|
 .seq (.region [
⟨(some 43),.p .mv,[.t 5],none,[]⟩,
⟨(some 2),.p .mv,[.t 43],none,[]⟩] false []) <|
 .ret, [.tmp 2]⟩
structure D187 (T : Tab) : Prop where
  fn : T.fn 187 = some ir187
  pr : T.prim 187 = none
  d208 : D208 T
/-- motley/motleyref01.Number -/
def ir169 : AFunc := ⟨.seq (.region [
⟨(some 1),.w .box,[.t 0],none,[]⟩,
⟨(some 2),.p .mv,[.c (.int .i64 0)],none,[]⟩] false []) <|
 .seq (.seq (.region [
⟨(some 3),.p (.fa 0),[.t 1],none,[]⟩,
⟨(some 4),.r (.ld 1 false),[.t 3],none,[]⟩,
⟨(some 5),.p (.bin .eql),[.t 4,.c (.int .i64 2)],none,[]⟩] false []) <|
 .cond (.t 5) (.seq (.region [
⟨(some 6),.p (.fa 2),[.t 1],none,[]⟩,
⟨(some 7),.r (.ld 1 false),[.t 6],none,[]⟩,
⟨(some 8),.w .call,[.c (.fn 187 [] []),.t 7],none,[]⟩,
⟨(some 2),.p .mv,[.t 8],none,[]⟩] false []) <|
 .ret) (.skip)) <|
 .seq (.region [
⟨(some 9),.p (.fa 1),[.t 1],none,[]⟩,
⟨(some 10),.r (.ld 1 false),[.t 9],none,[]⟩,
⟨(some 2),.p .mv,[.t 10],none,[]⟩] false []) <|
 .ret, [.tmp 2]⟩
structure D169 (T : Tab) : Prop where
  fn : T.fn 169 = some ir169
  pr : T.prim 169 = none
  d187 : D187 T
/-- motley/motleyref01.Validate -/
def ir186 : AFunc := ⟨.seq (.region [
⟨(some 1),.w .box,[.t 0],none,[]⟩,
⟨(some 2),.p .mv,[.c (.int .i64 0)],none,[]⟩] false []) <|
 .seq (.seq (.region [
⟨(some 3),.p (.fa 2),[.t 1],none,[]⟩,
⟨(some 4),.r (.ld 1 false),[.t 3],none,[]⟩,
⟨(some 5),.p .lenS,[.t 4],none,[]⟩,
⟨(some 6),.p (.bin .gtr),[.t 5,.c (.int .i64 4096)],none,[]⟩] false []) <|
 .cond (.t 6) (.seq (.region [
⟨(some 2),.p .mv,[.c (.int .i64 3)],none,[]⟩] false []) <|
 .ret) (.skip)) <|
 .seq (.seq (.region [
⟨(some 7),.p (.fa 0),[.t 1],none,[]⟩,
⟨(some 8),.r (.ld 1 false),[.t 7],none,[]⟩] false []) <|
 .block 0 (.seq (.region [
⟨(some 10),.p (.bin .eql),[.t 8,.c (.int .i64 0)],none,[]⟩,
⟨(some 9),.p .mv,[.t 10],none,[]⟩] false []) <|
 .cond (.t 9) (.seq (.region [
⟨(some 11),.p (.fa 1),[.t 1],none,[]⟩,
⟨(some 12),.r (.ld 1 false),[.t 11],none,[]⟩,
⟨(some 13),.p (.bin .eql),[.t 12,.c (.int .i64 0)],none,[]⟩,
⟨(some 14),.p .mv,[.t 13],none,[]⟩,
⟨(some 15),.p (.fa 2),[.t 1],(some (14,true)),[]⟩,
⟨(some 16),.r (.ld 1 false),[.t 15],(some (14,true)),[]⟩,
⟨(some 17),.p (.bin .eql),[.t 16,.c (.str [])],(some (14,true)),[]⟩,
⟨(some 18),.p .pick,[.t 14,.t 17,.c (.bool false)],none,[]⟩] false []) <|
 .cond (.t 18) (.seq (.region [
⟨(some 2),.p .mv,[.c (.int .i64 0)],none,[]⟩] false []) <|
 .ret) (.skip)) (.seq (.region [
⟨(some 20),.p (.bin .eql),[.t 8,.c (.int .i64 1)],none,[]⟩,
⟨(some 19),.p .mv,[.t 20],none,[]⟩] false []) <|
 .cond (.t 19) (.seq (.region [
⟨(some 21),.p (.fa 1),[.t 1],none,[]⟩,
⟨(some 22),.r (.ld 1 false),[.t 21],none,[]⟩,
⟨(some 23),.w .call,[.c (.fn 165 [] []),.t 22],none,[]⟩,
⟨(some 24),.p .mv,[.t 23],none,[]⟩,
⟨(some 25),.p (.fa 2),[.t 1],(some (24,true)),[]⟩,
⟨(some 26),.r (.ld 1 false),[.t 25],(some (24,true)),[]⟩,
⟨(some 27),.p (.bin .eql),[.t 26,.c (.str [])],(some (24,true)),[]⟩,
⟨(some 28),.p .pick,[.t 24,.t 27,.c (.bool false)],none,[]⟩] false []) <|
 .cond (.t 28) (.seq (.region [
⟨(some 2),.p .mv,[.c (.int .i64 0)],none,[]⟩] false []) <|
 .ret) (.skip)) (.seq (.region [
⟨(some 30),.p (.bin .eql),[.t 8,.c (.int .i64 2)],none,[]⟩,
⟨(some 29),.p .mv,[.t 30],none,[]⟩] false []) <|
 .cond (.t 29) (.seq (.region [
⟨(some 31),.p (.fa 1),[.t 1],none,[]⟩,
⟨(some 32),.r (.ld 1 false),[.t 31],none,[]⟩,
⟨(some 33),.p (.bin .eql),[.t 32,.c (.int .i64 0)],none,[]⟩] false []) <|
 .cond (.t 33) (.seq (.region [
⟨(some 2),.p .mv,[.c (.int .i64 0)],none,[]⟩] false []) <|
 .ret) (.skip)) (.skip))))) <|
 .seq (.region [
⟨(some 2),.p .mv,[.c (.int .i64 1)],none,[]⟩] false []) <|
 .ret, [.tmp 2]⟩
structure D186 (T : Tab) : Prop where
  fn : T.fn 186 = some ir186
  pr : T.prim 186 = none
  d165 : D165 T
/-- motley/motleyref01.Looks -/
def ir243 : AFunc := ⟨.seq (.region [
⟨(some 2),.p .mv,[.c (.bool false)],none,[]⟩] false []) <|
 .seq (.region [
⟨(some 7),.p .mv,[.t 0],none,[]⟩,
⟨(some 8),.w .call,[.c (.fn 208 [] []),.t 7],none,[]⟩,
⟨(some 6),.p .mv,[.t 8],none,[]⟩,
⟨(some 9),.p (.ext 0),[.t 6],none,[]⟩,
⟨(some 10),.p (.ext 1),[.t 6],none,[]⟩,
⟨(some 3),.p .mv,[.t 9],none,[]⟩,
⟨(some 4),.p .mv,[.t 10],none,[]⟩] false []) <|
 .seq (.seq (.region [
⟨(some 11),.p .mv,[.t 3],none,[]⟩,
⟨(some 12),.p .mv,[.t 4],none,[]⟩,
⟨(some 13),.p (.bin .eql),[.t 11,.t 12],none,[]⟩] false []) <|
 .cond (.t 13) (.seq (.region [
⟨(some 2),.p .mv,[.c (.bool false)],none,[]⟩] false []) <|
 .ret) (.skip)) <|
 .seq (.seq (.region [
⟨(some 14),.p .mv,[.t 4],none,[]⟩,
⟨(some 5),.p .mv,[.t 14],none,[]⟩] false []) <|
 .block 0 (.loop (.seq (.seq (.region [
⟨(some 15),.p .mv,[.t 5],none,[]⟩,
⟨(some 16),.p .mv,[.t 0],none,[]⟩,
⟨(some 17),.p .lenS,[.t 16],none,[]⟩,
⟨(some 18),.p (.bin .lss),[.t 15,.t 17],none,[]⟩] false []) <|
 .cond (.t 18) (.skip) (.exit 0)) <|
 .seq (.block 1 (.seq (.region [
⟨(some 21),.p .mv,[.t 0],none,[]⟩,
⟨(some 22),.p .mv,[.t 5],none,[]⟩,
⟨(some 23),.p .idxS,[.t 21,.t 22],none,[]⟩,
⟨(some 24),.w .call,[.c (.fn 212 [] []),.t 23],none,[]⟩,
⟨(some 25),.p (.un .not),[.t 24],none,[]⟩] false []) <|
 .cond (.t 25) (.seq (.region [
⟨(some 2),.p .mv,[.c (.bool false)],none,[]⟩] false []) <|
 .ret) (.skip))) <|
 .region [
⟨(some 19),.p .mv,[.t 5],none,[]⟩,
⟨(some 20),.p (.bin .add),[.t 19,.c (.int .i64 1)],none,[]⟩,
⟨(some 5),.p .mv,[.t 20],none,[]⟩] false []))) <|
 .seq (.region [
⟨(some 2),.p .mv,[.c (.bool true)],none,[]⟩] false []) <|
 .ret, [.tmp 2]⟩
structure D243 (T : Tab) : Prop where
  fn : T.fn 243 = some ir243
  pr : T.prim 243 = none
  d208 : D208 T
  d212 : D212 T
/-- motley/motleyref01.Round -/
def ir245 : AFunc := ⟨.seq (.region [
⟨(some 4),.p .mv,[.c (.int .i64 0)],none,[]⟩,
⟨(some 5),.p .mv,[.c (.int .i64 0)],none,[]⟩] false []) <|
 .seq (.seq (.region [
⟨(some 8),.p .mv,[.t 0],none,[]⟩,
⟨(some 9),.w .call,[.c (.fn 165 [] []),.t 8],none,[]⟩,
⟨(some 10),.p (.un .not),[.t 9],none,[]⟩,
⟨(some 11),.p .mv,[.t 10],none,[]⟩,
⟨(some 12),.p .mv,[.t 1],(some (11,false)),[]⟩,
⟨(some 13),.p (.bin .lss),[.t 12,.c (.int .i64 1)],(some (11,false)),[]⟩,
⟨(some 14),.p .pick,[.t 11,.c (.bool true),.t 13],none,[]⟩,
⟨(some 15),.p .mv,[.t 14],none,[]⟩,
⟨(some 16),.p .mv,[.t 1],(some (15,false)),[]⟩,
⟨(some 17),.p (.bin .gtr),[.t 16,.c (.int .i64 9007199254740992)],(some (15,false)),[]⟩,
⟨(some 18),.p .pick,[.t 15,.c (.bool true),.t 17],none,[]⟩] false []) <|
 .cond (.t 18) (.seq (.region [
⟨(some 4),.p .mv,[.c (.int .i64 0)],none,[]⟩,
⟨(some 5),.p .mv,[.c (.int .i64 1)],none,[]⟩] false []) <|
 .ret) (.skip)) <|
 .seq (.region [
⟨(some 19),.p .mv,[.t 0],none,[]⟩,
⟨(some 20),.w .call,[.c (.fn 194 [] []),.t 19],none,[]⟩,
⟨(some 6),.p .mv,[.t 20],none,[]⟩] false []) <|
 .seq (.region [
⟨(some 21),.p .mv,[.t 6],none,[]⟩,
⟨(some 22),.p .mv,[.t 1],none,[]⟩,
⟨(some 23),.p (.bin .quo),[.t 21,.t 22],none,[]⟩,
⟨(some 24),.p .mv,[.t 1],none,[]⟩,
⟨(some 25),.p (.bin .mul),[.t 23,.t 24],none,[]⟩,
⟨(some 7),.p .mv,[.t 25],none,[]⟩] false []) <|
 .seq (.seq (.region [
⟨(some 26),.p .mv,[.t 6],none,[]⟩,
⟨(some 27),.p .mv,[.t 7],none,[]⟩,
⟨(some 28),.p (.bin .sub),[.t 26,.t 27],none,[]⟩,
⟨(some 29),.p (.bin .mul),[.c (.int .i64 2),.t 28],none,[]⟩,
⟨(some 30),.p .mv,[.t 1],none,[]⟩,
⟨(some 31),.p (.bin .geq),[.t 29,.t 30],none,[]⟩] false []) <|
 .cond (.t 31) (.region [
⟨(some 32),.p .mv,[.t 7],none,[]⟩,
⟨(some 33),.p .mv,[.t 1],none,[]⟩,
⟨(some 34),.p (.bin .add),[.t 32,.t 33],none,[]⟩,
⟨(some 7),.p .mv,[.t 34],none,[]⟩] false []) (.skip)) <|
 .seq (.seq (.region [
⟨(some 35),.p .mv,[.t 7],none,[]⟩,
⟨(some 36),.p (.bin .gtr),[.t 35,.c (.int .i64 9007199254740992)],none,[]⟩] false []) <|
 .cond (.t 36) (.seq (.region [
⟨(some 4),.p .mv,[.c (.int .i64 0)],none,[]⟩,
⟨(some 5),.p .mv,[.c (.int .i64 3)],none,[]⟩] false []) <|
 .ret) (.skip)) <|
 .seq (.seq (.region [
⟨(some 37),.p .mv,[.t 0],none,[]⟩,
⟨(some 38),.p (.bin .lss),[.t 37,.c (.int .i64 0)],none,[]⟩] false []) <|
 .cond (.t 38) (.seq (.region [
⟨(some 39),.p .mv,[.t 7],none,[]⟩,
⟨(some 40),.p (.un .neg),[.t 39],none,[]⟩,
⟨(some 4),.p .mv,[.t 40],none,[]⟩,
⟨(some 5),.p .mv,[.c (.int .i64 0)],none,[]⟩] false []) <|
 .ret) (.skip)) <|
 .seq (.region [
⟨(some 41),.p .mv,[.t 7],none,[]⟩,
⟨(some 4),.p .mv,[.t 41],none,[]⟩,
⟨(some 5),.p .mv,[.c (.int .i64 0)],none,[]⟩] false []) <|
 .ret, [.tmp 4,.tmp 5]⟩
structure D245 (T : Tab) : Prop where
  fn : T.fn 245 = some ir245
  pr : T.prim 245 = none
  d165 : D165 T
  d194 : D194 T
/-- motley/motleyref01.value -/
def ir255 : AFunc := ⟨.seq (.region [
⟨(some 4),.p .mv,[.c (.int .i64 0)],none,[]⟩] false []) <|
 .seq (.region [
⟨(some 5),.p .mv,[.c (.int .i64 (-1))],none,[]⟩] false []) <|
 .seq (.block 0 (.seq (.region [
⟨(some 7),.p .mv,[.t 0],none,[]⟩,
⟨(some 8),.w .call,[.c (.fn 213 [] []),.t 7],none,[]⟩,
⟨(some 6),.p .mv,[.t 8],none,[]⟩] false []) <|
 .cond (.t 6) (.region [
⟨(some 9),.p .mv,[.t 0],none,[]⟩,
⟨(some 10),.p (.bin .sub),[.t 9,.c (.int .u8 48)],none,[]⟩,
⟨(some 11),.p (.conv .i64),[.t 10],none,[]⟩,
⟨(some 5),.p .mv,[.t 11],none,[]⟩] false []) (.seq (.region [
⟨(some 13),.p .mv,[.t 0],none,[]⟩,
⟨(some 14),.p (.bin .leq),[.c (.int .u8 97),.t 13],none,[]⟩,
⟨(some 15),.p .mv,[.t 14],none,[]⟩,
⟨(some 16),.p .mv,[.t 0],(some (15,true)),[]⟩,
⟨(some 17),.p (.bin .leq),[.t 16,.c (.int .u8 102)],(some (15,true)),[]⟩,
⟨(some 18),.p .pick,[.t 15,.t 17,.c (.bool false)],none,[]⟩,
⟨(some 12),.p .mv,[.t 18],none,[]⟩] false []) <|
 .cond (.t 12) (.region [
⟨(some 19),.p .mv,[.t 0],none,[]⟩,
⟨(some 20),.p (.bin .sub),[.t 19,.c (.int .u8 97)],none,[]⟩,
⟨(some 21),.p (.conv .i64),[.t 20],none,[]⟩,
⟨(some 22),.p (.bin .add),[.t 21,.c (.int .i64 10)],none,[]⟩,
⟨(some 5),.p .mv,[.t 22],none,[]⟩] false []) (.seq (.region [
⟨(some 24),.p .mv,[.t 0],none,[]⟩,
⟨(some 25),.p (.bin .leq),[.c (.int .u8 65),.t 24],none,[]⟩,
⟨(some 26),.p .mv,[.t 25],none,[]⟩,
⟨(some 27),.p .mv,[.t 0],(some (26,true)),[]⟩,
⟨(some 28),.p (.bin .leq),[.t 27,.c (.int .u8 70)],(some (26,true)),[]⟩,
⟨(some 29),.p .pick,[.t 26,.t 28,.c (.bool false)],none,[]⟩,
⟨(some 23),.p .mv,[.t 29],none,[]⟩] false []) <|
 .cond (.t 23) (.region [
⟨(some 30),.p .mv,[.t 0],none,[]⟩,
⟨(some 31),.p (.bin .sub),[.t 30,.c (.int .u8 65)],none,[]⟩,
⟨(some 32),.p (.conv .i64),[.t 31],none,[]⟩,
⟨(some 33),.p (.bin .add),[.t 32,.c (.int .i64 10)],none,[]⟩,
⟨(some 5),.p .mv,[.t 33],none,[]⟩] false []) (.skip))))) <|
 .seq (.seq (.region [
⟨(some 34),.p .mv,[.t 5],none,[]⟩,
⟨(some 35),.p .mv,[.t 1],none,[]⟩,
⟨(some 36),.p (.bin .geq),[.t 34,.t 35],none,[]⟩] false []) <|
 .cond (.t 36) (.seq (.region [
⟨(some 4),.p .mv,[.c (.int .i64 (-1))],none,[]⟩] false []) <|
 .ret) (.skip)) <|
 .seq (.region [
⟨(some 37),.p .mv,[.t 5],none,[]⟩,
⟨(some 4),.p .mv,[.t 37],none,[]⟩] false []) <|
 .ret, [.tmp 4]⟩
structure D255 (T : Tab) : Prop where
  fn : T.fn 255 = some ir255
  pr : T.prim 255 = none
  d213 : D213 T
/-- motley/motleyref01.digits -/
def ir251 : AFunc := ⟨.seq (.region [
⟨(some 6),.p .mv,[.c (.int .i64 0)],none,[]⟩,
⟨(some 7),.p .mv,[.c (.bool false)],none,[]⟩] false []) <|
 .seq (.region [
⟨(some 8),.p .mv,[.c (.int .i64 0)],none,[]⟩] false []) <|
 .seq (.region [
⟨(some 12),.p .mv,[.t 2],none,[]⟩,
⟨(some 9),.p .mv,[.t 12],none,[]⟩] false []) <|
 .seq (.seq (.region [
⟨(some 10),.p .mv,[.c (.int .i64 0)],none,[]⟩] false []) <|
 .block 0 (.loop (.seq (.seq (.region [
⟨(some 13),.p .mv,[.t 10],none,[]⟩,
⟨(some 14),.p .mv,[.t 0],none,[]⟩,
⟨(some 15),.p .lenS,[.t 14],none,[]⟩,
⟨(some 16),.p (.bin .lss),[.t 13,.t 15],none,[]⟩] false []) <|
 .cond (.t 16) (.skip) (.exit 0)) <|
 .seq (.block 1 (.seq (.seq (.region [
⟨(some 19),.p .mv,[.t 0],none,[]⟩,
⟨(some 20),.p .mv,[.t 10],none,[]⟩,
⟨(some 21),.p .idxS,[.t 19,.t 20],none,[]⟩,
⟨(some 22),.p (.bin .eql),[.t 21,.c (.int .u8 95)],none,[]⟩] false []) <|
 .cond (.t 22) (.seq (.seq (.region [
⟨(some 23),.p .mv,[.t 9],none,[]⟩,
⟨(some 24),.p (.un .not),[.t 23],none,[]⟩,
⟨(some 25),.p .mv,[.t 24],none,[]⟩,
⟨(some 26),.p .mv,[.t 10],(some (25,false)),[]⟩,
⟨(some 27),.p (.bin .add),[.t 26,.c (.int .i64 1)],(some (25,false)),[]⟩,
⟨(some 28),.p .mv,[.t 0],(some (25,false)),[]⟩,
⟨(some 29),.p .lenS,[.t 28],(some (25,false)),[]⟩,
⟨(some 30),.p (.bin .eql),[.t 27,.t 29],(some (25,false)),[]⟩,
⟨(some 31),.p .pick,[.t 25,.c (.bool true),.t 30],none,[]⟩,
⟨(some 32),.p .mv,[.t 31],none,[]⟩,
⟨(some 33),.p .mv,[.t 0],(some (32,false)),[]⟩,
⟨(some 34),.p .mv,[.t 10],(some (32,false)),[]⟩,
⟨(some 35),.p (.bin .add),[.t 34,.c (.int .i64 1)],(some (32,false)),[]⟩,
⟨(some 36),.p .idxS,[.t 33,.t 35],(some (32,false)),[]⟩,
⟨(some 37),.p .mv,[.t 1],(some (32,false)),[]⟩,
⟨(some 38),.w .call,[.c (.fn 255 [] []),.t 36,.t 37],(some (32,false)),[]⟩,
⟨(some 39),.p (.bin .lss),[.t 38,.c (.int .i64 0)],(some (32,false)),[]⟩,
⟨(some 40),.p .pick,[.t 32,.c (.bool true),.t 39],none,[]⟩] false []) <|
 .cond (.t 40) (.seq (.region [
⟨(some 6),.p .mv,[.c (.int .i64 0)],none,[]⟩,
⟨(some 7),.p .mv,[.c (.bool false)],none,[]⟩] false []) <|
 .ret) (.skip)) <|
 .seq (.region [
⟨(some 9),.p .mv,[.c (.bool false)],none,[]⟩] false []) <|
 .exit 1) (.skip)) <|
 .seq (.region [
⟨(some 41),.p .mv,[.t 0],none,[]⟩,
⟨(some 42),.p .mv,[.t 10],none,[]⟩,
⟨(some 43),.p .idxS,[.t 41,.t 42],none,[]⟩,
⟨(some 44),.p .mv,[.t 1],none,[]⟩,
⟨(some 45),.w .call,[.c (.fn 255 [] []),.t 43,.t 44],none,[]⟩,
⟨(some 11),.p .mv,[.t 45],none,[]⟩] false []) <|
 .seq (.seq (.region [
⟨(some 46),.p .mv,[.t 11],none,[]⟩,
⟨(some 47),.p (.bin .lss),[.t 46,.c (.int .i64 0)],none,[]⟩] false []) <|
 .cond (.t 47) (.seq (.region [
⟨(some 6),.p .mv,[.c (.int .i64 0)],none,[]⟩,
⟨(some 7),.p .mv,[.c (.bool false)],none,[]⟩] false []) <|
 .ret) (.skip)) <|
 .seq (.region [
⟨(some 48),.p .mv,[.t 8],none,[]⟩,
⟨(some 49),.p .mv,[.t 1],none,[]⟩,
⟨(some 50),.p (.bin .mul),[.t 48,.t 49],none,[]⟩,
⟨(some 51),.p .mv,[.t 11],none,[]⟩,
⟨(some 52),.p (.bin .add),[.t 50,.t 51],none,[]⟩,
⟨(some 53),.p .min,[.t 52,.c (.int .i64 144115188075855872)],none,[]⟩,
⟨(some 8),.p .mv,[.t 53],none,[]⟩] false []) <|
 .region [
⟨(some 9),.p .mv,[.c (.bool true)],none,[]⟩] false [])) <|
 .region [
⟨(some 17),.p .mv,[.t 10],none,[]⟩,
⟨(some 18),.p (.bin .add),[.t 17,.c (.int .i64 1)],none,[]⟩,
⟨(some 10),.p .mv,[.t 18],none,[]⟩] false []))) <|
 .seq (.region [
⟨(some 54),.p .mv,[.t 8],none,[]⟩,
⟨(some 55),.p .mv,[.t 8],none,[]⟩,
⟨(some 56),.p (.bin .leq),[.t 55,.c (.int .i64 9007199254740992)],none,[]⟩,
⟨(some 6),.p .mv,[.t 54],none,[]⟩,
⟨(some 7),.p .mv,[.t 56],none,[]⟩] false []) <|
 .ret, [.tmp 6,.tmp 7]⟩
structure D251 (T : Tab) : Prop where
  fn : T.fn 251 = some ir251
  pr : T.prim 251 = none
  d255 : D255 T
/-- motley/motleyref01.Radix -/
def ir247 : AFunc := ⟨.seq (.region [
⟨(some 2),.p .mv,[.c (.int .i64 0)],none,[]⟩,
⟨(some 3),.p .mv,[.c (.bool false)],none,[]⟩] false []) <|
 .seq (.region [
⟨(some 4),.p .mv,[.c (.int .i64 0)],none,[]⟩,
⟨(some 5),.p .mv,[.c (.bool false)],none,[]⟩] false []) <|
 .seq (.block 0 (.seq (.region [
⟨(some 13),.p .mv,[.t 0],none,[]⟩,
⟨(some 14),.p (.bin .eql),[.t 13,.c (.str [])],none,[]⟩,
⟨(some 12),.p .mv,[.t 14],none,[]⟩] false []) <|
 .cond (.t 12) (.seq (.region [
⟨(some 2),.p .mv,[.c (.int .i64 0)],none,[]⟩,
⟨(some 3),.p .mv,[.c (.bool false)],none,[]⟩] false []) <|
 .ret) (.seq (.region [
⟨(some 16),.p .mv,[.t 0],none,[]⟩,
⟨(some 17),.p .idxS,[.t 16,.c (.int .i64 0)],none,[]⟩,
⟨(some 18),.p (.bin .neq),[.t 17,.c (.int .u8 48)],none,[]⟩,
⟨(some 15),.p .mv,[.t 18],none,[]⟩] false []) <|
 .cond (.t 15) (.region [
⟨(some 20),.p .mv,[.t 0],none,[]⟩,
⟨(some 21),.w .call,[.c (.fn 251 [] []),.t 20,.c (.int .i64 10),.c (.bool false)],none,[]⟩,
⟨(some 19),.p .mv,[.t 21],none,[]⟩,
⟨(some 22),.p (.ext 0),[.t 19],none,[]⟩,
⟨(some 23),.p (.ext 1),[.t 19],none,[]⟩,
⟨(some 4),.p .mv,[.t 22],none,[]⟩,
⟨(some 5),.p .mv,[.t 23],none,[]⟩] false []) (.seq (.region [
⟨(some 25),.p .mv,[.t 0],none,[]⟩,
⟨(some 26),.p .lenS,[.t 25],none,[]⟩,
⟨(some 27),.p (.bin .gtr),[.t 26,.c (.int .i64 1)],none,[]⟩,
⟨(some 28),.p .mv,[.t 27],none,[]⟩,
⟨(some 29),.p .mv,[.t 0],(some (28,true)),[]⟩,
⟨(some 30),.p .idxS,[.t 29,.c (.int .i64 1)],(some (28,true)),[]⟩,
⟨(some 31),.p (.bin .eql),[.t 30,.c (.int .u8 120)],(some (28,true)),[]⟩,
⟨(some 32),.p .pick,[.t 28,.t 31,.c (.bool false)],none,[]⟩,
⟨(some 24),.p .mv,[.t 32],none,[]⟩] false []) <|
 .cond (.t 24) (.seq (.region [
⟨(some 34),.p .mv,[.t 0],none,[]⟩,
⟨(some 35),.p (.slS true false),[.t 34,.c (.int .i64 2)],none,[]⟩,
⟨(some 36),.w .call,[.c (.fn 251 [] []),.t 35,.c (.int .i64 16),.c (.bool false)],none,[]⟩,
⟨(some 33),.p .mv,[.t 36],none,[]⟩,
⟨(some 37),.p (.ext 0),[.t 33],none,[]⟩,
⟨(some 38),.p (.ext 1),[.t 33],none,[]⟩,
⟨(some 4),.p .mv,[.t 37],none,[]⟩,
⟨(some 5),.p .mv,[.t 38],none,[]⟩] false []) <|
 .region [
⟨(some 39),.p .mv,[.t 5],none,[]⟩,
⟨(some 40),.p .mv,[.t 39],none,[]⟩,
⟨(some 41),.p .mv,[.t 0],(some (40,true)),[]⟩,
⟨(some 42),.p .lenS,[.t 41],(some (40,true)),[]⟩,
⟨(some 43),.p (.bin .gtr),[.t 42,.c (.int .i64 2)],(some (40,true)),[]⟩,
⟨(some 44),.p .pick,[.t 40,.t 43,.c (.bool false)],none,[]⟩,
⟨(some 5),.p .mv,[.t 44],none,[]⟩] false []) (.seq (.region [
⟨(some 46),.p .mv,[.t 0],none,[]⟩,
⟨(some 47),.p .lenS,[.t 46],none,[]⟩,
⟨(some 48),.p (.bin .gtr),[.t 47,.c (.int .i64 1)],none,[]⟩,
⟨(some 49),.p .mv,[.t 48],none,[]⟩,
⟨(some 50),.p .mv,[.t 0],(some (49,true)),[]⟩,
⟨(some 51),.p .idxS,[.t 50,.c (.int .i64 1)],(some (49,true)),[]⟩,
⟨(some 52),.p (.bin .eql),[.t 51,.c (.int .u8 98)],(some (49,true)),[]⟩,
⟨(some 53),.p .pick,[.t 49,.t 52,.c (.bool false)],none,[]⟩,
⟨(some 45),.p .mv,[.t 53],none,[]⟩] false []) <|
 .cond (.t 45) (.seq (.region [
⟨(some 55),.p .mv,[.t 0],none,[]⟩,
⟨(some 56),.p (.slS true false),[.t 55,.c (.int .i64 2)],none,[]⟩,
⟨(some 57),.w .call,[.c (.fn 251 [] []),.t 56,.c (.int .i64 2),.c (.bool false)],none,[]⟩,
⟨(some 54),.p .mv,[.t 57],none,[]⟩,
⟨(some 58),.p (.ext 0),[.t 54],none,[]⟩,
⟨(some 59),.p (.ext 1),[.t 54],none,[]⟩,
⟨(some 4),.p .mv,[.t 58],none,[]⟩,
⟨(some 5),.p .mv,[.t 59],none,[]⟩] false []) <|
 .region [
⟨(some 60),.p .mv,[.t 5],none,[]⟩,
⟨(some 61),.p .mv,[.t 60],none,[]⟩,
⟨(some 62),.p .mv,[.t 0],(some (61,true)),[]⟩,
⟨(some 63),.p .lenS,[.t 62],(some (61,true)),[]⟩,
⟨(some 64),.p (.bin .gtr),[.t 63,.c (.int .i64 2)],(some (61,true)),[]⟩,
⟨(some 65),.p .pick,[.t 61,.t 64,.c (.bool false)],none,[]⟩,
⟨(some 5),.p .mv,[.t 65],none,[]⟩] false []) (.region [
⟨(some 7),.p .mv,[.t 0],none,[]⟩,
⟨(some 8),.p (.slS true false),[.t 7,.c (.int .i64 1)],none,[]⟩,
⟨(some 9),.w .call,[.c (.fn 251 [] []),.t 8,.c (.int .i64 8),.c (.bool true)],none,[]⟩,
⟨(some 6),.p .mv,[.t 9],none,[]⟩,
⟨(some 10),.p (.ext 0),[.t 6],none,[]⟩,
⟨(some 11),.p (.ext 1),[.t 6],none,[]⟩,
⟨(some 4),.p .mv,[.t 10],none,[]⟩,
⟨(some 5),.p .mv,[.t 11],none,[]⟩] false [])))))) <|
 .seq (.seq (.region [
⟨(some 66),.p .mv,[.t 5],none,[]⟩,
⟨(some 67),.p (.un .not),[.t 66],none,[]⟩] false []) <|
 .cond (.t 67) (.seq (.region [
⟨(some 2),.p .mv,[.c (.int .i64 0)],none,[]⟩,
⟨(some 3),.p .mv,[.c (.bool false)],none,[]⟩] false []) <|
 .ret) (.skip)) <|
 .seq (.region [
⟨(some 68),.p .mv,[.t 4],none,[]⟩,
⟨(some 2),.p .mv,[.t 68],none,[]⟩,
⟨(some 3),.p .mv,[.c (.bool true)],none,[]⟩] false []) <|
 .ret, [.tmp 2,.tmp 3]⟩
structure D247 (T : Tab) : Prop where
  fn : T.fn 247 = some ir247
  pr : T.prim 247 = none
  d251 : D251 T
/-- motley/motleyref01.Repeat -/
def ir249 : AFunc := ⟨.seq (.region [
⟨(some 4),.p .mv,[.c (.str [])],none,[]⟩,
⟨(some 5),.p .mv,[.c (.int .i64 0)],none,[]⟩] false []) <|
 .seq (.seq (.region [
⟨(some 8),.p .mv,[.t 0],none,[]⟩,
⟨(some 9),.p .lenS,[.t 8],none,[]⟩,
⟨(some 10),.p (.bin .gtr),[.t 9,.c (.int .i64 4096)],none,[]⟩] false []) <|
 .cond (.t 10) (.seq (.region [
⟨(some 4),.p .mv,[.c (.str [])],none,[]⟩,
⟨(some 5),.p .mv,[.c (.int .i64 3)],none,[]⟩] false []) <|
 .ret) (.skip)) <|
 .seq (.seq (.region [
⟨(some 11),.p .mv,[.t 1],none,[]⟩,
⟨(some 12),.p (.bin .lss),[.t 11,.c (.int .i64 1)],none,[]⟩,
⟨(some 13),.p .mv,[.t 12],none,[]⟩,
⟨(some 14),.p .mv,[.t 0],(some (13,false)),[]⟩,
⟨(some 15),.p (.bin .eql),[.t 14,.c (.str [])],(some (13,false)),[]⟩,
⟨(some 16),.p .pick,[.t 13,.c (.bool true),.t 15],none,[]⟩] false []) <|
 .cond (.t 16) (.seq (.region [
⟨(some 4),.p .mv,[.c (.str [])],none,[]⟩,
⟨(some 5),.p .mv,[.c (.int .i64 0)],none,[]⟩] false []) <|
 .ret) (.skip)) <|
 .seq (.seq (.region [
⟨(some 17),.p .mv,[.t 1],none,[]⟩,
⟨(some 18),.p .mv,[.t 0],none,[]⟩,
⟨(some 19),.p .lenS,[.t 18],none,[]⟩,
⟨(some 20),.p (.bin .quo),[.c (.int .i64 4096),.t 19],none,[]⟩,
⟨(some 21),.p (.bin .gtr),[.t 17,.t 20],none,[]⟩] false []) <|
 .cond (.t 21) (.seq (.region [
⟨(some 4),.p .mv,[.c (.str [])],none,[]⟩,
⟨(some 5),.p .mv,[.c (.int .i64 3)],none,[]⟩] false []) <|
 .ret) (.skip)) <|
 .seq (.region [
⟨(some 6),.p .mv,[.c (.str [])],none,[]⟩] false []) <|
 .seq (.seq (.region [
⟨(some 7),.p .mv,[.c (.int .i64 0)],none,[]⟩] false []) <|
 .block 0 (.loop (.seq (.seq (.region [
⟨(some 22),.p .mv,[.t 7],none,[]⟩,
⟨(some 23),.p .mv,[.t 1],none,[]⟩,
⟨(some 24),.p (.bin .lss),[.t 22,.t 23],none,[]⟩] false []) <|
 .cond (.t 24) (.skip) (.exit 0)) <|
 .seq (.block 1 (.region [
⟨(some 27),.p .mv,[.t 6],none,[]⟩,
⟨(some 28),.p .mv,[.t 0],none,[]⟩,
⟨(some 29),.p (.bin .add),[.t 27,.t 28],none,[]⟩,
⟨(some 6),.p .mv,[.t 29],none,[]⟩] false [])) <|
 .region [
⟨(some 25),.p .mv,[.t 7],none,[]⟩,
⟨(some 26),.p (.bin .add),[.t 25,.c (.int .i64 1)],none,[]⟩,
⟨(some 7),.p .mv,[.t 26],none,[]⟩] false []))) <|
 .seq (.region [
⟨(some 30),.p .mv,[.t 6],none,[]⟩,
⟨(some 4),.p .mv,[.t 30],none,[]⟩,
⟨(some 5),.p .mv,[.c (.int .i64 0)],none,[]⟩] false []) <|
 .ret, [.tmp 4,.tmp 5]⟩
structure D249 (T : Tab) : Prop where
  fn : T.fn 249 = some ir249
  pr : T.prim 249 = none
/-- motley/motleyref01.Written -/
def ir284 : AFunc := ⟨.seq (.region [
⟨(some 2),.p .mv,[.c (.str [])],none,[]⟩] false []) <|
 .seq (.seq (.region [
⟨(some 3),.p .mv,[.t 0],none,[]⟩,
⟨(some 4),.p (.bin .lss),[.t 3,.c (.int .i64 0)],none,[]⟩] false []) <|
 .cond (.t 4) (.seq (.region [
⟨(some 5),.p .mv,[.t 0],none,[]⟩,
⟨(some 6),.p (.un .neg),[.t 5],none,[]⟩,
⟨(some 7),.w .call,[.c (.fn 284 [] []),.t 6],none,[]⟩,
⟨(some 8),.p (.bin .add),[.c (.str [45]),.t 7],none,[]⟩,
⟨(some 2),.p .mv,[.t 8],none,[]⟩] false []) <|
 .ret) (.skip)) <|
 .seq (.seq (.region [
⟨(some 9),.p .mv,[.t 0],none,[]⟩,
⟨(some 10),.p (.bin .geq),[.t 9,.c (.int .i64 10)],none,[]⟩] false []) <|
 .cond (.t 10) (.seq (.region [
⟨(some 11),.p .mv,[.t 0],none,[]⟩,
⟨(some 12),.p (.bin .quo),[.t 11,.c (.int .i64 10)],none,[]⟩,
⟨(some 13),.w .call,[.c (.fn 284 [] []),.t 12],none,[]⟩,
⟨(some 14),.p .mv,[.t 0],none,[]⟩,
⟨(some 15),.p (.bin .rem),[.t 14,.c (.int .i64 10)],none,[]⟩,
⟨(some 16),.p (.bin .add),[.c (.int .i64 48),.t 15],none,[]⟩,
⟨(some 17),.p (.conv .i32),[.t 16],none,[]⟩,
⟨(some 18),.p .i2s,[.t 17],none,[]⟩,
⟨(some 19),.p (.bin .add),[.t 13,.t 18],none,[]⟩,
⟨(some 2),.p .mv,[.t 19],none,[]⟩] false []) <|
 .ret) (.skip)) <|
 .seq (.region [
⟨(some 20),.p .mv,[.t 0],none,[]⟩,
⟨(some 21),.p (.bin .add),[.c (.int .i64 48),.t 20],none,[]⟩,
⟨(some 22),.p (.conv .i32),[.t 21],none,[]⟩,
⟨(some 23),.p .i2s,[.t 22],none,[]⟩,
⟨(some 2),.p .mv,[.t 23],none,[]⟩] false []) <|
 .ret, [.tmp 2]⟩
structure D284 (T : Tab) : Prop where
  fn : T.fn 284 = some ir284
  pr : T.prim 284 = none
/-- motley/motleyref01.Text -/
def ir275 : AFunc := ⟨.seq (.region [
⟨(some 1),.w .box,[.t 0],none,[]⟩,
⟨(some 2),.p .mv,[.c (.str [])],none,[]⟩] false []) <|
 .seq (.seq (.region [
⟨(some 3),.p (.fa 0),[.t 1],none,[]⟩,
⟨(some 4),.r (.ld 1 false),[.t 3],none,[]⟩,
⟨(some 5),.p (.bin .eql),[.t 4,.c (.int .i64 1)],none,[]⟩] false []) <|
 .cond (.t 5) (.seq (.region [
⟨(some 6),.p (.fa 1),[.t 1],none,[]⟩,
⟨(some 7),.r (.ld 1 false),[.t 6],none,[]⟩,
⟨(some 8),.w .call,[.c (.fn 284 [] []),.t 7],none,[]⟩,
⟨(some 2),.p .mv,[.t 8],none,[]⟩] false []) <|
 .ret) (.skip)) <|
 .seq (.region [
⟨(some 9),.p (.fa 2),[.t 1],none,[]⟩,
⟨(some 10),.r (.ld 1 false),[.t 9],none,[]⟩,
⟨(some 2),.p .mv,[.t 10],none,[]⟩] false []) <|
 .ret, [.tmp 2]⟩
structure D275 (T : Tab) : Prop where
  fn : T.fn 275 = some ir275
  pr : T.prim 275 = none
  d284 : D284 T
/-- motley/motleyref01.IsTrue -/
def ir276 : AFunc := ⟨.seq (.region [
⟨(some 1),.w .box,[.t 0],none,[]⟩,
⟨(some 2),.p .mv,[.c (.bool false)],none,[]⟩] false []) <|
 .seq (.region [
⟨(some 4),.r (.ld 4 true),[.t 1],none,[]⟩,
⟨(some 5),.w .call,[.c (.fn 275 [] []),.t 4],none,[]⟩,
⟨(some 3),.p .mv,[.t 5],none,[]⟩] false []) <|
 .seq (.region [
⟨(some 6),.p .mv,[.t 3],none,[]⟩,
⟨(some 7),.p (.bin .neq),[.t 6,.c (.str [])],none,[]⟩,
⟨(some 8),.p .mv,[.t 7],none,[]⟩,
⟨(some 9),.p .mv,[.t 3],(some (8,true)),[]⟩,
⟨(some 10),.p (.bin .neq),[.t 9,.c (.str [48])],(some (8,true)),[]⟩,
⟨(some 11),.p .pick,[.t 8,.t 10,.c (.bool false)],none,[]⟩,
⟨(some 2),.p .mv,[.t 11],none,[]⟩] false []) <|
 .ret, [.tmp 2]⟩
structure D276 (T : Tab) : Prop where
  fn : T.fn 276 = some ir276
  pr : T.prim 276 = none
  d275 : D275 T
/-- motley/motleyref01.letter -/
def ir295 : AFunc := ⟨.seq (.region [
⟨(some 2),.p .mv,[.c (.bool false)],none,[]⟩] false []) <|
 .seq (.region [
⟨(some 3),.p .mv,[.t 0],none,[]⟩,
⟨(some 4),.p (.bin .leq),[.c (.int .u8 97),.t 3],none,[]⟩,
⟨(some 5),.p .mv,[.t 4],none,[]⟩,
⟨(some 6),.p .mv,[.t 0],(some (5,true)),[]⟩,
⟨(some 7),.p (.bin .leq),[.t 6,.c (.int .u8 122)],(some (5,true)),[]⟩,
⟨(some 8),.p .pick,[.t 5,.t 7,.c (.bool false)],none,[]⟩,
⟨(some 9),.p .mv,[.t 8],none,[]⟩,
⟨(some 10),.p .mv,[.t 0],(some (9,false)),[]⟩,
⟨(some 11),.p (.bin .leq),[.c (.int .u8 65),.t 10],(some (9,false)),[]⟩,
⟨(some 12),.p .mv,[.t 11],(some (9,false)),[]⟩,
⟨(some 13),.p .mv,[.t 0],(some (12,true)),[]⟩,
⟨(some 14),.p (.bin .leq),[.t 13,.c (.int .u8 90)],(some (12,true)),[]⟩,
⟨(some 15),.p .pick,[.t 12,.t 14,.c (.bool false)],(some (9,false)),[]⟩,
⟨(some 16),.p .pick,[.t 9,.c (.bool true),.t 15],none,[]⟩,
⟨(some 2),.p .mv,[.t 16],none,[]⟩] false []) <|
 .ret, [.tmp 2]⟩
structure D295 (T : Tab) : Prop where
  fn : T.fn 295 = some ir295
  pr : T.prim 295 = none
/-- motley/motleyref01.counts -/
def ir291 : AFunc := ⟨.seq (.region [
⟨(some 2),.p .mv,[.c (.bool false)],none,[]⟩] false []) <|
 .seq (.region [
⟨(some 3),.p .mv,[.c (.int .i64 0)],none,[]⟩] false []) <|
 .seq (.block 0 (.loop (.seq (.seq (.region [
⟨(some 4),.p .mv,[.t 3],none,[]⟩,
⟨(some 5),.p .mv,[.t 0],none,[]⟩,
⟨(some 6),.p .lenS,[.t 5],none,[]⟩,
⟨(some 7),.p (.bin .lss),[.t 4,.t 6],none,[]⟩,
⟨(some 8),.p .mv,[.t 7],none,[]⟩,
⟨(some 9),.p .mv,[.t 0],(some (8,true)),[]⟩,
⟨(some 10),.p .mv,[.t 3],(some (8,true)),[]⟩,
⟨(some 11),.p .idxS,[.t 9,.t 10],(some (8,true)),[]⟩,
⟨(some 12),.w .call,[.c (.fn 295 [] []),.t 11],(some (8,true)),[]⟩,
⟨(some 13),.p .pick,[.t 8,.t 12,.c (.bool false)],none,[]⟩] false []) <|
 .cond (.t 13) (.skip) (.exit 0)) <|
 .block 1 (.region [
⟨(some 14),.p .mv,[.t 3],none,[]⟩,
⟨(some 15),.p (.bin .add),[.t 14,.c (.int .i64 1)],none,[]⟩,
⟨(some 3),.p .mv,[.t 15],none,[]⟩] false [])))) <|
 .seq (.block 2 (.loop (.seq (.seq (.region [
⟨(some 16),.p .mv,[.t 3],none,[]⟩,
⟨(some 17),.p .mv,[.t 0],none,[]⟩,
⟨(some 18),.p .lenS,[.t 17],none,[]⟩,
⟨(some 19),.p (.bin .lss),[.t 16,.t 18],none,[]⟩,
⟨(some 20),.p .mv,[.t 19],none,[]⟩,
⟨(some 21),.p .mv,[.t 0],(some (20,true)),[]⟩,
⟨(some 22),.p .mv,[.t 3],(some (20,true)),[]⟩,
⟨(some 23),.p .idxS,[.t 21,.t 22],(some (20,true)),[]⟩,
⟨(some 24),.w .call,[.c (.fn 213 [] []),.t 23],(some (20,true)),[]⟩,
⟨(some 25),.p .pick,[.t 20,.t 24,.c (.bool false)],none,[]⟩] false []) <|
 .cond (.t 25) (.skip) (.exit 2)) <|
 .block 3 (.region [
⟨(some 26),.p .mv,[.t 3],none,[]⟩,
⟨(some 27),.p (.bin .add),[.t 26,.c (.int .i64 1)],none,[]⟩,
⟨(some 3),.p .mv,[.t 27],none,[]⟩] false [])))) <|
 .seq (.region [
⟨(some 28),.p .mv,[.t 0],none,[]⟩,
⟨(some 29),.p (.bin .neq),[.t 28,.c (.str [])],none,[]⟩,
⟨(some 30),.p .mv,[.t 29],none,[]⟩,
⟨(some 31),.p .mv,[.t 3],(some (30,true)),[]⟩,
⟨(some 32),.p .mv,[.t 0],(some (30,true)),[]⟩,
⟨(some 33),.p .lenS,[.t 32],(some (30,true)),[]⟩,
⟨(some 34),.p (.bin .eql),[.t 31,.t 33],(some (30,true)),[]⟩,
⟨(some 35),.p .pick,[.t 30,.t 34,.c (.bool false)],none,[]⟩,
⟨(some 2),.p .mv,[.t 35],none,[]⟩] false []) <|
 .ret, [.tmp 2]⟩
structure D291 (T : Tab) : Prop where
  fn : T.fn 291 = some ir291
  pr : T.prim 291 = none
  d295 : D295 T
  d213 : D213 T
/-- motley/motleyref01.further -/
def ir285 : AFunc := ⟨.seq (.region [
⟨(some 2),.p .mv,[.c (.str [])],none,[]⟩] false []) <|
 .seq (.seq (.region [
⟨(some 5),.p .mv,[.t 0],none,[]⟩,
⟨(some 6),.w .call,[.c (.fn 291 [] []),.t 5],none,[]⟩,
⟨(some 7),.p (.un .not),[.t 6],none,[]⟩] false []) <|
 .cond (.t 7) (.seq (.region [
⟨(some 8),.p .mv,[.t 0],none,[]⟩,
⟨(some 9),.w .call,[.c (.fn 187 [] []),.t 8],none,[]⟩,
⟨(some 10),.p (.bin .add),[.t 9,.c (.int .i64 1)],none,[]⟩,
⟨(some 11),.p .min,[.t 10,.c (.int .i64 9007199254740992)],none,[]⟩,
⟨(some 12),.w .call,[.c (.fn 284 [] []),.t 11],none,[]⟩,
⟨(some 2),.p .mv,[.t 12],none,[]⟩] false []) <|
 .ret) (.skip)) <|
 .seq (.region [
⟨(some 13),.p .mv,[.t 0],none,[]⟩,
⟨(some 14),.p .mv,[.t 0],none,[]⟩,
⟨(some 15),.p .lenS,[.t 14],none,[]⟩,
⟨(some 16),.p (.bin .sub),[.t 15,.c (.int .i64 1)],none,[]⟩,
⟨(some 17),.p .idxS,[.t 13,.t 16],none,[]⟩,
⟨(some 3),.p .mv,[.t 17],none,[]⟩] false []) <|
 .seq (.region [
⟨(some 4),.p .mv,[.c (.str [])],none,[]⟩] false []) <|
 .seq (.seq (.region [
⟨(some 18),.p .mv,[.t 3],none,[]⟩] false []) <|
 .block 0 (.seq (.region [
⟨(some 20),.p (.bin .eql),[.t 18,.c (.int .u8 122)],none,[]⟩,
⟨(some 19),.p .mv,[.t 20],none,[]⟩] false []) <|
 .cond (.t 19) (.region [
⟨(some 4),.p .mv,[.c (.str [97])],none,[]⟩] false []) (.seq (.region [
⟨(some 22),.p (.bin .eql),[.t 18,.c (.int .u8 90)],none,[]⟩,
⟨(some 21),.p .mv,[.t 22],none,[]⟩] false []) <|
 .cond (.t 21) (.region [
⟨(some 4),.p .mv,[.c (.str [65])],none,[]⟩] false []) (.seq (.region [
⟨(some 24),.p (.bin .eql),[.t 18,.c (.int .u8 57)],none,[]⟩,
⟨(some 23),.p .mv,[.t 24],none,[]⟩] false []) <|
 .cond (.t 23) (.region [
⟨(some 4),.p .mv,[.c (.str [48])],none,[]⟩] false []) (.skip))))) <|
 .seq (.seq (.region [
⟨(some 25),.p .mv,[.t 4],none,[]⟩,
⟨(some 26),.p (.bin .eql),[.t 25,.c (.str [])],none,[]⟩] false []) <|
 .cond (.t 26) (.seq (.region [
⟨(some 27),.p .mv,[.t 0],none,[]⟩,
⟨(some 28),.p .mv,[.t 0],none,[]⟩,
⟨(some 29),.p .lenS,[.t 28],none,[]⟩,
⟨(some 30),.p (.bin .sub),[.t 29,.c (.int .i64 1)],none,[]⟩,
⟨(some 31),.p (.slS false true),[.t 27,.t 30],none,[]⟩,
⟨(some 32),.p .mv,[.t 3],none,[]⟩,
⟨(some 33),.p (.bin .add),[.t 32,.c (.int .u8 1)],none,[]⟩,
⟨(some 34),.p (.conv .i32),[.t 33],none,[]⟩,
⟨(some 35),.p .i2s,[.t 34],none,[]⟩,
⟨(some 36),.p (.bin .add),[.t 31,.t 35],none,[]⟩,
⟨(some 2),.p .mv,[.t 36],none,[]⟩] false []) <|
 .ret) (.skip)) <|
 .seq (.seq (.region [
⟨(some 37),.p .mv,[.t 0],none,[]⟩,
⟨(some 38),.p .lenS,[.t 37],none,[]⟩,
⟨(some 39),.p (.bin .eql),[.t 38,.c (.int .i64 1)],none,[]⟩] false []) <|
 .cond (.t 39) (.seq (.seq (.region [
⟨(some 40),.p .mv,[.t 3],none,[]⟩,
⟨(some 41),.p (.bin .eql),[.t 40,.c (.int .u8 57)],none,[]⟩] false []) <|
 .cond (.t 41) (.seq (.region [
⟨(some 42),.p .mv,[.t 4],none,[]⟩,
⟨(some 43),.p (.bin .add),[.c (.str [49]),.t 42],none,[]⟩,
⟨(some 2),.p .mv,[.t 43],none,[]⟩] false []) <|
 .ret) (.skip)) <|
 .seq (.region [
⟨(some 44),.p .mv,[.t 4],none,[]⟩,
⟨(some 45),.p .mv,[.t 4],none,[]⟩,
⟨(some 46),.p (.bin .add),[.t 44,.t 45],none,[]⟩,
⟨(some 2),.p .mv,[.t 46],none,[]⟩] false []) <|
 .ret) (.skip)) <|
 .seq (.region [
⟨(some 47),.p .mv,[.t 0],none,[]⟩,
⟨(some 48),.p .mv,[.t 0],none,[]⟩,
⟨(some 49),.p .lenS,[.t 48],none,[]⟩,
⟨(some 50),.p (.bin .sub),[.t 49,.c (.int .i64 1)],none,[]⟩,
⟨(some 51),.p (.slS false true),[.t 47,.t 50],none,[]⟩,
⟨(some 52),.w .call,[.c (.fn 285 [] []),.t 51],none,[]⟩,
⟨(some 53),.p .mv,[.t 4],none,[]⟩,
⟨(some 54),.p (.bin .add),[.t 52,.t 53],none,[]⟩,
⟨(some 2),.p .mv,[.t 54],none,[]⟩] false []) <|
 .ret, [.tmp 2]⟩
structure D285 (T : Tab) : Prop where
  fn : T.fn 285 = some ir285
  pr : T.prim 285 = none
  d291 : D291 T
  d187 : D187 T
  d284 : D284 T
/-- motley/motleyref01.Next -/
def ir277 : AFunc := ⟨.seq (.region [
⟨(some 2),.p .mv,[.c (.str [])],none,[]⟩,
⟨(some 3),.p .mv,[.c (.int .i64 0)],none,[]⟩] false []) <|
 .seq (.seq (.region [
⟨(some 5),.p .mv,[.t 0],none,[]⟩,
⟨(some 6),.p .lenS,[.t 5],none,[]⟩,
⟨(some 7),.p (.bin .gtr),[.t 6,.c (.int .i64 4096)],none,[]⟩] false []) <|
 .cond (.t 7) (.seq (.region [
⟨(some 2),.p .mv,[.c (.str [])],none,[]⟩,
⟨(some 3),.p .mv,[.c (.int .i64 3)],none,[]⟩] false []) <|
 .ret) (.skip)) <|
 .seq (.region [
⟨(some 8),.p .mv,[.t 0],none,[]⟩,
⟨(some 9),.w .call,[.c (.fn 285 [] []),.t 8],none,[]⟩,
⟨(some 4),.p .mv,[.t 9],none,[]⟩] false []) <|
 .seq (.seq (.region [
⟨(some 10),.p .mv,[.t 4],none,[]⟩,
⟨(some 11),.p .lenS,[.t 10],none,[]⟩,
⟨(some 12),.p (.bin .gtr),[.t 11,.c (.int .i64 4096)],none,[]⟩] false []) <|
 .cond (.t 12) (.seq (.region [
⟨(some 2),.p .mv,[.c (.str [])],none,[]⟩,
⟨(some 3),.p .mv,[.c (.int .i64 3)],none,[]⟩] false []) <|
 .ret) (.skip)) <|
 .seq (.region [
⟨(some 13),.p .mv,[.t 4],none,[]⟩,
⟨(some 2),.p .mv,[.t 13],none,[]⟩,
⟨(some 3),.p .mv,[.c (.int .i64 0)],none,[]⟩] false []) <|
 .ret, [.tmp 2,.tmp 3]⟩
structure D277 (T : Tab) : Prop where
  fn : T.fn 277 = some ir277
  pr : T.prim 277 = none
  d285 : D285 T
/-- motley/motleyref01.spelled -/
def ir288 : AFunc := ⟨.seq (.region [
⟨(some 4),.p .mv,[.c (.str [])],none,[]⟩] false []) <|
 .seq (.region [
⟨(some 6),.p .mv,[.t 0],none,[]⟩,
⟨(some 7),.p .mv,[.t 1],none,[]⟩,
⟨(some 8),.p (.bin .rem),[.t 6,.t 7],none,[]⟩,
⟨(some 9),.p .mv,[.t 0],none,[]⟩,
⟨(some 10),.p .mv,[.t 1],none,[]⟩,
⟨(some 11),.p (.bin .rem),[.t 9,.t 10],none,[]⟩,
⟨(some 12),.p (.bin .add),[.t 11,.c (.int .i64 1)],none,[]⟩,
⟨(some 13),.p (.slS true true),[.c (.str [48,49,50,51,52,53,54,55,56,57,97,98,99,100,101,102]),.t 8,.t 12],none,[]⟩,
⟨(some 5),.p .mv,[.t 13],none,[]⟩] true []) <|
 .seq (.seq (.region [
⟨(some 14),.p .mv,[.t 0],none,[]⟩,
⟨(some 15),.p .mv,[.t 1],none,[]⟩,
⟨(some 16),.p (.bin .lss),[.t 14,.t 15],none,[]⟩] false []) <|
 .cond (.t 16) (.seq (.region [
⟨(some 17),.p .mv,[.t 5],none,[]⟩,
⟨(some 4),.p .mv,[.t 17],none,[]⟩] false []) <|
 .ret) (.skip)) <|
 .seq (.region [
⟨(some 18),.p .mv,[.t 0],none,[]⟩,
⟨(some 19),.p .mv,[.t 1],none,[]⟩,
⟨(some 20),.p (.bin .quo),[.t 18,.t 19],none,[]⟩,
⟨(some 21),.p .mv,[.t 1],none,[]⟩,
⟨(some 22),.w .call,[.c (.fn 288 [] []),.t 20,.t 21],none,[]⟩,
⟨(some 23),.p .mv,[.t 5],none,[]⟩,
⟨(some 24),.p (.bin .add),[.t 22,.t 23],none,[]⟩,
⟨(some 4),.p .mv,[.t 24],none,[]⟩] false []) <|
 .ret, [.tmp 4]⟩
structure D288 (T : Tab) : Prop where
  fn : T.fn 288 = some ir288
  pr : T.prim 288 = none
/-- motley/motleyref01.Spell -/
def ir279 : AFunc := ⟨.seq (.region [
⟨(some 4),.p .mv,[.c (.str [])],none,[]⟩,
⟨(some 5),.p .mv,[.c (.int .i64 0)],none,[]⟩] false []) <|
 .seq (.seq (.region [
⟨(some 9),.p .mv,[.t 1],none,[]⟩,
⟨(some 10),.p (.bin .neq),[.t 9,.c (.int .i64 2)],none,[]⟩,
⟨(some 11),.p .mv,[.t 10],none,[]⟩,
⟨(some 12),.p .mv,[.t 1],(some (11,true)),[]⟩,
⟨(some 13),.p (.bin .neq),[.t 12,.c (.int .i64 8)],(some (11,true)),[]⟩,
⟨(some 14),.p .pick,[.t 11,.t 13,.c (.bool false)],none,[]⟩,
⟨(some 15),.p .mv,[.t 14],none,[]⟩,
⟨(some 16),.p .mv,[.t 1],(some (15,true)),[]⟩,
⟨(some 17),.p (.bin .neq),[.t 16,.c (.int .i64 10)],(some (15,true)),[]⟩,
⟨(some 18),.p .pick,[.t 15,.t 17,.c (.bool false)],none,[]⟩,
⟨(some 19),.p .mv,[.t 18],none,[]⟩,
⟨(some 20),.p .mv,[.t 1],(some (19,true)),[]⟩,
⟨(some 21),.p (.bin .neq),[.t 20,.c (.int .i64 16)],(some (19,true)),[]⟩,
⟨(some 22),.p .pick,[.t 19,.t 21,.c (.bool false)],none,[]⟩,
⟨(some 23),.p .mv,[.t 22],none,[]⟩,
⟨(some 24),.p .mv,[.t 0],(some (23,false)),[]⟩,
⟨(some 25),.w .call,[.c (.fn 165 [] []),.t 24],(some (23,false)),[]⟩,
⟨(some 26),.p (.un .not),[.t 25],(some (23,false)),[]⟩,
⟨(some 27),.p .pick,[.t 23,.c (.bool true),.t 26],none,[]⟩] false []) <|
 .cond (.t 27) (.seq (.region [
⟨(some 4),.p .mv,[.c (.str [])],none,[]⟩,
⟨(some 5),.p .mv,[.c (.int .i64 1)],none,[]⟩] false []) <|
 .ret) (.skip)) <|
 .seq (.seq (.region [
⟨(some 28),.p .mv,[.t 0],none,[]⟩,
⟨(some 29),.p (.bin .lss),[.t 28,.c (.int .i64 0)],none,[]⟩] false []) <|
 .cond (.t 29) (.seq (.region [
⟨(some 31),.p .mv,[.t 0],none,[]⟩,
⟨(some 32),.p (.un .neg),[.t 31],none,[]⟩,
⟨(some 33),.p .mv,[.t 1],none,[]⟩,
⟨(some 34),.w .call,[.c (.fn 279 [] []),.t 32,.t 33],none,[]⟩,
⟨(some 30),.p .mv,[.t 34],none,[]⟩,
⟨(some 35),.p (.ext 0),[.t 30],none,[]⟩,
⟨(some 36),.p (.ext 1),[.t 30],none,[]⟩,
⟨(some 6),.p .mv,[.t 35],none,[]⟩,
⟨(some 7),.p .mv,[.t 36],none,[]⟩] false []) <|
 .seq (.region [
⟨(some 37),.p .mv,[.t 6],none,[]⟩,
⟨(some 38),.p (.bin .add),[.c (.str [45]),.t 37],none,[]⟩,
⟨(some 4),.p .mv,[.t 38],none,[]⟩,
⟨(some 5),.p .mv,[.c (.int .i64 0)],none,[]⟩] false []) <|
 .ret) (.skip)) <|
 .seq (.region [
⟨(some 8),.p .mv,[.c (.str [])],none,[]⟩] false []) <|
 .seq (.seq (.region [
⟨(some 39),.p .mv,[.t 1],none,[]⟩] false []) <|
 .block 0 (.seq (.region [
⟨(some 41),.p (.bin .eql),[.t 39,.c (.int .i64 2)],none,[]⟩,
⟨(some 40),.p .mv,[.t 41],none,[]⟩] false []) <|
 .cond (.t 40) (.region [
⟨(some 8),.p .mv,[.c (.str [48,98])],none,[]⟩] false []) (.seq (.region [
⟨(some 43),.p (.bin .eql),[.t 39,.c (.int .i64 16)],none,[]⟩,
⟨(some 42),.p .mv,[.t 43],none,[]⟩] false []) <|
 .cond (.t 42) (.region [
⟨(some 8),.p .mv,[.c (.str [48,120])],none,[]⟩] false []) (.seq (.region [
⟨(some 45),.p (.bin .eql),[.t 39,.c (.int .i64 8)],none,[]⟩,
⟨(some 44),.p .mv,[.t 45],none,[]⟩] false []) <|
 .cond (.t 44) (.seq (.region [
⟨(some 46),.p .mv,[.t 0],none,[]⟩,
⟨(some 47),.p (.bin .gtr),[.t 46,.c (.int .i64 0)],none,[]⟩] false []) <|
 .cond (.t 47) (.region [
⟨(some 8),.p .mv,[.c (.str [48])],none,[]⟩] false []) (.skip)) (.skip))))) <|
 .seq (.region [
⟨(some 48),.p .mv,[.t 8],none,[]⟩,
⟨(some 49),.p .mv,[.t 0],none,[]⟩,
⟨(some 50),.p .mv,[.t 1],none,[]⟩,
⟨(some 51),.w .call,[.c (.fn 288 [] []),.t 49,.t 50],none,[]⟩,
⟨(some 52),.p (.bin .add),[.t 48,.t 51],none,[]⟩,
⟨(some 4),.p .mv,[.t 52],none,[]⟩,
⟨(some 5),.p .mv,[.c (.int .i64 0)],none,[]⟩] false []) <|
 .ret, [.tmp 4,.tmp 5]⟩
structure D279 (T : Tab) : Prop where
  fn : T.fn 279 = some ir279
  pr : T.prim 279 = none
  d165 : D165 T
  d288 : D288 T
/-- motley/motleyref01.Range -/
def ir281 : AFunc := ⟨.seq (.region [
⟨(some 4),.p .mv,[.c (.slc none 0 0 none)],none,[]⟩,
⟨(some 5),.p .mv,[.c (.int .i64 0)],none,[]⟩] false []) <|
 .seq (.seq (.region [
⟨(some 8),.p .mv,[.t 0],none,[]⟩,
⟨(some 9),.p .lenS,[.t 8],none,[]⟩,
⟨(some 10),.p (.bin .gtr),[.t 9,.c (.int .i64 4096)],none,[]⟩,
⟨(some 11),.p .mv,[.t 10],none,[]⟩,
⟨(some 12),.p .mv,[.t 1],(some (11,false)),[]⟩,
⟨(some 13),.p .lenS,[.t 12],(some (11,false)),[]⟩,
⟨(some 14),.p (.bin .gtr),[.t 13,.c (.int .i64 4096)],(some (11,false)),[]⟩,
⟨(some 15),.p .pick,[.t 11,.c (.bool true),.t 14],none,[]⟩] false []) <|
 .cond (.t 15) (.seq (.region [
⟨(some 4),.p .mv,[.c (.slc none 0 0 none)],none,[]⟩,
⟨(some 5),.p .mv,[.c (.int .i64 3)],none,[]⟩] false []) <|
 .ret) (.skip)) <|
 .seq (.region [
⟨(some 6),.p .mv,[.c (.slc none 0 0 none)],none,[]⟩] false []) <|
 .seq (.region [
⟨(some 16),.p .mv,[.t 0],none,[]⟩,
⟨(some 7),.p .mv,[.t 16],none,[]⟩] false []) <|
 .seq (.block 0 (.loop (.seq (.seq (.region [
⟨(some 17),.p .mv,[.t 7],none,[]⟩,
⟨(some 18),.p .lenS,[.t 17],none,[]⟩,
⟨(some 19),.p .mv,[.t 1],none,[]⟩,
⟨(some 20),.p .lenS,[.t 19],none,[]⟩,
⟨(some 21),.p (.bin .leq),[.t 18,.t 20],none,[]⟩] false []) <|
 .cond (.t 21) (.skip) (.exit 0)) <|
 .block 1 (.seq (.seq (.region [
⟨(some 22),.p .mv,[.t 6],none,[]⟩,
⟨(some 23),.p .len,[.t 22],none,[]⟩,
⟨(some 24),.p (.bin .eql),[.t 23,.c (.int .i64 200)],none,[]⟩] false []) <|
 .cond (.t 24) (.seq (.region [
⟨(some 4),.p .mv,[.c (.slc none 0 0 none)],none,[]⟩,
⟨(some 5),.p .mv,[.c (.int .i64 3)],none,[]⟩] false []) <|
 .ret) (.skip)) <|
 .seq (.region [
⟨(some 25),.p .mv,[.t 6],none,[]⟩,
⟨(some 26),.p .mv,[.t 7],none,[]⟩,
⟨(some 27),.w (.bsl 1 1 [(.str [])] [(0,1)]),[.t 26],none,[]⟩,
⟨(some 28),.w (.app 1 16),[.t 25,.t 27],none,[]⟩,
⟨(some 6),.p .mv,[.t 28],none,[]⟩] false []) <|
 .seq (.seq (.region [
⟨(some 29),.p .mv,[.t 7],none,[]⟩,
⟨(some 30),.p .mv,[.t 1],none,[]⟩,
⟨(some 31),.p (.bin .eql),[.t 29,.t 30],none,[]⟩] false []) <|
 .cond (.t 31) (.seq (.region [
⟨(some 32),.p .mv,[.t 6],none,[]⟩,
⟨(some 4),.p .mv,[.t 32],none,[]⟩,
⟨(some 5),.p .mv,[.c (.int .i64 0)],none,[]⟩] false []) <|
 .ret) (.skip)) <|
 .region [
⟨(some 33),.p .mv,[.t 7],none,[]⟩,
⟨(some 34),.w .call,[.c (.fn 285 [] []),.t 33],none,[]⟩,
⟨(some 7),.p .mv,[.t 34],none,[]⟩] false [])))) <|
 .seq (.region [
⟨(some 35),.p .mv,[.t 6],none,[]⟩,
⟨(some 4),.p .mv,[.t 35],none,[]⟩,
⟨(some 5),.p .mv,[.c (.int .i64 0)],none,[]⟩] false []) <|
 .ret, [.tmp 4,.tmp 5]⟩
structure D281 (T : Tab) : Prop where
  fn : T.fn 281 = some ir281
  pr : T.prim 281 = none
  d285 : D285 T
end Go.Am
