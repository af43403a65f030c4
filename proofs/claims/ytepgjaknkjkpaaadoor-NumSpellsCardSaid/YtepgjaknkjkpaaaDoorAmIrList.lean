/- Texts of functions for the small machine, printed by mkfile.py out of the compiled functions, and for each what a table has to hold. -/
import Derived.Test.YtepgjaknkjkpaaaDoorAmPrimFD
import Derived.Test.YtepgjaknkjkpaaaDoorAmIrNum
set_option linter.unusedVariables false
namespace Go.Am
/-- motley/list.tooLong -/
def ir148 : AFunc := ⟨.seq (.region [
⟨(some 2),.p .mv,[.c (.int .i64 0)],none,[]⟩] false []) <|
 .seq (.seq (.region [
⟨(some 3),.p .mv,[.t 0],none,[]⟩,
⟨(some 4),.p (.bin .gtr),[.t 3,.c (.int .i64 200)],none,[]⟩] false []) <|
 .cond (.t 4) (.seq (.region [
⟨(some 2),.p .mv,[.c (.int .i64 3)],none,[]⟩] false []) <|
 .ret) (.skip)) <|
 .seq (.region [
⟨(some 2),.p .mv,[.c (.int .i64 0)],none,[]⟩] false []) <|
 .ret, [.tmp 2]⟩
structure D148 (T : Tab) : Prop where
  fn : T.fn 148 = some ir148
  pr : T.prim 148 = none
/-- motley/list.Sort$1 -/
def ir150 : AFunc := ⟨.seq (.region [
⟨(some 6),.p .mv,[.c (.int .i64 0)],none,[]⟩] false []) <|
 .seq (.region [
⟨(some 7),.r (.ld 1 false),[.t 2],none,[]⟩,
⟨(some 8),.p (.bin .add),[.t 7,.c (.int .i64 1)],none,[]⟩,
⟨none,.w (.st 1),[.t 2,.t 8],none,[]⟩] false []) <|
 .seq (.seq (.region [
⟨(some 9),.r (.ld 1 false),[.t 2],none,[]⟩,
⟨(some 10),.r (.ld 1 false),[.t 3],none,[]⟩,
⟨(some 11),.p .len,[.t 10],none,[]⟩,
⟨(some 12),.p (.bin .gtr),[.t 9,.t 11],none,[]⟩] false []) <|
 .cond (.t 12) (.seq (.region [
⟨(some 6),.p .mv,[.c (.int .i64 0)],none,[]⟩] false []) <|
 .ret) (.skip)) <|
 .seq (.region [
⟨(some 13),.r (.ld 1 false),[.t 3],none,[]⟩,
⟨(some 14),.r (.ld 1 false),[.t 2],none,[]⟩,
⟨(some 15),.p (.bin .sub),[.t 14,.c (.int .i64 1)],none,[]⟩,
⟨(some 16),.p (.ia 1),[.t 13,.t 15],none,[]⟩,
⟨(some 17),.r (.ld 1 false),[.t 16],none,[]⟩,
⟨(some 6),.p .mv,[.t 17],none,[]⟩] false []) <|
 .ret, [.tmp 6]⟩
structure D150 (T : Tab) : Prop where
  fn : T.fn 150 = some ir150
  pr : T.prim 150 = none
/-- motley/list.merged[int] -/
def ir149 : AFunc := ⟨.seq (.region [
⟨(some 4),.p .mv,[.c (.slc none 0 0 none)],none,[]⟩] false []) <|
 .seq (.seq (.region [
⟨(some 9),.p .mv,[.t 0],none,[]⟩,
⟨(some 10),.p .len,[.t 9],none,[]⟩,
⟨(some 11),.p (.bin .lss),[.t 10,.c (.int .i64 2)],none,[]⟩] false []) <|
 .cond (.t 11) (.seq (.region [
⟨(some 12),.p .mv,[.t 0],none,[]⟩,
⟨(some 13),.w .call,[.c (.fn 173 [] []),.t 12],none,[]⟩,
⟨(some 4),.p .mv,[.t 13],none,[]⟩] false []) <|
 .ret) (.skip)) <|
 .seq (.region [
⟨(some 14),.p .mv,[.t 0],none,[]⟩,
⟨(some 15),.p .len,[.t 14],none,[]⟩,
⟨(some 16),.p (.bin .quo),[.t 15,.c (.int .i64 2)],none,[]⟩,
⟨(some 5),.p .mv,[.t 16],none,[]⟩] false []) <|
 .seq (.region [
⟨(some 17),.p .mv,[.t 0],none,[]⟩,
⟨(some 18),.p .mv,[.t 5],none,[]⟩,
⟨(some 19),.p (.sl 1 false true false),[.t 17,.t 18],none,[]⟩,
⟨(some 20),.p .mv,[.t 1],none,[]⟩,
⟨(some 21),.w .call,[.c (.fn 149 [] []),.t 19,.t 20],none,[]⟩,
⟨(some 22),.p .mv,[.t 0],none,[]⟩,
⟨(some 23),.p .mv,[.t 5],none,[]⟩,
⟨(some 24),.p (.sl 1 true false false),[.t 22,.t 23],none,[]⟩,
⟨(some 25),.p .mv,[.t 1],none,[]⟩,
⟨(some 26),.w .call,[.c (.fn 149 [] []),.t 24,.t 25],none,[]⟩,
⟨(some 6),.p .mv,[.t 21],none,[]⟩,
⟨(some 7),.p .mv,[.t 26],none,[]⟩] true []) <|
 .seq (.region [
⟨(some 8),.p .mv,[.c (.slc none 0 0 none)],none,[]⟩] false []) <|
 .seq (.block 0 (.loop (.seq (.seq (.region [
⟨(some 27),.p .mv,[.t 6],none,[]⟩,
⟨(some 28),.p .len,[.t 27],none,[]⟩,
⟨(some 29),.p (.bin .gtr),[.t 28,.c (.int .i64 0)],none,[]⟩,
⟨(some 30),.p .mv,[.t 29],none,[]⟩,
⟨(some 31),.p .mv,[.t 7],(some (30,true)),[]⟩,
⟨(some 32),.p .len,[.t 31],(some (30,true)),[]⟩,
⟨(some 33),.p (.bin .gtr),[.t 32,.c (.int .i64 0)],(some (30,true)),[]⟩,
⟨(some 34),.p .pick,[.t 30,.t 33,.c (.bool false)],none,[]⟩] false []) <|
 .cond (.t 34) (.skip) (.exit 0)) <|
 .block 1 (.seq (.region [
⟨(some 35),.p .mv,[.t 1],none,[]⟩,
⟨(some 36),.p .mv,[.t 6],none,[]⟩,
⟨(some 37),.p (.ia 1),[.t 36,.c (.int .i64 0)],none,[]⟩,
⟨(some 38),.r (.ld 1 false),[.t 37],none,[]⟩,
⟨(some 39),.p .mv,[.t 7],none,[]⟩,
⟨(some 40),.p (.ia 1),[.t 39,.c (.int .i64 0)],none,[]⟩,
⟨(some 41),.r (.ld 1 false),[.t 40],none,[]⟩,
⟨(some 42),.w .call,[.t 35,.t 38,.t 41],none,[]⟩,
⟨(some 43),.p (.bin .gtr),[.t 42,.c (.int .i64 0)],none,[]⟩] true []) <|
 .cond (.t 43) (.region [
⟨(some 44),.p .mv,[.t 8],none,[]⟩,
⟨(some 45),.p .mv,[.t 7],none,[]⟩,
⟨(some 46),.p (.ia 1),[.t 45,.c (.int .i64 0)],none,[]⟩,
⟨(some 47),.r (.ld 1 false),[.t 46],none,[]⟩,
⟨(some 48),.w (.bsl 1 1 [(.int .i64 0)] [(0,1)]),[.t 47],none,[]⟩,
⟨(some 49),.w (.app 1 8),[.t 44,.t 48],none,[]⟩,
⟨(some 50),.p .mv,[.t 7],none,[]⟩,
⟨(some 51),.p (.sl 1 true false false),[.t 50,.c (.int .i64 1)],none,[]⟩,
⟨(some 8),.p .mv,[.t 49],none,[]⟩,
⟨(some 7),.p .mv,[.t 51],none,[]⟩] true []) (.region [
⟨(some 52),.p .mv,[.t 8],none,[]⟩,
⟨(some 53),.p .mv,[.t 6],none,[]⟩,
⟨(some 54),.p (.ia 1),[.t 53,.c (.int .i64 0)],none,[]⟩,
⟨(some 55),.r (.ld 1 false),[.t 54],none,[]⟩,
⟨(some 56),.w (.bsl 1 1 [(.int .i64 0)] [(0,1)]),[.t 55],none,[]⟩,
⟨(some 57),.w (.app 1 8),[.t 52,.t 56],none,[]⟩,
⟨(some 58),.p .mv,[.t 6],none,[]⟩,
⟨(some 59),.p (.sl 1 true false false),[.t 58,.c (.int .i64 1)],none,[]⟩,
⟨(some 8),.p .mv,[.t 57],none,[]⟩,
⟨(some 6),.p .mv,[.t 59],none,[]⟩] true []))))) <|
 .seq (.region [
⟨(some 60),.p .mv,[.t 8],none,[]⟩,
⟨(some 61),.p .mv,[.t 6],none,[]⟩,
⟨(some 62),.w (.app 1 8),[.t 60,.t 61],none,[]⟩,
⟨(some 63),.p .mv,[.t 7],none,[]⟩,
⟨(some 64),.w (.app 1 8),[.t 62,.t 63],none,[]⟩,
⟨(some 4),.p .mv,[.t 64],none,[]⟩] false []) <|
 .ret, [.tmp 4]⟩
structure D149 (T : Tab) : Prop where
  fn : T.fn 149 = some ir149
  pr : T.prim 149 = none
  d173 : D173 T
/-- motley/list.Sort -/
def ir113 : AFunc := ⟨.seq (.region [
⟨(some 3),.w .box,[.t 1],none,[]⟩,
⟨(some 4),.p .mv,[.c (.slc none 0 0 none)],none,[]⟩,
⟨(some 5),.p .mv,[.c (.int .i64 0)],none,[]⟩,
⟨(some 6),.p .mv,[.c (.int .i64 0)],none,[]⟩] false []) <|
 .seq (.seq (.region [
⟨(some 12),.p .mv,[.t 0],none,[]⟩,
⟨(some 13),.p (.bin .lss),[.t 12,.c (.int .i64 0)],none,[]⟩] false []) <|
 .cond (.t 13) (.seq (.region [
⟨(some 4),.p .mv,[.c (.slc none 0 0 none)],none,[]⟩,
⟨(some 5),.p .mv,[.c (.int .i64 0)],none,[]⟩,
⟨(some 6),.p .mv,[.c (.int .i64 1)],none,[]⟩] false []) <|
 .ret) (.skip)) <|
 .seq (.seq (.region [
⟨(some 14),.p .mv,[.t 0],none,[]⟩,
⟨(some 15),.w .call,[.c (.fn 148 [] []),.t 14],none,[]⟩,
⟨(some 7),.p .mv,[.t 15],none,[]⟩] false []) <|
 .seq (.region [
⟨(some 16),.p .mv,[.t 7],none,[]⟩,
⟨(some 17),.p (.bin .neq),[.t 16,.c (.int .i64 0)],none,[]⟩] false []) <|
 .cond (.t 17) (.seq (.region [
⟨(some 18),.p .mv,[.t 7],none,[]⟩,
⟨(some 4),.p .mv,[.c (.slc none 0 0 none)],none,[]⟩,
⟨(some 5),.p .mv,[.c (.int .i64 0)],none,[]⟩,
⟨(some 6),.p .mv,[.t 18],none,[]⟩] false []) <|
 .ret) (.skip)) <|
 .seq (.region [
⟨(some 8),.p .mv,[.c (.slc none 0 0 none)],none,[]⟩] false []) <|
 .seq (.seq (.region [
⟨(some 19),.p .mv,[.t 0],none,[]⟩,
⟨(some 20),.p .mv,[.c (.int .i64 0)],none,[]⟩] false []) <|
 .block 0 (.loop (.seq (.region [
⟨(some 21),.p (.bin .lss),[.t 20,.t 19],none,[]⟩] false []) <|
 .seq (.cond (.t 21) (.skip) (.exit 0)) <|
 .seq (.block 1 (.seq (.region [
⟨(some 22),.p .mv,[.t 20],none,[]⟩,
⟨(some 9),.p .mv,[.t 22],none,[]⟩] false []) <|
 .region [
⟨(some 23),.p .mv,[.t 8],none,[]⟩,
⟨(some 24),.p .mv,[.t 9],none,[]⟩,
⟨(some 25),.w (.bsl 1 1 [(.int .i64 0)] [(0,1)]),[.t 24],none,[]⟩,
⟨(some 26),.w (.app 1 8),[.t 23,.t 25],none,[]⟩,
⟨(some 8),.p .mv,[.t 26],none,[]⟩] false [])) <|
 .region [
⟨(some 27),.p (.bin .add),[.t 20,.c (.int .i64 1)],none,[]⟩,
⟨(some 20),.p .mv,[.t 27],none,[]⟩] false []))) <|
 .seq (.region [
⟨(some 10),.w .box,[.c (.int .i64 0)],none,[]⟩,
⟨none,.w (.st 1),[.t 10,.c (.int .i64 0)],none,[]⟩] false []) <|
 .seq (.region [
⟨(some 28),.p .mv,[.t 8],none,[]⟩,
⟨(some 29),.p (.mkF 150 0),[.t 10,.t 3],none,[]⟩,
⟨(some 30),.w .call,[.c (.fn 149 [] []),.t 28,.t 29],none,[]⟩,
⟨(some 11),.p .mv,[.t 30],none,[]⟩] false []) <|
 .seq (.region [
⟨(some 31),.p .mv,[.t 11],none,[]⟩,
⟨(some 32),.r (.ld 1 false),[.t 10],none,[]⟩,
⟨(some 4),.p .mv,[.t 31],none,[]⟩,
⟨(some 5),.p .mv,[.t 32],none,[]⟩,
⟨(some 6),.p .mv,[.c (.int .i64 0)],none,[]⟩] true []) <|
 .ret, [.tmp 4,.tmp 5,.tmp 6]⟩
structure D113 (T : Tab) : Prop where
  fn : T.fn 113 = some ir113
  pr : T.prim 113 = none
  d148 : D148 T
  d150 : D150 T
  d149 : D149 T
/-- motley/list.Slice -/
def ir116 : AFunc := ⟨.seq (.region [
⟨(some 4),.p .mv,[.c (.slc none 0 0 none)],none,[]⟩,
⟨(some 5),.p .mv,[.c (.int .i64 0)],none,[]⟩] false []) <|
 .seq (.seq (.region [
⟨(some 9),.p .mv,[.t 0],none,[]⟩,
⟨(some 10),.p .len,[.t 9],none,[]⟩,
⟨(some 11),.p (.bin .gtr),[.t 10,.c (.int .i64 200)],none,[]⟩,
⟨(some 12),.p .mv,[.t 11],none,[]⟩,
⟨(some 13),.p .mv,[.t 1],(some (12,false)),[]⟩,
⟨(some 14),.p .len,[.t 13],(some (12,false)),[]⟩,
⟨(some 15),.p (.bin .gtr),[.t 14,.c (.int .i64 200)],(some (12,false)),[]⟩,
⟨(some 16),.p .pick,[.t 12,.c (.bool true),.t 15],none,[]⟩] false []) <|
 .cond (.t 16) (.seq (.region [
⟨(some 4),.p .mv,[.c (.slc none 0 0 none)],none,[]⟩,
⟨(some 5),.p .mv,[.c (.int .i64 3)],none,[]⟩] false []) <|
 .ret) (.skip)) <|
 .seq (.region [
⟨(some 6),.p .mv,[.c (.slc none 0 0 none)],none,[]⟩] false []) <|
 .seq (.seq (.region [
⟨(some 17),.p .mv,[.t 1],none,[]⟩,
⟨(some 18),.p .len,[.t 17],none,[]⟩,
⟨(some 19),.p .mv,[.c (.int .i64 0)],none,[]⟩] false []) <|
 .block 0 (.loop (.seq (.region [
⟨(some 20),.p (.bin .lss),[.t 19,.t 18],none,[]⟩] false []) <|
 .seq (.cond (.t 20) (.skip) (.exit 0)) <|
 .seq (.block 1 (.seq (.region [
⟨(some 21),.p (.ia 1),[.t 17,.t 19],none,[]⟩,
⟨(some 22),.r (.ld 1 false),[.t 21],none,[]⟩,
⟨(some 8),.p .mv,[.t 22],none,[]⟩] false []) <|
 .seq (.seq (.region [
⟨(some 23),.p .mv,[.t 8],none,[]⟩,
⟨(some 24),.p (.bin .lss),[.t 23,.c (.int .i64 0)],none,[]⟩] false []) <|
 .cond (.t 24) (.region [
⟨(some 25),.p .mv,[.t 8],none,[]⟩,
⟨(some 26),.p .mv,[.t 0],none,[]⟩,
⟨(some 27),.p .len,[.t 26],none,[]⟩,
⟨(some 28),.p (.bin .add),[.t 25,.t 27],none,[]⟩,
⟨(some 8),.p .mv,[.t 28],none,[]⟩] false []) (.skip)) <|
 .seq (.region [
⟨(some 29),.p .mv,[.t 8],none,[]⟩,
⟨(some 30),.p (.bin .lss),[.t 29,.c (.int .i64 0)],none,[]⟩,
⟨(some 31),.p .mv,[.t 30],none,[]⟩,
⟨(some 32),.p .mv,[.t 8],(some (31,false)),[]⟩,
⟨(some 33),.p .mv,[.t 0],(some (31,false)),[]⟩,
⟨(some 34),.p .len,[.t 33],(some (31,false)),[]⟩,
⟨(some 35),.p (.bin .geq),[.t 32,.t 34],(some (31,false)),[]⟩,
⟨(some 36),.p .pick,[.t 31,.c (.bool true),.t 35],none,[]⟩] false []) <|
 .cond (.t 36) (.region [
⟨(some 37),.p .mv,[.t 6],none,[]⟩,
⟨(some 38),.p (.bld [(.int .i64 0),(.int .i64 0),(.str []),(.bool false)] []),[],none,[]⟩,
⟨(some 39),.w (.bsl 4 1 [(.int .i64 0),(.int .i64 0),(.str []),(.bool false)] [(0,4)]),[.t 38],none,[]⟩,
⟨(some 40),.w (.app 4 40),[.t 37,.t 39],none,[]⟩,
⟨(some 6),.p .mv,[.t 40],none,[]⟩] false []) (.region [
⟨(some 41),.p .mv,[.t 6],none,[]⟩,
⟨(some 42),.p .mv,[.t 0],none,[]⟩,
⟨(some 43),.p .mv,[.t 8],none,[]⟩,
⟨(some 44),.p (.ia 1),[.t 42,.t 43],none,[]⟩,
⟨(some 45),.r (.ld 1 false),[.t 44],none,[]⟩,
⟨(some 46),.p (.bld [(.int .i64 0),(.int .i64 0),(.str []),(.bool false)] [(0,1),(2,1)]),[.c (.int .i64 2),.t 45],none,[]⟩,
⟨(some 47),.w (.bsl 4 1 [(.int .i64 0),(.int .i64 0),(.str []),(.bool false)] [(0,4)]),[.t 46],none,[]⟩,
⟨(some 48),.w (.app 4 40),[.t 41,.t 47],none,[]⟩,
⟨(some 6),.p .mv,[.t 48],none,[]⟩] false []))) <|
 .region [
⟨(some 49),.p (.bin .add),[.t 19,.c (.int .i64 1)],none,[]⟩,
⟨(some 19),.p .mv,[.t 49],none,[]⟩] false []))) <|
 .seq (.region [
⟨(some 50),.p .mv,[.t 6],none,[]⟩,
⟨(some 4),.p .mv,[.t 50],none,[]⟩,
⟨(some 5),.p .mv,[.c (.int .i64 0)],none,[]⟩] false []) <|
 .ret, [.tmp 4,.tmp 5]⟩
structure D116 (T : Tab) : Prop where
  fn : T.fn 116 = some ir116
  pr : T.prim 116 = none
/-- motley/list.Parts -/
def ir120 : AFunc := ⟨.seq (.region [
⟨(some 4),.p .mv,[.c (.slc none 0 0 none)],none,[]⟩,
⟨(some 5),.p .mv,[.c (.slc none 0 0 none)],none,[]⟩,
⟨(some 6),.p .mv,[.c (.int .i64 0)],none,[]⟩] false []) <|
 .seq (.seq (.region [
⟨(some 11),.p .mv,[.t 0],none,[]⟩,
⟨(some 12),.p .len,[.t 11],none,[]⟩,
⟨(some 13),.p (.bin .gtr),[.t 12,.c (.int .i64 200)],none,[]⟩,
⟨(some 14),.p .mv,[.t 13],none,[]⟩,
⟨(some 15),.p .mv,[.t 1],(some (14,false)),[]⟩,
⟨(some 16),.p .len,[.t 15],(some (14,false)),[]⟩,
⟨(some 17),.p (.bin .gtr),[.t 16,.c (.int .i64 200)],(some (14,false)),[]⟩,
⟨(some 18),.p .pick,[.t 14,.c (.bool true),.t 17],none,[]⟩] false []) <|
 .cond (.t 18) (.seq (.region [
⟨(some 4),.p .mv,[.c (.slc none 0 0 none)],none,[]⟩,
⟨(some 5),.p .mv,[.c (.slc none 0 0 none)],none,[]⟩,
⟨(some 6),.p .mv,[.c (.int .i64 3)],none,[]⟩] false []) <|
 .ret) (.skip)) <|
 .seq (.seq (.region [
⟨(some 19),.p .mv,[.t 0],none,[]⟩,
⟨(some 20),.p .len,[.t 19],none,[]⟩,
⟨(some 21),.p .mv,[.t 1],none,[]⟩,
⟨(some 22),.p .len,[.t 21],none,[]⟩,
⟨(some 23),.p (.bin .neq),[.t 20,.t 22],none,[]⟩] false []) <|
 .cond (.t 23) (.seq (.region [
⟨(some 4),.p .mv,[.c (.slc none 0 0 none)],none,[]⟩,
⟨(some 5),.p .mv,[.c (.slc none 0 0 none)],none,[]⟩,
⟨(some 6),.p .mv,[.c (.int .i64 10)],none,[]⟩] false []) <|
 .ret) (.skip)) <|
 .seq (.region [
⟨(some 7),.p .mv,[.c (.slc none 0 0 none)],none,[]⟩,
⟨(some 8),.p .mv,[.c (.slc none 0 0 none)],none,[]⟩] false []) <|
 .seq (.seq (.region [
⟨(some 24),.p .mv,[.t 0],none,[]⟩,
⟨(some 25),.p .len,[.t 24],none,[]⟩,
⟨(some 26),.p .mv,[.c (.int .i64 0)],none,[]⟩] false []) <|
 .block 0 (.loop (.seq (.region [
⟨(some 27),.p (.bin .lss),[.t 26,.t 25],none,[]⟩] false []) <|
 .seq (.cond (.t 27) (.skip) (.exit 0)) <|
 .seq (.block 1 (.seq (.region [
⟨(some 28),.p .mv,[.t 26],none,[]⟩,
⟨(some 29),.p (.ia 1),[.t 24,.t 26],none,[]⟩,
⟨(some 30),.r (.ld 1 false),[.t 29],none,[]⟩,
⟨(some 9),.p .mv,[.t 28],none,[]⟩,
⟨(some 10),.p .mv,[.t 30],none,[]⟩] false []) <|
 .seq (.region [
⟨(some 31),.p .mv,[.t 1],none,[]⟩,
⟨(some 32),.p .mv,[.t 9],none,[]⟩,
⟨(some 33),.p (.ia 1),[.t 31,.t 32],none,[]⟩,
⟨(some 34),.r (.ld 1 false),[.t 33],none,[]⟩] false []) <|
 .cond (.t 34) (.region [
⟨(some 35),.p .mv,[.t 7],none,[]⟩,
⟨(some 36),.p .mv,[.t 10],none,[]⟩,
⟨(some 37),.w (.bsl 1 1 [(.str [])] [(0,1)]),[.t 36],none,[]⟩,
⟨(some 38),.w (.app 1 16),[.t 35,.t 37],none,[]⟩,
⟨(some 7),.p .mv,[.t 38],none,[]⟩] false []) (.region [
⟨(some 39),.p .mv,[.t 8],none,[]⟩,
⟨(some 40),.p .mv,[.t 10],none,[]⟩,
⟨(some 41),.w (.bsl 1 1 [(.str [])] [(0,1)]),[.t 40],none,[]⟩,
⟨(some 42),.w (.app 1 16),[.t 39,.t 41],none,[]⟩,
⟨(some 8),.p .mv,[.t 42],none,[]⟩] false []))) <|
 .region [
⟨(some 43),.p (.bin .add),[.t 26,.c (.int .i64 1)],none,[]⟩,
⟨(some 26),.p .mv,[.t 43],none,[]⟩] false []))) <|
 .seq (.region [
⟨(some 44),.p .mv,[.t 7],none,[]⟩,
⟨(some 45),.p .mv,[.t 8],none,[]⟩,
⟨(some 4),.p .mv,[.t 44],none,[]⟩,
⟨(some 5),.p .mv,[.t 45],none,[]⟩,
⟨(some 6),.p .mv,[.c (.int .i64 0)],none,[]⟩] false []) <|
 .ret, [.tmp 4,.tmp 5,.tmp 6]⟩
structure D120 (T : Tab) : Prop where
  fn : T.fn 120 = some ir120
  pr : T.prim 120 = none
/-- motley/list.Shuffle$1 -/
def ir152 : AFunc := ⟨.seq (.region [
⟨(some 2),.p .mv,[.c (.bool false)],none,[]⟩] false []) <|
 .seq (.region [
⟨(some 3),.p .mv,[.t 0],none,[]⟩,
⟨(some 4),.p (.bin .lss),[.t 3,.c (.int .i64 0)],none,[]⟩,
⟨(some 2),.p .mv,[.t 4],none,[]⟩] false []) <|
 .ret, [.tmp 2]⟩
structure D152 (T : Tab) : Prop where
  fn : T.fn 152 = some ir152
  pr : T.prim 152 = none
/-- motley/list.Shuffle -/
def ir121 : AFunc := ⟨.seq (.region [
⟨(some 4),.p .mv,[.c (.slc none 0 0 none)],none,[]⟩,
⟨(some 5),.p .mv,[.c (.int .i64 0)],none,[]⟩] false []) <|
 .seq (.seq (.region [
⟨(some 10),.p .mv,[.t 0],none,[]⟩,
⟨(some 11),.p .len,[.t 10],none,[]⟩,
⟨(some 12),.w .call,[.c (.fn 148 [] []),.t 11],none,[]⟩,
⟨(some 6),.p .mv,[.t 12],none,[]⟩] false []) <|
 .seq (.region [
⟨(some 13),.p .mv,[.t 6],none,[]⟩,
⟨(some 14),.p (.bin .neq),[.t 13,.c (.int .i64 0)],none,[]⟩] false []) <|
 .cond (.t 14) (.seq (.region [
⟨(some 15),.p .mv,[.t 6],none,[]⟩,
⟨(some 4),.p .mv,[.c (.slc none 0 0 none)],none,[]⟩,
⟨(some 5),.p .mv,[.t 15],none,[]⟩] false []) <|
 .ret) (.skip)) <|
 .seq (.seq (.region [
⟨(some 16),.p .mv,[.t 1],none,[]⟩,
⟨(some 17),.w .call,[.c (.fn 151 [] []),.t 16,.c (.fn 152 [] [])],none,[]⟩] false []) <|
 .cond (.t 17) (.seq (.region [
⟨(some 4),.p .mv,[.c (.slc none 0 0 none)],none,[]⟩,
⟨(some 5),.p .mv,[.c (.int .i64 1)],none,[]⟩] false []) <|
 .ret) (.skip)) <|
 .seq (.region [
⟨(some 18),.p .mv,[.t 0],none,[]⟩,
⟨(some 19),.w .call,[.c (.fn 153 [] []),.t 18],none,[]⟩,
⟨(some 7),.p .mv,[.t 19],none,[]⟩] false []) <|
 .seq (.seq (.region [
⟨(some 20),.p .mv,[.t 7],none,[]⟩,
⟨(some 21),.p .len,[.t 20],none,[]⟩,
⟨(some 22),.p (.bin .sub),[.t 21,.c (.int .i64 1)],none,[]⟩,
⟨(some 8),.p .mv,[.t 22],none,[]⟩] false []) <|
 .block 0 (.loop (.seq (.seq (.region [
⟨(some 23),.p .mv,[.t 8],none,[]⟩,
⟨(some 24),.p (.bin .gtr),[.t 23,.c (.int .i64 0)],none,[]⟩] false []) <|
 .cond (.t 24) (.skip) (.exit 0)) <|
 .seq (.block 1 (.seq (.region [
⟨(some 9),.p .mv,[.c (.int .i64 0)],none,[]⟩] false []) <|
 .seq (.seq (.region [
⟨(some 27),.p .mv,[.t 1],none,[]⟩,
⟨(some 28),.p .len,[.t 27],none,[]⟩,
⟨(some 29),.p (.bin .gtr),[.t 28,.c (.int .i64 0)],none,[]⟩] false []) <|
 .cond (.t 29) (.region [
⟨(some 30),.p .mv,[.t 1],none,[]⟩,
⟨(some 31),.p (.ia 1),[.t 30,.c (.int .i64 0)],none,[]⟩,
⟨(some 32),.r (.ld 1 false),[.t 31],none,[]⟩,
⟨(some 33),.p .mv,[.t 8],none,[]⟩,
⟨(some 34),.p (.bin .add),[.t 33,.c (.int .i64 1)],none,[]⟩,
⟨(some 35),.p (.bin .rem),[.t 32,.t 34],none,[]⟩,
⟨(some 36),.p .mv,[.t 1],none,[]⟩,
⟨(some 37),.p (.sl 1 true false false),[.t 36,.c (.int .i64 1)],none,[]⟩,
⟨(some 9),.p .mv,[.t 35],none,[]⟩,
⟨(some 1),.p .mv,[.t 37],none,[]⟩] true []) (.skip)) <|
 .region [
⟨(some 38),.p .mv,[.t 7],none,[]⟩,
⟨(some 39),.p .mv,[.t 8],none,[]⟩,
⟨(some 40),.p .mv,[.t 7],none,[]⟩,
⟨(some 41),.p .mv,[.t 9],none,[]⟩,
⟨(some 42),.p .mv,[.t 7],none,[]⟩,
⟨(some 43),.p .mv,[.t 9],none,[]⟩,
⟨(some 44),.p (.ia 1),[.t 42,.t 43],none,[]⟩,
⟨(some 45),.r (.ld 1 false),[.t 44],none,[]⟩,
⟨(some 46),.p .mv,[.t 7],none,[]⟩,
⟨(some 47),.p .mv,[.t 8],none,[]⟩,
⟨(some 48),.p (.ia 1),[.t 46,.t 47],none,[]⟩,
⟨(some 49),.r (.ld 1 false),[.t 48],none,[]⟩,
⟨(some 50),.p (.ia 1),[.t 38,.t 39],none,[]⟩,
⟨none,.w (.st 1),[.t 50,.t 45],none,[]⟩,
⟨(some 51),.p (.ia 1),[.t 40,.t 41],none,[]⟩,
⟨none,.w (.st 1),[.t 51,.t 49],none,[]⟩] true [])) <|
 .region [
⟨(some 25),.p .mv,[.t 8],none,[]⟩,
⟨(some 26),.p (.bin .sub),[.t 25,.c (.int .i64 1)],none,[]⟩,
⟨(some 8),.p .mv,[.t 26],none,[]⟩] false []))) <|
 .seq (.region [
⟨(some 52),.p .mv,[.t 7],none,[]⟩,
⟨(some 4),.p .mv,[.t 52],none,[]⟩,
⟨(some 5),.p .mv,[.c (.int .i64 0)],none,[]⟩] false []) <|
 .ret, [.tmp 4,.tmp 5]⟩
structure D121 (T : Tab) : Prop where
  fn : T.fn 121 = some ir121
  pr : T.prim 121 = none
  d148 : D148 T
  d151 : D151 T
  d152 : D152 T
  d153 : D153 T
/-- motley/list.Splice -/
def ir124 : AFunc := ⟨.seq (.region [
⟨(some 8),.p .mv,[.c (.slc none 0 0 none)],none,[]⟩,
⟨(some 9),.p .mv,[.c (.slc none 0 0 none)],none,[]⟩,
⟨(some 10),.p .mv,[.c (.int .i64 0)],none,[]⟩] false []) <|
 .seq (.seq (.region [
⟨(some 14),.p .mv,[.t 0],none,[]⟩,
⟨(some 15),.p .len,[.t 14],none,[]⟩,
⟨(some 16),.p (.bin .gtr),[.t 15,.c (.int .i64 200)],none,[]⟩,
⟨(some 17),.p .mv,[.t 16],none,[]⟩,
⟨(some 18),.p .mv,[.t 3],(some (17,false)),[]⟩,
⟨(some 19),.p .len,[.t 18],(some (17,false)),[]⟩,
⟨(some 20),.p (.bin .gtr),[.t 19,.c (.int .i64 200)],(some (17,false)),[]⟩,
⟨(some 21),.p .pick,[.t 17,.c (.bool true),.t 20],none,[]⟩] false []) <|
 .cond (.t 21) (.seq (.region [
⟨(some 8),.p .mv,[.c (.slc none 0 0 none)],none,[]⟩,
⟨(some 9),.p .mv,[.c (.slc none 0 0 none)],none,[]⟩,
⟨(some 10),.p .mv,[.c (.int .i64 3)],none,[]⟩] false []) <|
 .ret) (.skip)) <|
 .seq (.seq (.region [
⟨(some 22),.p .mv,[.t 1],none,[]⟩,
⟨(some 23),.p (.bin .lss),[.t 22,.c (.int .i64 0)],none,[]⟩] false []) <|
 .cond (.t 23) (.region [
⟨(some 24),.p .mv,[.t 1],none,[]⟩,
⟨(some 25),.p .mv,[.t 0],none,[]⟩,
⟨(some 26),.p .len,[.t 25],none,[]⟩,
⟨(some 27),.p (.bin .add),[.t 24,.t 26],none,[]⟩,
⟨(some 1),.p .mv,[.t 27],none,[]⟩] false []) (.skip)) <|
 .seq (.seq (.region [
⟨(some 28),.p .mv,[.t 1],none,[]⟩,
⟨(some 29),.p (.bin .lss),[.t 28,.c (.int .i64 0)],none,[]⟩,
⟨(some 30),.p .mv,[.t 29],none,[]⟩,
⟨(some 31),.p .mv,[.t 1],(some (30,false)),[]⟩,
⟨(some 32),.p .mv,[.t 0],(some (30,false)),[]⟩,
⟨(some 33),.p .len,[.t 32],(some (30,false)),[]⟩,
⟨(some 34),.p (.bin .gtr),[.t 31,.t 33],(some (30,false)),[]⟩,
⟨(some 35),.p .pick,[.t 30,.c (.bool true),.t 34],none,[]⟩] false []) <|
 .cond (.t 35) (.seq (.region [
⟨(some 8),.p .mv,[.c (.slc none 0 0 none)],none,[]⟩,
⟨(some 9),.p .mv,[.c (.slc none 0 0 none)],none,[]⟩,
⟨(some 10),.p .mv,[.c (.int .i64 1)],none,[]⟩] false []) <|
 .ret) (.skip)) <|
 .seq (.region [
⟨(some 36),.p .mv,[.t 0],none,[]⟩,
⟨(some 37),.p .len,[.t 36],none,[]⟩,
⟨(some 38),.p .mv,[.t 1],none,[]⟩,
⟨(some 39),.p (.bin .sub),[.t 37,.t 38],none,[]⟩,
⟨(some 11),.p .mv,[.t 39],none,[]⟩] false []) <|
 .seq (.seq (.region [
⟨(some 40),.p .mv,[.t 2],none,[]⟩,
⟨(some 41),.p (.bin .lss),[.t 40,.c (.int .i64 0)],none,[]⟩] false []) <|
 .cond (.t 41) (.region [
⟨(some 42),.p .mv,[.t 11],none,[]⟩,
⟨(some 43),.p .mv,[.t 2],none,[]⟩,
⟨(some 44),.p (.bin .add),[.t 42,.t 43],none,[]⟩,
⟨(some 45),.p .max,[.c (.int .i64 0),.t 44],none,[]⟩,
⟨(some 2),.p .mv,[.t 45],none,[]⟩] false []) (.skip)) <|
 .seq (.region [
⟨(some 46),.p .mv,[.t 2],none,[]⟩,
⟨(some 47),.p .mv,[.t 11],none,[]⟩,
⟨(some 48),.p .min,[.t 46,.t 47],none,[]⟩,
⟨(some 2),.p .mv,[.t 48],none,[]⟩] false []) <|
 .seq (.region [
⟨(some 49),.p .mv,[.t 0],none,[]⟩,
⟨(some 50),.p .mv,[.t 1],none,[]⟩,
⟨(some 51),.p (.sl 1 false true false),[.t 49,.t 50],none,[]⟩,
⟨(some 52),.p .mv,[.t 3],none,[]⟩,
⟨(some 53),.p .mv,[.t 0],none,[]⟩,
⟨(some 54),.p .mv,[.t 1],none,[]⟩,
⟨(some 55),.p .mv,[.t 2],none,[]⟩,
⟨(some 56),.p (.bin .add),[.t 54,.t 55],none,[]⟩,
⟨(some 57),.p (.sl 1 true false false),[.t 53,.t 56],none,[]⟩,
⟨(some 58),.w (.bsl 1 3 [(.slc none 0 0 none),(.slc none 0 0 none),(.slc none 0 0 none)] [(0,1),(1,1),(2,1)]),[.t 51,.t 52,.t 57],none,[]⟩,
⟨(some 59),.w .call,[.c (.fn 154 [] []),.t 58],none,[]⟩,
⟨(some 12),.p .mv,[.t 59],none,[]⟩] true []) <|
 .seq (.seq (.region [
⟨(some 60),.p .mv,[.t 12],none,[]⟩,
⟨(some 61),.p .len,[.t 60],none,[]⟩,
⟨(some 62),.w .call,[.c (.fn 148 [] []),.t 61],none,[]⟩,
⟨(some 13),.p .mv,[.t 62],none,[]⟩] false []) <|
 .seq (.region [
⟨(some 63),.p .mv,[.t 13],none,[]⟩,
⟨(some 64),.p (.bin .neq),[.t 63,.c (.int .i64 0)],none,[]⟩] false []) <|
 .cond (.t 64) (.seq (.region [
⟨(some 65),.p .mv,[.t 13],none,[]⟩,
⟨(some 8),.p .mv,[.c (.slc none 0 0 none)],none,[]⟩,
⟨(some 9),.p .mv,[.c (.slc none 0 0 none)],none,[]⟩,
⟨(some 10),.p .mv,[.t 65],none,[]⟩] false []) <|
 .ret) (.skip)) <|
 .seq (.region [
⟨(some 66),.p .mv,[.t 12],none,[]⟩,
⟨(some 67),.p .mv,[.t 0],none,[]⟩,
⟨(some 68),.p .mv,[.t 1],none,[]⟩,
⟨(some 69),.p .mv,[.t 1],none,[]⟩,
⟨(some 70),.p .mv,[.t 2],none,[]⟩,
⟨(some 71),.p (.bin .add),[.t 69,.t 70],none,[]⟩,
⟨(some 72),.p (.sl 1 true true false),[.t 67,.t 68,.t 71],none,[]⟩,
⟨(some 73),.w .call,[.c (.fn 153 [] []),.t 72],none,[]⟩,
⟨(some 8),.p .mv,[.t 66],none,[]⟩,
⟨(some 9),.p .mv,[.t 73],none,[]⟩,
⟨(some 10),.p .mv,[.c (.int .i64 0)],none,[]⟩] false []) <|
 .ret, [.tmp 8,.tmp 9,.tmp 10]⟩
structure D124 (T : Tab) : Prop where
  fn : T.fn 124 = some ir124
  pr : T.prim 124 = none
  d154 : D154 T
  d148 : D148 T
  d153 : D153 T
/-- motley/list.merged[string] -/
def ir157 : AFunc := ⟨.seq (.region [
⟨(some 4),.p .mv,[.c (.slc none 0 0 none)],none,[]⟩] false []) <|
 .seq (.seq (.region [
⟨(some 9),.p .mv,[.t 0],none,[]⟩,
⟨(some 10),.p .len,[.t 9],none,[]⟩,
⟨(some 11),.p (.bin .lss),[.t 10,.c (.int .i64 2)],none,[]⟩] false []) <|
 .cond (.t 11) (.seq (.region [
⟨(some 12),.p .mv,[.t 0],none,[]⟩,
⟨(some 13),.w .call,[.c (.fn 153 [] []),.t 12],none,[]⟩,
⟨(some 4),.p .mv,[.t 13],none,[]⟩] false []) <|
 .ret) (.skip)) <|
 .seq (.region [
⟨(some 14),.p .mv,[.t 0],none,[]⟩,
⟨(some 15),.p .len,[.t 14],none,[]⟩,
⟨(some 16),.p (.bin .quo),[.t 15,.c (.int .i64 2)],none,[]⟩,
⟨(some 5),.p .mv,[.t 16],none,[]⟩] false []) <|
 .seq (.region [
⟨(some 17),.p .mv,[.t 0],none,[]⟩,
⟨(some 18),.p .mv,[.t 5],none,[]⟩,
⟨(some 19),.p (.sl 1 false true false),[.t 17,.t 18],none,[]⟩,
⟨(some 20),.p .mv,[.t 1],none,[]⟩,
⟨(some 21),.w .call,[.c (.fn 157 [] []),.t 19,.t 20],none,[]⟩,
⟨(some 22),.p .mv,[.t 0],none,[]⟩,
⟨(some 23),.p .mv,[.t 5],none,[]⟩,
⟨(some 24),.p (.sl 1 true false false),[.t 22,.t 23],none,[]⟩,
⟨(some 25),.p .mv,[.t 1],none,[]⟩,
⟨(some 26),.w .call,[.c (.fn 157 [] []),.t 24,.t 25],none,[]⟩,
⟨(some 6),.p .mv,[.t 21],none,[]⟩,
⟨(some 7),.p .mv,[.t 26],none,[]⟩] true []) <|
 .seq (.region [
⟨(some 8),.p .mv,[.c (.slc none 0 0 none)],none,[]⟩] false []) <|
 .seq (.block 0 (.loop (.seq (.seq (.region [
⟨(some 27),.p .mv,[.t 6],none,[]⟩,
⟨(some 28),.p .len,[.t 27],none,[]⟩,
⟨(some 29),.p (.bin .gtr),[.t 28,.c (.int .i64 0)],none,[]⟩,
⟨(some 30),.p .mv,[.t 29],none,[]⟩,
⟨(some 31),.p .mv,[.t 7],(some (30,true)),[]⟩,
⟨(some 32),.p .len,[.t 31],(some (30,true)),[]⟩,
⟨(some 33),.p (.bin .gtr),[.t 32,.c (.int .i64 0)],(some (30,true)),[]⟩,
⟨(some 34),.p .pick,[.t 30,.t 33,.c (.bool false)],none,[]⟩] false []) <|
 .cond (.t 34) (.skip) (.exit 0)) <|
 .block 1 (.seq (.region [
⟨(some 35),.p .mv,[.t 1],none,[]⟩,
⟨(some 36),.p .mv,[.t 6],none,[]⟩,
⟨(some 37),.p (.ia 1),[.t 36,.c (.int .i64 0)],none,[]⟩,
⟨(some 38),.r (.ld 1 false),[.t 37],none,[]⟩,
⟨(some 39),.p .mv,[.t 7],none,[]⟩,
⟨(some 40),.p (.ia 1),[.t 39,.c (.int .i64 0)],none,[]⟩,
⟨(some 41),.r (.ld 1 false),[.t 40],none,[]⟩,
⟨(some 42),.w .call,[.t 35,.t 38,.t 41],none,[]⟩,
⟨(some 43),.p (.bin .gtr),[.t 42,.c (.int .i64 0)],none,[]⟩] true []) <|
 .cond (.t 43) (.region [
⟨(some 44),.p .mv,[.t 8],none,[]⟩,
⟨(some 45),.p .mv,[.t 7],none,[]⟩,
⟨(some 46),.p (.ia 1),[.t 45,.c (.int .i64 0)],none,[]⟩,
⟨(some 47),.r (.ld 1 false),[.t 46],none,[]⟩,
⟨(some 48),.w (.bsl 1 1 [(.str [])] [(0,1)]),[.t 47],none,[]⟩,
⟨(some 49),.w (.app 1 16),[.t 44,.t 48],none,[]⟩,
⟨(some 50),.p .mv,[.t 7],none,[]⟩,
⟨(some 51),.p (.sl 1 true false false),[.t 50,.c (.int .i64 1)],none,[]⟩,
⟨(some 8),.p .mv,[.t 49],none,[]⟩,
⟨(some 7),.p .mv,[.t 51],none,[]⟩] true []) (.region [
⟨(some 52),.p .mv,[.t 8],none,[]⟩,
⟨(some 53),.p .mv,[.t 6],none,[]⟩,
⟨(some 54),.p (.ia 1),[.t 53,.c (.int .i64 0)],none,[]⟩,
⟨(some 55),.r (.ld 1 false),[.t 54],none,[]⟩,
⟨(some 56),.w (.bsl 1 1 [(.str [])] [(0,1)]),[.t 55],none,[]⟩,
⟨(some 57),.w (.app 1 16),[.t 52,.t 56],none,[]⟩,
⟨(some 58),.p .mv,[.t 6],none,[]⟩,
⟨(some 59),.p (.sl 1 true false false),[.t 58,.c (.int .i64 1)],none,[]⟩,
⟨(some 8),.p .mv,[.t 57],none,[]⟩,
⟨(some 6),.p .mv,[.t 59],none,[]⟩] true []))))) <|
 .seq (.region [
⟨(some 60),.p .mv,[.t 8],none,[]⟩,
⟨(some 61),.p .mv,[.t 6],none,[]⟩,
⟨(some 62),.w (.app 1 16),[.t 60,.t 61],none,[]⟩,
⟨(some 63),.p .mv,[.t 7],none,[]⟩,
⟨(some 64),.w (.app 1 16),[.t 62,.t 63],none,[]⟩,
⟨(some 4),.p .mv,[.t 64],none,[]⟩] false []) <|
 .ret, [.tmp 4]⟩
structure D157 (T : Tab) : Prop where
  fn : T.fn 157 = some ir157
  pr : T.prim 157 = none
  d153 : D153 T
/-- motley/list.SortTexts -/
def ir127 : AFunc := ⟨.seq (.region [
⟨(some 2),.p .mv,[.c (.slc none 0 0 none)],none,[]⟩,
⟨(some 3),.p .mv,[.c (.int .i64 0)],none,[]⟩] false []) <|
 .seq (.seq (.region [
⟨(some 5),.p .mv,[.t 0],none,[]⟩,
⟨(some 6),.p .len,[.t 5],none,[]⟩,
⟨(some 7),.w .call,[.c (.fn 148 [] []),.t 6],none,[]⟩,
⟨(some 4),.p .mv,[.t 7],none,[]⟩] false []) <|
 .seq (.region [
⟨(some 8),.p .mv,[.t 4],none,[]⟩,
⟨(some 9),.p (.bin .neq),[.t 8,.c (.int .i64 0)],none,[]⟩] false []) <|
 .cond (.t 9) (.seq (.region [
⟨(some 10),.p .mv,[.t 4],none,[]⟩,
⟨(some 2),.p .mv,[.c (.slc none 0 0 none)],none,[]⟩,
⟨(some 3),.p .mv,[.t 10],none,[]⟩] false []) <|
 .ret) (.skip)) <|
 .seq (.region [
⟨(some 11),.p .mv,[.t 0],none,[]⟩,
⟨(some 12),.w .call,[.c (.fn 157 [] []),.t 11,.c (.fn 158 [] [])],none,[]⟩,
⟨(some 2),.p .mv,[.t 12],none,[]⟩,
⟨(some 3),.p .mv,[.c (.int .i64 0)],none,[]⟩] false []) <|
 .ret, [.tmp 2,.tmp 3]⟩
structure D127 (T : Tab) : Prop where
  fn : T.fn 127 = some ir127
  pr : T.prim 127 = none
  d148 : D148 T
  d157 : D157 T
  d158 : D158 T
/-- motley/list.SortBy$1 -/
def ir159 : AFunc := ⟨.seq (.region [
⟨(some 5),.p .mv,[.c (.int .i64 0)],none,[]⟩] false []) <|
 .seq (.region [
⟨(some 6),.r (.ld 1 false),[.t 2],none,[]⟩,
⟨(some 7),.p .mv,[.t 0],none,[]⟩,
⟨(some 8),.p (.ia 1),[.t 6,.t 7],none,[]⟩,
⟨(some 9),.r (.ld 1 false),[.t 8],none,[]⟩,
⟨(some 10),.r (.ld 1 false),[.t 2],none,[]⟩,
⟨(some 11),.p .mv,[.t 1],none,[]⟩,
⟨(some 12),.p (.ia 1),[.t 10,.t 11],none,[]⟩,
⟨(some 13),.r (.ld 1 false),[.t 12],none,[]⟩,
⟨(some 14),.w .call,[.c (.fn 160 [] []),.t 9,.t 13],none,[]⟩,
⟨(some 5),.p .mv,[.t 14],none,[]⟩] true []) <|
 .ret, [.tmp 5]⟩
structure D159 (T : Tab) : Prop where
  fn : T.fn 159 = some ir159
  pr : T.prim 159 = none
  d160 : D160 T
/-- motley/list.SortBy -/
def ir128 : AFunc := ⟨.seq (.region [
⟨(some 3),.w .box,[.t 1],none,[]⟩,
⟨(some 4),.p .mv,[.c (.slc none 0 0 none)],none,[]⟩,
⟨(some 5),.p .mv,[.c (.int .i64 0)],none,[]⟩] false []) <|
 .seq (.seq (.region [
⟨(some 11),.p .mv,[.t 0],none,[]⟩,
⟨(some 12),.p .len,[.t 11],none,[]⟩,
⟨(some 13),.p (.bin .gtr),[.t 12,.c (.int .i64 200)],none,[]⟩,
⟨(some 14),.p .mv,[.t 13],none,[]⟩,
⟨(some 15),.r (.ld 1 false),[.t 3],(some (14,false)),[]⟩,
⟨(some 16),.p .len,[.t 15],(some (14,false)),[]⟩,
⟨(some 17),.p (.bin .gtr),[.t 16,.c (.int .i64 200)],(some (14,false)),[]⟩,
⟨(some 18),.p .pick,[.t 14,.c (.bool true),.t 17],none,[]⟩] false []) <|
 .cond (.t 18) (.seq (.region [
⟨(some 4),.p .mv,[.c (.slc none 0 0 none)],none,[]⟩,
⟨(some 5),.p .mv,[.c (.int .i64 3)],none,[]⟩] false []) <|
 .ret) (.skip)) <|
 .seq (.seq (.region [
⟨(some 19),.p .mv,[.t 0],none,[]⟩,
⟨(some 20),.p .len,[.t 19],none,[]⟩,
⟨(some 21),.r (.ld 1 false),[.t 3],none,[]⟩,
⟨(some 22),.p .len,[.t 21],none,[]⟩,
⟨(some 23),.p (.bin .neq),[.t 20,.t 22],none,[]⟩] false []) <|
 .cond (.t 23) (.seq (.region [
⟨(some 4),.p .mv,[.c (.slc none 0 0 none)],none,[]⟩,
⟨(some 5),.p .mv,[.c (.int .i64 10)],none,[]⟩] false []) <|
 .ret) (.skip)) <|
 .seq (.region [
⟨(some 6),.p .mv,[.c (.slc none 0 0 none)],none,[]⟩] false []) <|
 .seq (.seq (.region [
⟨(some 24),.p .mv,[.t 0],none,[]⟩,
⟨(some 25),.p .len,[.t 24],none,[]⟩,
⟨(some 26),.p .mv,[.c (.int .i64 0)],none,[]⟩] false []) <|
 .block 0 (.loop (.seq (.region [
⟨(some 27),.p (.bin .lss),[.t 26,.t 25],none,[]⟩] false []) <|
 .seq (.cond (.t 27) (.skip) (.exit 0)) <|
 .seq (.block 1 (.seq (.region [
⟨(some 28),.p .mv,[.t 26],none,[]⟩,
⟨(some 7),.p .mv,[.t 28],none,[]⟩] false []) <|
 .region [
⟨(some 29),.p .mv,[.t 6],none,[]⟩,
⟨(some 30),.p .mv,[.t 7],none,[]⟩,
⟨(some 31),.w (.bsl 1 1 [(.int .i64 0)] [(0,1)]),[.t 30],none,[]⟩,
⟨(some 32),.w (.app 1 8),[.t 29,.t 31],none,[]⟩,
⟨(some 6),.p .mv,[.t 32],none,[]⟩] false [])) <|
 .region [
⟨(some 33),.p (.bin .add),[.t 26,.c (.int .i64 1)],none,[]⟩,
⟨(some 26),.p .mv,[.t 33],none,[]⟩] false []))) <|
 .seq (.region [
⟨(some 8),.p .mv,[.c (.slc none 0 0 none)],none,[]⟩] false []) <|
 .seq (.seq (.region [
⟨(some 34),.p .mv,[.t 6],none,[]⟩,
⟨(some 35),.p (.mkF 159 0),[.t 3],none,[]⟩,
⟨(some 36),.w .call,[.c (.fn 149 [] []),.t 34,.t 35],none,[]⟩,
⟨(some 37),.p .len,[.t 36],none,[]⟩,
⟨(some 38),.p .mv,[.c (.int .i64 0)],none,[]⟩] false []) <|
 .block 2 (.loop (.seq (.region [
⟨(some 39),.p (.bin .lss),[.t 38,.t 37],none,[]⟩] false []) <|
 .seq (.cond (.t 39) (.skip) (.exit 2)) <|
 .seq (.block 3 (.seq (.region [
⟨(some 40),.p (.ia 1),[.t 36,.t 38],none,[]⟩,
⟨(some 41),.r (.ld 1 false),[.t 40],none,[]⟩,
⟨(some 10),.p .mv,[.t 41],none,[]⟩] false []) <|
 .region [
⟨(some 42),.p .mv,[.t 8],none,[]⟩,
⟨(some 43),.p .mv,[.t 0],none,[]⟩,
⟨(some 44),.p .mv,[.t 10],none,[]⟩,
⟨(some 45),.p (.ia 1),[.t 43,.t 44],none,[]⟩,
⟨(some 46),.r (.ld 1 false),[.t 45],none,[]⟩,
⟨(some 47),.w (.bsl 1 1 [(.str [])] [(0,1)]),[.t 46],none,[]⟩,
⟨(some 48),.w (.app 1 16),[.t 42,.t 47],none,[]⟩,
⟨(some 8),.p .mv,[.t 48],none,[]⟩] false [])) <|
 .region [
⟨(some 49),.p (.bin .add),[.t 38,.c (.int .i64 1)],none,[]⟩,
⟨(some 38),.p .mv,[.t 49],none,[]⟩] false []))) <|
 .seq (.region [
⟨(some 50),.p .mv,[.t 8],none,[]⟩,
⟨(some 4),.p .mv,[.t 50],none,[]⟩,
⟨(some 5),.p .mv,[.c (.int .i64 0)],none,[]⟩] false []) <|
 .ret, [.tmp 4,.tmp 5]⟩
structure D128 (T : Tab) : Prop where
  fn : T.fn 128 = some ir128
  pr : T.prim 128 = none
  d159 : D159 T
  d149 : D149 T
/-- motley/list.uniq -/
def ir162 : AFunc := ⟨.seq (.region [
⟨(some 2),.p .mv,[.c (.slc none 0 0 none)],none,[]⟩] false []) <|
 .seq (.region [
⟨(some 3),.p .mv,[.c (.slc none 0 0 none)],none,[]⟩] false []) <|
 .seq (.seq (.region [
⟨(some 6),.p .mv,[.t 0],none,[]⟩,
⟨(some 7),.p .len,[.t 6],none,[]⟩,
⟨(some 8),.p .mv,[.c (.int .i64 0)],none,[]⟩] false []) <|
 .block 0 (.loop (.seq (.region [
⟨(some 9),.p (.bin .lss),[.t 8,.t 7],none,[]⟩] false []) <|
 .seq (.cond (.t 9) (.skip) (.exit 0)) <|
 .seq (.block 1 (.seq (.region [
⟨(some 10),.p (.ia 1),[.t 6,.t 8],none,[]⟩,
⟨(some 11),.r (.ld 1 false),[.t 10],none,[]⟩,
⟨(some 5),.p .mv,[.t 11],none,[]⟩] false []) <|
 .seq (.region [
⟨(some 12),.p .mv,[.t 3],none,[]⟩,
⟨(some 13),.p .mv,[.t 5],none,[]⟩,
⟨(some 14),.w .call,[.c (.fn 179 [] []),.t 12,.t 13],none,[]⟩,
⟨(some 15),.p (.un .not),[.t 14],none,[]⟩] false []) <|
 .cond (.t 15) (.region [
⟨(some 16),.p .mv,[.t 3],none,[]⟩,
⟨(some 17),.p .mv,[.t 5],none,[]⟩,
⟨(some 18),.w (.bsl 1 1 [(.str [])] [(0,1)]),[.t 17],none,[]⟩,
⟨(some 19),.w (.app 1 16),[.t 16,.t 18],none,[]⟩,
⟨(some 3),.p .mv,[.t 19],none,[]⟩] false []) (.skip))) <|
 .region [
⟨(some 20),.p (.bin .add),[.t 8,.c (.int .i64 1)],none,[]⟩,
⟨(some 8),.p .mv,[.t 20],none,[]⟩] false []))) <|
 .seq (.region [
⟨(some 21),.p .mv,[.t 3],none,[]⟩,
⟨(some 2),.p .mv,[.t 21],none,[]⟩] false []) <|
 .ret, [.tmp 2]⟩
structure D162 (T : Tab) : Prop where
  fn : T.fn 162 = some ir162
  pr : T.prim 162 = none
  d179 : D179 T
/-- motley/list.Uniq -/
def ir132 : AFunc := ⟨.seq (.region [
⟨(some 2),.p .mv,[.c (.slc none 0 0 none)],none,[]⟩,
⟨(some 3),.p .mv,[.c (.int .i64 0)],none,[]⟩] false []) <|
 .seq (.seq (.region [
⟨(some 5),.p .mv,[.t 0],none,[]⟩,
⟨(some 6),.p .len,[.t 5],none,[]⟩,
⟨(some 7),.w .call,[.c (.fn 148 [] []),.t 6],none,[]⟩,
⟨(some 4),.p .mv,[.t 7],none,[]⟩] false []) <|
 .seq (.region [
⟨(some 8),.p .mv,[.t 4],none,[]⟩,
⟨(some 9),.p (.bin .neq),[.t 8,.c (.int .i64 0)],none,[]⟩] false []) <|
 .cond (.t 9) (.seq (.region [
⟨(some 10),.p .mv,[.t 4],none,[]⟩,
⟨(some 2),.p .mv,[.c (.slc none 0 0 none)],none,[]⟩,
⟨(some 3),.p .mv,[.t 10],none,[]⟩] false []) <|
 .ret) (.skip)) <|
 .seq (.region [
⟨(some 11),.p .mv,[.t 0],none,[]⟩,
⟨(some 12),.w .call,[.c (.fn 162 [] []),.t 11],none,[]⟩,
⟨(some 2),.p .mv,[.t 12],none,[]⟩,
⟨(some 3),.p .mv,[.c (.int .i64 0)],none,[]⟩] false []) <|
 .ret, [.tmp 2,.tmp 3]⟩
structure D132 (T : Tab) : Prop where
  fn : T.fn 132 = some ir132
  pr : T.prim 132 = none
  d148 : D148 T
  d162 : D162 T
/-- motley/list.Counts -/
def ir133 : AFunc := ⟨.seq (.region [
⟨(some 2),.p .mv,[.c (.slc none 0 0 none)],none,[]⟩,
⟨(some 3),.p .mv,[.c (.slc none 0 0 none)],none,[]⟩,
⟨(some 4),.p .mv,[.c (.int .i64 0)],none,[]⟩] false []) <|
 .seq (.region [
⟨(some 14),.p .mv,[.t 0],none,[]⟩,
⟨(some 15),.w .call,[.c (.fn 132 [] []),.t 14],none,[]⟩,
⟨(some 13),.p .mv,[.t 15],none,[]⟩,
⟨(some 16),.p (.ext 0),[.t 13],none,[]⟩,
⟨(some 17),.p (.ext 1),[.t 13],none,[]⟩,
⟨(some 5),.p .mv,[.t 16],none,[]⟩,
⟨(some 6),.p .mv,[.t 17],none,[]⟩] false []) <|
 .seq (.region [
⟨(some 7),.p .mv,[.c (.slc none 0 0 none)],none,[]⟩] false []) <|
 .seq (.seq (.region [
⟨(some 18),.p .mv,[.t 5],none,[]⟩,
⟨(some 19),.p .len,[.t 18],none,[]⟩,
⟨(some 20),.p .mv,[.c (.int .i64 0)],none,[]⟩] false []) <|
 .block 0 (.loop (.seq (.region [
⟨(some 21),.p (.bin .lss),[.t 20,.t 19],none,[]⟩] false []) <|
 .seq (.cond (.t 21) (.skip) (.exit 0)) <|
 .seq (.block 1 (.seq (.region [
⟨(some 22),.p (.ia 1),[.t 18,.t 20],none,[]⟩,
⟨(some 23),.r (.ld 1 false),[.t 22],none,[]⟩,
⟨(some 9),.p .mv,[.t 23],none,[]⟩] false []) <|
 .seq (.region [
⟨(some 10),.p .mv,[.c (.int .i64 0)],none,[]⟩] false []) <|
 .seq (.seq (.region [
⟨(some 24),.p .mv,[.t 0],none,[]⟩,
⟨(some 25),.p .len,[.t 24],none,[]⟩,
⟨(some 26),.p .mv,[.c (.int .i64 0)],none,[]⟩] false []) <|
 .block 2 (.loop (.seq (.region [
⟨(some 27),.p (.bin .lss),[.t 26,.t 25],none,[]⟩] false []) <|
 .seq (.cond (.t 27) (.skip) (.exit 2)) <|
 .seq (.block 3 (.seq (.region [
⟨(some 28),.p (.ia 1),[.t 24,.t 26],none,[]⟩,
⟨(some 29),.r (.ld 1 false),[.t 28],none,[]⟩,
⟨(some 12),.p .mv,[.t 29],none,[]⟩] false []) <|
 .seq (.region [
⟨(some 30),.p .mv,[.t 9],none,[]⟩,
⟨(some 31),.p .mv,[.t 12],none,[]⟩,
⟨(some 32),.p (.bin .eql),[.t 30,.t 31],none,[]⟩] false []) <|
 .cond (.t 32) (.region [
⟨(some 33),.p .mv,[.t 10],none,[]⟩,
⟨(some 34),.p (.bin .add),[.t 33,.c (.int .i64 1)],none,[]⟩,
⟨(some 10),.p .mv,[.t 34],none,[]⟩] false []) (.skip))) <|
 .region [
⟨(some 35),.p (.bin .add),[.t 26,.c (.int .i64 1)],none,[]⟩,
⟨(some 26),.p .mv,[.t 35],none,[]⟩] false []))) <|
 .region [
⟨(some 36),.p .mv,[.t 7],none,[]⟩,
⟨(some 37),.p .mv,[.t 10],none,[]⟩,
⟨(some 38),.w (.bsl 1 1 [(.int .i64 0)] [(0,1)]),[.t 37],none,[]⟩,
⟨(some 39),.w (.app 1 8),[.t 36,.t 38],none,[]⟩,
⟨(some 7),.p .mv,[.t 39],none,[]⟩] false [])) <|
 .region [
⟨(some 40),.p (.bin .add),[.t 20,.c (.int .i64 1)],none,[]⟩,
⟨(some 20),.p .mv,[.t 40],none,[]⟩] false []))) <|
 .seq (.region [
⟨(some 41),.p .mv,[.t 5],none,[]⟩,
⟨(some 42),.p .mv,[.t 7],none,[]⟩,
⟨(some 43),.p .mv,[.t 6],none,[]⟩,
⟨(some 2),.p .mv,[.t 41],none,[]⟩,
⟨(some 3),.p .mv,[.t 42],none,[]⟩,
⟨(some 4),.p .mv,[.t 43],none,[]⟩] false []) <|
 .ret, [.tmp 2,.tmp 3,.tmp 4]⟩
structure D133 (T : Tab) : Prop where
  fn : T.fn 133 = some ir133
  pr : T.prim 133 = none
  d132 : D132 T
/-- motley/list.Union -/
def ir134 : AFunc := ⟨.seq (.region [
⟨(some 4),.p .mv,[.c (.slc none 0 0 none)],none,[]⟩,
⟨(some 5),.p .mv,[.c (.int .i64 0)],none,[]⟩] false []) <|
 .seq (.seq (.region [
⟨(some 6),.p .mv,[.t 0],none,[]⟩,
⟨(some 7),.p .len,[.t 6],none,[]⟩,
⟨(some 8),.p (.bin .gtr),[.t 7,.c (.int .i64 200)],none,[]⟩,
⟨(some 9),.p .mv,[.t 8],none,[]⟩,
⟨(some 10),.p .mv,[.t 1],(some (9,false)),[]⟩,
⟨(some 11),.p .len,[.t 10],(some (9,false)),[]⟩,
⟨(some 12),.p (.bin .gtr),[.t 11,.c (.int .i64 200)],(some (9,false)),[]⟩,
⟨(some 13),.p .pick,[.t 9,.c (.bool true),.t 12],none,[]⟩] false []) <|
 .cond (.t 13) (.seq (.region [
⟨(some 4),.p .mv,[.c (.slc none 0 0 none)],none,[]⟩,
⟨(some 5),.p .mv,[.c (.int .i64 3)],none,[]⟩] false []) <|
 .ret) (.skip)) <|
 .seq (.region [
⟨(some 14),.p .mv,[.t 0],none,[]⟩,
⟨(some 15),.p .mv,[.t 1],none,[]⟩,
⟨(some 16),.w (.bsl 1 2 [(.slc none 0 0 none),(.slc none 0 0 none)] [(0,1),(1,1)]),[.t 14,.t 15],none,[]⟩,
⟨(some 17),.w .call,[.c (.fn 154 [] []),.t 16],none,[]⟩,
⟨(some 18),.w .call,[.c (.fn 162 [] []),.t 17],none,[]⟩,
⟨(some 4),.p .mv,[.t 18],none,[]⟩,
⟨(some 5),.p .mv,[.c (.int .i64 0)],none,[]⟩] false []) <|
 .ret, [.tmp 4,.tmp 5]⟩
structure D134 (T : Tab) : Prop where
  fn : T.fn 134 = some ir134
  pr : T.prim 134 = none
  d154 : D154 T
  d162 : D162 T
/-- motley/list.Pairs -/
def ir138 : AFunc := ⟨.seq (.region [
⟨(some 2),.p .mv,[.c (.slc none 0 0 none)],none,[]⟩,
⟨(some 3),.p .mv,[.c (.int .i64 0)],none,[]⟩] false []) <|
 .seq (.seq (.region [
⟨(some 8),.p .mv,[.t 0],none,[]⟩,
⟨(some 9),.p .len,[.t 8],none,[]⟩,
⟨(some 10),.w .call,[.c (.fn 148 [] []),.t 9],none,[]⟩,
⟨(some 4),.p .mv,[.t 10],none,[]⟩] false []) <|
 .seq (.region [
⟨(some 11),.p .mv,[.t 4],none,[]⟩,
⟨(some 12),.p (.bin .neq),[.t 11,.c (.int .i64 0)],none,[]⟩] false []) <|
 .cond (.t 12) (.seq (.region [
⟨(some 13),.p .mv,[.t 4],none,[]⟩,
⟨(some 2),.p .mv,[.c (.slc none 0 0 none)],none,[]⟩,
⟨(some 3),.p .mv,[.t 13],none,[]⟩] false []) <|
 .ret) (.skip)) <|
 .seq (.region [
⟨(some 5),.p .mv,[.c (.slc none 0 0 none)],none,[]⟩] false []) <|
 .seq (.seq (.region [
⟨(some 6),.p .mv,[.c (.int .i64 0)],none,[]⟩] false []) <|
 .block 0 (.loop (.seq (.seq (.region [
⟨(some 14),.p .mv,[.t 6],none,[]⟩,
⟨(some 15),.p .mv,[.t 0],none,[]⟩,
⟨(some 16),.p .len,[.t 15],none,[]⟩,
⟨(some 17),.p (.bin .lss),[.t 14,.t 16],none,[]⟩] false []) <|
 .cond (.t 17) (.skip) (.exit 0)) <|
 .seq (.block 1 (.seq (.region [
⟨(some 20),.p .mv,[.t 0],none,[]⟩,
⟨(some 21),.p .mv,[.t 6],none,[]⟩,
⟨(some 22),.p (.ia 1),[.t 20,.t 21],none,[]⟩,
⟨(some 23),.r (.ld 1 false),[.t 22],none,[]⟩,
⟨(some 24),.p (.bld [(.str []),(.str [])] [(0,1),(1,1)]),[.t 23,.c (.str [])],none,[]⟩,
⟨(some 7),.w .box,[.c (.agg [(.str []),(.str [])])],none,[]⟩,
⟨none,.w (.st 2),[.t 7,.t 24],none,[]⟩] false []) <|
 .seq (.seq (.region [
⟨(some 25),.p .mv,[.t 6],none,[]⟩,
⟨(some 26),.p (.bin .add),[.t 25,.c (.int .i64 1)],none,[]⟩,
⟨(some 27),.p .mv,[.t 0],none,[]⟩,
⟨(some 28),.p .len,[.t 27],none,[]⟩,
⟨(some 29),.p (.bin .lss),[.t 26,.t 28],none,[]⟩] false []) <|
 .cond (.t 29) (.region [
⟨(some 30),.p .mv,[.t 0],none,[]⟩,
⟨(some 31),.p .mv,[.t 6],none,[]⟩,
⟨(some 32),.p (.bin .add),[.t 31,.c (.int .i64 1)],none,[]⟩,
⟨(some 33),.p (.ia 1),[.t 30,.t 32],none,[]⟩,
⟨(some 34),.r (.ld 1 false),[.t 33],none,[]⟩,
⟨(some 35),.p (.iap 2 1),[.t 7,.c (.int .i64 1)],none,[]⟩,
⟨none,.w (.st 1),[.t 35,.t 34],none,[]⟩] false []) (.skip)) <|
 .region [
⟨(some 36),.p .mv,[.t 5],none,[]⟩,
⟨(some 37),.r (.ld 2 true),[.t 7],none,[]⟩,
⟨(some 38),.w (.bsl 2 1 [(.str []),(.str [])] [(0,2)]),[.t 37],none,[]⟩,
⟨(some 39),.w (.app 2 32),[.t 36,.t 38],none,[]⟩,
⟨(some 5),.p .mv,[.t 39],none,[]⟩] false [])) <|
 .region [
⟨(some 18),.p .mv,[.t 6],none,[]⟩,
⟨(some 19),.p (.bin .add),[.t 18,.c (.int .i64 2)],none,[]⟩,
⟨(some 6),.p .mv,[.t 19],none,[]⟩] false []))) <|
 .seq (.region [
⟨(some 40),.p .mv,[.t 5],none,[]⟩,
⟨(some 2),.p .mv,[.t 40],none,[]⟩,
⟨(some 3),.p .mv,[.c (.int .i64 0)],none,[]⟩] false []) <|
 .ret, [.tmp 2,.tmp 3]⟩
structure D138 (T : Tab) : Prop where
  fn : T.fn 138 = some ir138
  pr : T.prim 138 = none
  d148 : D148 T
/-- motley/list.long -/
def ir164 : AFunc := ⟨.seq (.region [
⟨(some 2),.p .mv,[.c (.int .i64 0)],none,[]⟩] false []) <|
 .seq (.seq (.region [
⟨(some 5),.p .mv,[.t 0],none,[]⟩,
⟨(some 6),.p .len,[.t 5],none,[]⟩,
⟨(some 7),.p (.bin .gtr),[.t 6,.c (.int .i64 200)],none,[]⟩] false []) <|
 .cond (.t 7) (.seq (.region [
⟨(some 2),.p .mv,[.c (.int .i64 3)],none,[]⟩] false []) <|
 .ret) (.skip)) <|
 .seq (.seq (.region [
⟨(some 8),.p .mv,[.t 0],none,[]⟩,
⟨(some 9),.p .len,[.t 8],none,[]⟩,
⟨(some 10),.p .mv,[.c (.int .i64 0)],none,[]⟩] false []) <|
 .block 0 (.loop (.seq (.region [
⟨(some 11),.p (.bin .lss),[.t 10,.t 9],none,[]⟩] false []) <|
 .seq (.cond (.t 11) (.skip) (.exit 0)) <|
 .seq (.block 1 (.seq (.region [
⟨(some 12),.p (.ia 1),[.t 8,.t 10],none,[]⟩,
⟨(some 13),.r (.ld 1 false),[.t 12],none,[]⟩,
⟨(some 4),.p .mv,[.t 13],none,[]⟩] false []) <|
 .seq (.region [
⟨(some 14),.p .mv,[.t 4],none,[]⟩,
⟨(some 15),.p .len,[.t 14],none,[]⟩,
⟨(some 16),.p (.bin .gtr),[.t 15,.c (.int .i64 200)],none,[]⟩] false []) <|
 .cond (.t 16) (.seq (.region [
⟨(some 2),.p .mv,[.c (.int .i64 3)],none,[]⟩] false []) <|
 .ret) (.skip))) <|
 .region [
⟨(some 17),.p (.bin .add),[.t 10,.c (.int .i64 1)],none,[]⟩,
⟨(some 10),.p .mv,[.t 17],none,[]⟩] false []))) <|
 .seq (.region [
⟨(some 2),.p .mv,[.c (.int .i64 0)],none,[]⟩] false []) <|
 .ret, [.tmp 2]⟩
structure D164 (T : Tab) : Prop where
  fn : T.fn 164 = some ir164
  pr : T.prim 164 = none
/-- motley/list.Zip -/
def ir141 : AFunc := ⟨.seq (.region [
⟨(some 2),.p .mv,[.c (.slc none 0 0 none)],none,[]⟩,
⟨(some 3),.p .mv,[.c (.int .i64 0)],none,[]⟩] false []) <|
 .seq (.seq (.region [
⟨(some 13),.p .mv,[.t 0],none,[]⟩,
⟨(some 14),.w .call,[.c (.fn 164 [] []),.t 13],none,[]⟩,
⟨(some 4),.p .mv,[.t 14],none,[]⟩] false []) <|
 .seq (.region [
⟨(some 15),.p .mv,[.t 4],none,[]⟩,
⟨(some 16),.p (.bin .neq),[.t 15,.c (.int .i64 0)],none,[]⟩] false []) <|
 .cond (.t 16) (.seq (.region [
⟨(some 17),.p .mv,[.t 4],none,[]⟩,
⟨(some 2),.p .mv,[.c (.slc none 0 0 none)],none,[]⟩,
⟨(some 3),.p .mv,[.t 17],none,[]⟩] false []) <|
 .ret) (.skip)) <|
 .seq (.region [
⟨(some 5),.p .mv,[.c (.int .i64 0)],none,[]⟩] false []) <|
 .seq (.seq (.region [
⟨(some 18),.p .mv,[.t 0],none,[]⟩,
⟨(some 19),.p .len,[.t 18],none,[]⟩,
⟨(some 20),.p .mv,[.c (.int .i64 0)],none,[]⟩] false []) <|
 .block 0 (.loop (.seq (.region [
⟨(some 21),.p (.bin .lss),[.t 20,.t 19],none,[]⟩] false []) <|
 .seq (.cond (.t 21) (.skip) (.exit 0)) <|
 .seq (.block 1 (.seq (.region [
⟨(some 22),.p (.ia 1),[.t 18,.t 20],none,[]⟩,
⟨(some 23),.r (.ld 1 false),[.t 22],none,[]⟩,
⟨(some 7),.p .mv,[.t 23],none,[]⟩] false []) <|
 .region [
⟨(some 24),.p .mv,[.t 5],none,[]⟩,
⟨(some 25),.p .mv,[.t 7],none,[]⟩,
⟨(some 26),.p .len,[.t 25],none,[]⟩,
⟨(some 27),.p .max,[.t 24,.t 26],none,[]⟩,
⟨(some 5),.p .mv,[.t 27],none,[]⟩] false [])) <|
 .region [
⟨(some 28),.p (.bin .add),[.t 20,.c (.int .i64 1)],none,[]⟩,
⟨(some 20),.p .mv,[.t 28],none,[]⟩] false []))) <|
 .seq (.seq (.region [
⟨(some 29),.p .mv,[.t 5],none,[]⟩,
⟨(some 30),.p .mv,[.t 0],none,[]⟩,
⟨(some 31),.p .len,[.t 30],none,[]⟩,
⟨(some 32),.p (.bin .mul),[.t 29,.t 31],none,[]⟩,
⟨(some 33),.p (.bin .gtr),[.t 32,.c (.int .i64 200)],none,[]⟩] false []) <|
 .cond (.t 33) (.seq (.region [
⟨(some 2),.p .mv,[.c (.slc none 0 0 none)],none,[]⟩,
⟨(some 3),.p .mv,[.c (.int .i64 3)],none,[]⟩] false []) <|
 .ret) (.skip)) <|
 .seq (.region [
⟨(some 8),.p .mv,[.c (.slc none 0 0 none)],none,[]⟩] false []) <|
 .seq (.seq (.region [
⟨(some 34),.p .mv,[.t 5],none,[]⟩,
⟨(some 35),.p .mv,[.c (.int .i64 0)],none,[]⟩] false []) <|
 .block 2 (.loop (.seq (.region [
⟨(some 36),.p (.bin .lss),[.t 35,.t 34],none,[]⟩] false []) <|
 .seq (.cond (.t 36) (.skip) (.exit 2)) <|
 .seq (.block 3 (.seq (.region [
⟨(some 37),.p .mv,[.t 35],none,[]⟩,
⟨(some 9),.p .mv,[.t 37],none,[]⟩] false []) <|
 .seq (.region [
⟨(some 38),.p .mv,[.t 0],none,[]⟩,
⟨(some 39),.p .len,[.t 38],none,[]⟩,
⟨(some 40),.p .mv,[.c (.int .i64 0)],none,[]⟩] false []) <|
 .block 4 (.loop (.seq (.region [
⟨(some 41),.p (.bin .lss),[.t 40,.t 39],none,[]⟩] false []) <|
 .seq (.cond (.t 41) (.skip) (.exit 4)) <|
 .seq (.block 5 (.seq (.region [
⟨(some 42),.p (.ia 1),[.t 38,.t 40],none,[]⟩,
⟨(some 43),.r (.ld 1 false),[.t 42],none,[]⟩,
⟨(some 11),.p .mv,[.t 43],none,[]⟩] false []) <|
 .seq (.region [
⟨(some 12),.p .mv,[.c (.str [])],none,[]⟩] false []) <|
 .seq (.seq (.region [
⟨(some 44),.p .mv,[.t 9],none,[]⟩,
⟨(some 45),.p .mv,[.t 11],none,[]⟩,
⟨(some 46),.p .len,[.t 45],none,[]⟩,
⟨(some 47),.p (.bin .lss),[.t 44,.t 46],none,[]⟩] false []) <|
 .cond (.t 47) (.region [
⟨(some 48),.p .mv,[.t 11],none,[]⟩,
⟨(some 49),.p .mv,[.t 9],none,[]⟩,
⟨(some 50),.p (.ia 1),[.t 48,.t 49],none,[]⟩,
⟨(some 51),.r (.ld 1 false),[.t 50],none,[]⟩,
⟨(some 12),.p .mv,[.t 51],none,[]⟩] false []) (.skip)) <|
 .region [
⟨(some 52),.p .mv,[.t 8],none,[]⟩,
⟨(some 53),.p .mv,[.t 12],none,[]⟩,
⟨(some 54),.w (.bsl 1 1 [(.str [])] [(0,1)]),[.t 53],none,[]⟩,
⟨(some 55),.w (.app 1 16),[.t 52,.t 54],none,[]⟩,
⟨(some 8),.p .mv,[.t 55],none,[]⟩] false [])) <|
 .region [
⟨(some 56),.p (.bin .add),[.t 40,.c (.int .i64 1)],none,[]⟩,
⟨(some 40),.p .mv,[.t 56],none,[]⟩] false [])))) <|
 .region [
⟨(some 57),.p (.bin .add),[.t 35,.c (.int .i64 1)],none,[]⟩,
⟨(some 35),.p .mv,[.t 57],none,[]⟩] false []))) <|
 .seq (.region [
⟨(some 58),.p .mv,[.t 8],none,[]⟩,
⟨(some 2),.p .mv,[.t 58],none,[]⟩,
⟨(some 3),.p .mv,[.c (.int .i64 0)],none,[]⟩] false []) <|
 .ret, [.tmp 2,.tmp 3]⟩
structure D141 (T : Tab) : Prop where
  fn : T.fn 141 = some ir141
  pr : T.prim 141 = none
  d164 : D164 T
/-- motley/list.Product -/
def ir142 : AFunc := ⟨.seq (.region [
⟨(some 2),.p .mv,[.c (.slc none 0 0 none)],none,[]⟩,
⟨(some 3),.p .mv,[.c (.int .i64 0)],none,[]⟩] false []) <|
 .seq (.seq (.region [
⟨(some 18),.p .mv,[.t 0],none,[]⟩,
⟨(some 19),.w .call,[.c (.fn 164 [] []),.t 18],none,[]⟩,
⟨(some 4),.p .mv,[.t 19],none,[]⟩] false []) <|
 .seq (.region [
⟨(some 20),.p .mv,[.t 4],none,[]⟩,
⟨(some 21),.p (.bin .neq),[.t 20,.c (.int .i64 0)],none,[]⟩] false []) <|
 .cond (.t 21) (.seq (.region [
⟨(some 22),.p .mv,[.t 4],none,[]⟩,
⟨(some 2),.p .mv,[.c (.slc none 0 0 none)],none,[]⟩,
⟨(some 3),.p .mv,[.t 22],none,[]⟩] false []) <|
 .ret) (.skip)) <|
 .seq (.region [
⟨(some 5),.p .mv,[.c (.int .i64 1)],none,[]⟩] false []) <|
 .seq (.seq (.region [
⟨(some 23),.p .mv,[.t 0],none,[]⟩,
⟨(some 24),.p .len,[.t 23],none,[]⟩,
⟨(some 25),.p .mv,[.c (.int .i64 0)],none,[]⟩] false []) <|
 .block 0 (.loop (.seq (.region [
⟨(some 26),.p (.bin .lss),[.t 25,.t 24],none,[]⟩] false []) <|
 .seq (.cond (.t 26) (.skip) (.exit 0)) <|
 .seq (.block 1 (.seq (.region [
⟨(some 27),.p (.ia 1),[.t 23,.t 25],none,[]⟩,
⟨(some 28),.r (.ld 1 false),[.t 27],none,[]⟩,
⟨(some 7),.p .mv,[.t 28],none,[]⟩] false []) <|
 .region [
⟨(some 29),.p .mv,[.t 5],none,[]⟩,
⟨(some 30),.p .mv,[.t 7],none,[]⟩,
⟨(some 31),.p .len,[.t 30],none,[]⟩,
⟨(some 32),.p (.bin .mul),[.t 29,.t 31],none,[]⟩,
⟨(some 33),.p .min,[.t 32,.c (.int .i64 201)],none,[]⟩,
⟨(some 5),.p .mv,[.t 33],none,[]⟩] false [])) <|
 .region [
⟨(some 34),.p (.bin .add),[.t 25,.c (.int .i64 1)],none,[]⟩,
⟨(some 25),.p .mv,[.t 34],none,[]⟩] false []))) <|
 .seq (.seq (.region [
⟨(some 35),.p .mv,[.t 0],none,[]⟩,
⟨(some 36),.p .len,[.t 35],none,[]⟩,
⟨(some 37),.p .mv,[.c (.int .i64 0)],none,[]⟩] false []) <|
 .block 2 (.loop (.seq (.region [
⟨(some 38),.p (.bin .lss),[.t 37,.t 36],none,[]⟩] false []) <|
 .seq (.cond (.t 38) (.skip) (.exit 2)) <|
 .seq (.block 3 (.seq (.region [
⟨(some 39),.p (.ia 1),[.t 35,.t 37],none,[]⟩,
⟨(some 40),.r (.ld 1 false),[.t 39],none,[]⟩,
⟨(some 9),.p .mv,[.t 40],none,[]⟩] false []) <|
 .seq (.region [
⟨(some 41),.p .mv,[.t 9],none,[]⟩,
⟨(some 42),.p .len,[.t 41],none,[]⟩,
⟨(some 43),.p (.bin .eql),[.t 42,.c (.int .i64 0)],none,[]⟩] false []) <|
 .cond (.t 43) (.seq (.region [
⟨(some 2),.p .mv,[.c (.slc none 0 0 none)],none,[]⟩,
⟨(some 3),.p .mv,[.c (.int .i64 0)],none,[]⟩] false []) <|
 .ret) (.skip))) <|
 .region [
⟨(some 44),.p (.bin .add),[.t 37,.c (.int .i64 1)],none,[]⟩,
⟨(some 37),.p .mv,[.t 44],none,[]⟩] false []))) <|
 .seq (.seq (.region [
⟨(some 45),.p .mv,[.t 5],none,[]⟩,
⟨(some 46),.p (.bin .gtr),[.t 45,.c (.int .i64 200)],none,[]⟩] false []) <|
 .cond (.t 46) (.seq (.region [
⟨(some 2),.p .mv,[.c (.slc none 0 0 none)],none,[]⟩,
⟨(some 3),.p .mv,[.c (.int .i64 3)],none,[]⟩] false []) <|
 .ret) (.skip)) <|
 .seq (.region [
⟨(some 47),.w (.bsl 1 1 [(.slc none 0 0 none)] [(0,1)]),[.c (.slc none 0 0 none)],none,[]⟩,
⟨(some 10),.p .mv,[.t 47],none,[]⟩] false []) <|
 .seq (.seq (.region [
⟨(some 48),.p .mv,[.t 0],none,[]⟩,
⟨(some 49),.p .len,[.t 48],none,[]⟩,
⟨(some 50),.p .mv,[.c (.int .i64 0)],none,[]⟩] false []) <|
 .block 4 (.loop (.seq (.region [
⟨(some 51),.p (.bin .lss),[.t 50,.t 49],none,[]⟩] false []) <|
 .seq (.cond (.t 51) (.skip) (.exit 4)) <|
 .seq (.block 5 (.seq (.region [
⟨(some 52),.p (.ia 1),[.t 48,.t 50],none,[]⟩,
⟨(some 53),.r (.ld 1 false),[.t 52],none,[]⟩,
⟨(some 12),.p .mv,[.t 53],none,[]⟩] false []) <|
 .seq (.region [
⟨(some 13),.p .mv,[.c (.slc none 0 0 none)],none,[]⟩] false []) <|
 .seq (.seq (.region [
⟨(some 54),.p .mv,[.t 10],none,[]⟩,
⟨(some 55),.p .len,[.t 54],none,[]⟩,
⟨(some 56),.p .mv,[.c (.int .i64 0)],none,[]⟩] false []) <|
 .block 6 (.loop (.seq (.region [
⟨(some 57),.p (.bin .lss),[.t 56,.t 55],none,[]⟩] false []) <|
 .seq (.cond (.t 57) (.skip) (.exit 6)) <|
 .seq (.block 7 (.seq (.region [
⟨(some 58),.p (.ia 1),[.t 54,.t 56],none,[]⟩,
⟨(some 59),.r (.ld 1 false),[.t 58],none,[]⟩,
⟨(some 15),.p .mv,[.t 59],none,[]⟩] false []) <|
 .seq (.region [
⟨(some 60),.p .mv,[.t 12],none,[]⟩,
⟨(some 61),.p .len,[.t 60],none,[]⟩,
⟨(some 62),.p .mv,[.c (.int .i64 0)],none,[]⟩] false []) <|
 .block 8 (.loop (.seq (.region [
⟨(some 63),.p (.bin .lss),[.t 62,.t 61],none,[]⟩] false []) <|
 .seq (.cond (.t 63) (.skip) (.exit 8)) <|
 .seq (.block 9 (.seq (.region [
⟨(some 64),.p (.ia 1),[.t 60,.t 62],none,[]⟩,
⟨(some 65),.r (.ld 1 false),[.t 64],none,[]⟩,
⟨(some 17),.p .mv,[.t 65],none,[]⟩] false []) <|
 .region [
⟨(some 66),.p .mv,[.t 13],none,[]⟩,
⟨(some 67),.p .mv,[.t 15],none,[]⟩,
⟨(some 68),.w .call,[.c (.fn 153 [] []),.t 67],none,[]⟩,
⟨(some 69),.p .mv,[.t 17],none,[]⟩,
⟨(some 70),.w (.bsl 1 1 [(.str [])] [(0,1)]),[.t 69],none,[]⟩,
⟨(some 71),.w (.app 1 16),[.t 68,.t 70],none,[]⟩,
⟨(some 72),.w (.bsl 1 1 [(.slc none 0 0 none)] [(0,1)]),[.t 71],none,[]⟩,
⟨(some 73),.w (.app 1 24),[.t 66,.t 72],none,[]⟩,
⟨(some 13),.p .mv,[.t 73],none,[]⟩] false [])) <|
 .region [
⟨(some 74),.p (.bin .add),[.t 62,.c (.int .i64 1)],none,[]⟩,
⟨(some 62),.p .mv,[.t 74],none,[]⟩] false [])))) <|
 .region [
⟨(some 75),.p (.bin .add),[.t 56,.c (.int .i64 1)],none,[]⟩,
⟨(some 56),.p .mv,[.t 75],none,[]⟩] false []))) <|
 .region [
⟨(some 76),.p .mv,[.t 13],none,[]⟩,
⟨(some 10),.p .mv,[.t 76],none,[]⟩] false [])) <|
 .region [
⟨(some 77),.p (.bin .add),[.t 50,.c (.int .i64 1)],none,[]⟩,
⟨(some 50),.p .mv,[.t 77],none,[]⟩] false []))) <|
 .seq (.region [
⟨(some 78),.p .mv,[.t 10],none,[]⟩,
⟨(some 2),.p .mv,[.t 78],none,[]⟩,
⟨(some 3),.p .mv,[.c (.int .i64 0)],none,[]⟩] false []) <|
 .ret, [.tmp 2,.tmp 3]⟩
structure D142 (T : Tab) : Prop where
  fn : T.fn 142 = some ir142
  pr : T.prim 142 = none
  d164 : D164 T
  d153 : D153 T
/-- motley/list.Reduce -/
def ir144 : AFunc := ⟨.seq (.region [
⟨(some 4),.p .mv,[.c (.int .i64 0)],none,[]⟩,
⟨(some 5),.p .mv,[.c (.int .i64 0)],none,[]⟩,
⟨(some 6),.p .mv,[.c (.int .i64 0)],none,[]⟩] false []) <|
 .seq (.seq (.region [
⟨(some 20),.p .mv,[.t 1],none,[]⟩,
⟨(some 21),.p .len,[.t 20],none,[]⟩,
⟨(some 22),.w .call,[.c (.fn 148 [] []),.t 21],none,[]⟩,
⟨(some 7),.p .mv,[.t 22],none,[]⟩] false []) <|
 .seq (.region [
⟨(some 23),.p .mv,[.t 7],none,[]⟩,
⟨(some 24),.p (.bin .neq),[.t 23,.c (.int .i64 0)],none,[]⟩] false []) <|
 .cond (.t 24) (.seq (.region [
⟨(some 25),.p .mv,[.t 7],none,[]⟩,
⟨(some 4),.p .mv,[.c (.int .i64 0)],none,[]⟩,
⟨(some 5),.p .mv,[.c (.int .i64 0)],none,[]⟩,
⟨(some 6),.p .mv,[.t 25],none,[]⟩] false []) <|
 .ret) (.skip)) <|
 .seq (.seq (.region [
⟨(some 27),.p .mv,[.t 0],none,[]⟩,
⟨(some 28),.w .call,[.c (.fn 167 [] []),.t 27,.c (.int .i64 0),.c (.int .i64 0)],none,[]⟩,
⟨(some 26),.p .mv,[.t 28],none,[]⟩,
⟨(some 29),.p (.ext 0),[.t 26],none,[]⟩,
⟨(some 30),.p (.ext 1),[.t 26],none,[]⟩,
⟨(some 31),.p (.ext 2),[.t 26],none,[]⟩,
⟨(some 8),.p .mv,[.t 29],none,[]⟩,
⟨(some 9),.p .mv,[.t 30],none,[]⟩,
⟨(some 10),.p .mv,[.t 31],none,[]⟩] false []) <|
 .seq (.region [
⟨(some 32),.p .mv,[.t 10],none,[]⟩,
⟨(some 33),.p (.bin .neq),[.t 32,.c (.int .i64 0)],none,[]⟩] false []) <|
 .cond (.t 33) (.seq (.region [
⟨(some 34),.p .mv,[.t 10],none,[]⟩,
⟨(some 4),.p .mv,[.c (.int .i64 0)],none,[]⟩,
⟨(some 5),.p .mv,[.c (.int .i64 0)],none,[]⟩,
⟨(some 6),.p .mv,[.t 34],none,[]⟩] false []) <|
 .ret) (.skip)) <|
 .seq (.seq (.region [
⟨(some 35),.p .mv,[.t 1],none,[]⟩,
⟨(some 36),.p .len,[.t 35],none,[]⟩,
⟨(some 37),.p .mv,[.c (.int .i64 0)],none,[]⟩] false []) <|
 .block 0 (.loop (.seq (.region [
⟨(some 38),.p (.bin .lss),[.t 37,.t 36],none,[]⟩] false []) <|
 .seq (.cond (.t 38) (.skip) (.exit 0)) <|
 .seq (.block 1 (.seq (.region [
⟨(some 39),.p (.ia 1),[.t 35,.t 37],none,[]⟩,
⟨(some 40),.r (.ld 1 false),[.t 39],none,[]⟩,
⟨(some 12),.p .mv,[.t 40],none,[]⟩] false []) <|
 .seq (.region [
⟨(some 42),.p .mv,[.t 0],none,[]⟩,
⟨(some 43),.p .mv,[.t 12],none,[]⟩,
⟨(some 44),.w .call,[.c (.fn 167 [] []),.t 42,.t 43,.c (.int .i64 0)],none,[]⟩,
⟨(some 41),.p .mv,[.t 44],none,[]⟩,
⟨(some 45),.p (.ext 0),[.t 41],none,[]⟩,
⟨(some 46),.p (.ext 1),[.t 41],none,[]⟩,
⟨(some 47),.p (.ext 2),[.t 41],none,[]⟩,
⟨(some 13),.p .mv,[.t 45],none,[]⟩,
⟨(some 14),.p .mv,[.t 46],none,[]⟩,
⟨(some 15),.p .mv,[.t 47],none,[]⟩] false []) <|
 .seq (.region [
⟨(some 48),.p .mv,[.t 15],none,[]⟩,
⟨(some 49),.p (.bin .neq),[.t 48,.c (.int .i64 0)],none,[]⟩] false []) <|
 .cond (.t 49) (.seq (.region [
⟨(some 50),.p .mv,[.t 15],none,[]⟩,
⟨(some 4),.p .mv,[.c (.int .i64 0)],none,[]⟩,
⟨(some 5),.p .mv,[.c (.int .i64 0)],none,[]⟩,
⟨(some 6),.p .mv,[.t 50],none,[]⟩] false []) <|
 .ret) (.skip))) <|
 .region [
⟨(some 51),.p (.bin .add),[.t 37,.c (.int .i64 1)],none,[]⟩,
⟨(some 37),.p .mv,[.t 51],none,[]⟩] false []))) <|
 .seq (.seq (.region [
⟨(some 52),.p .mv,[.t 1],none,[]⟩,
⟨(some 53),.p .len,[.t 52],none,[]⟩,
⟨(some 54),.p (.bin .eql),[.t 53,.c (.int .i64 0)],none,[]⟩] false []) <|
 .cond (.t 54) (.seq (.region [
⟨(some 4),.p .mv,[.c (.int .i64 0)],none,[]⟩,
⟨(some 5),.p .mv,[.c (.int .i64 0)],none,[]⟩,
⟨(some 6),.p .mv,[.c (.int .i64 0)],none,[]⟩] false []) <|
 .ret) (.skip)) <|
 .seq (.region [
⟨(some 55),.p .mv,[.t 1],none,[]⟩,
⟨(some 56),.p (.ia 1),[.t 55,.c (.int .i64 0)],none,[]⟩,
⟨(some 57),.r (.ld 1 false),[.t 56],none,[]⟩,
⟨(some 16),.p .mv,[.t 57],none,[]⟩,
⟨(some 17),.p .mv,[.c (.int .i64 0)],none,[]⟩] false []) <|
 .seq (.seq (.region [
⟨(some 58),.p .mv,[.t 1],none,[]⟩,
⟨(some 59),.p (.sl 1 true false false),[.t 58,.c (.int .i64 1)],none,[]⟩,
⟨(some 60),.p .len,[.t 59],none,[]⟩,
⟨(some 61),.p .mv,[.c (.int .i64 0)],none,[]⟩] false []) <|
 .block 2 (.loop (.seq (.region [
⟨(some 62),.p (.bin .lss),[.t 61,.t 60],none,[]⟩] false []) <|
 .seq (.cond (.t 62) (.skip) (.exit 2)) <|
 .seq (.block 3 (.seq (.region [
⟨(some 63),.p (.ia 1),[.t 59,.t 61],none,[]⟩,
⟨(some 64),.r (.ld 1 false),[.t 63],none,[]⟩,
⟨(some 19),.p .mv,[.t 64],none,[]⟩] false []) <|
 .seq (.region [
⟨(some 66),.p .mv,[.t 0],none,[]⟩,
⟨(some 67),.p .mv,[.t 16],none,[]⟩,
⟨(some 68),.p .mv,[.t 19],none,[]⟩,
⟨(some 69),.w .call,[.c (.fn 167 [] []),.t 66,.t 67,.t 68],none,[]⟩,
⟨(some 65),.p .mv,[.t 69],none,[]⟩,
⟨(some 70),.p (.ext 0),[.t 65],none,[]⟩,
⟨(some 71),.p (.ext 1),[.t 65],none,[]⟩,
⟨(some 72),.p (.ext 2),[.t 65],none,[]⟩,
⟨(some 16),.p .mv,[.t 70],none,[]⟩,
⟨(some 17),.p .mv,[.t 71],none,[]⟩] false []) <|
 .seq (.region [
⟨(some 73),.p .mv,[.t 17],none,[]⟩,
⟨(some 74),.p (.bin .neq),[.t 73,.c (.int .i64 0)],none,[]⟩] false []) <|
 .cond (.t 74) (.seq (.region [
⟨(some 75),.p .mv,[.t 17],none,[]⟩,
⟨(some 4),.p .mv,[.c (.int .i64 0)],none,[]⟩,
⟨(some 5),.p .mv,[.t 75],none,[]⟩,
⟨(some 6),.p .mv,[.c (.int .i64 0)],none,[]⟩] false []) <|
 .ret) (.skip))) <|
 .region [
⟨(some 76),.p (.bin .add),[.t 61,.c (.int .i64 1)],none,[]⟩,
⟨(some 61),.p .mv,[.t 76],none,[]⟩] false []))) <|
 .seq (.region [
⟨(some 77),.p .mv,[.t 16],none,[]⟩,
⟨(some 4),.p .mv,[.t 77],none,[]⟩,
⟨(some 5),.p .mv,[.c (.int .i64 0)],none,[]⟩,
⟨(some 6),.p .mv,[.c (.int .i64 0)],none,[]⟩] false []) <|
 .ret, [.tmp 4,.tmp 5,.tmp 6]⟩
structure D144 (T : Tab) : Prop where
  fn : T.fn 144 = some ir144
  pr : T.prim 144 = none
  d148 : D148 T
  d167 : D167 T
/-- motley/list.SortNumbers$1 -/
def ir172 : AFunc := ⟨.seq (.region [
⟨(some 3),.w .box,[.t 0],none,[]⟩,
⟨(some 4),.w .box,[.t 1],none,[]⟩,
⟨(some 5),.p .mv,[.c (.int .i64 0)],none,[]⟩] false []) <|
 .seq (.seq (.region [
⟨(some 6),.r (.ld 1 false),[.t 2],none,[]⟩] false []) <|
 .cond (.t 6) (.seq (.region [
⟨(some 7),.p (.fa 4),[.t 4],none,[]⟩,
⟨(some 8),.r (.ld 1 false),[.t 7],none,[]⟩,
⟨(some 9),.p (.fa 4),[.t 3],none,[]⟩,
⟨(some 10),.r (.ld 1 false),[.t 9],none,[]⟩,
⟨(some 11),.w .call,[.c (.fn 160 [] []),.t 8,.t 10],none,[]⟩,
⟨(some 5),.p .mv,[.t 11],none,[]⟩] false []) <|
 .ret) (.skip)) <|
 .seq (.region [
⟨(some 12),.p (.fa 4),[.t 3],none,[]⟩,
⟨(some 13),.r (.ld 1 false),[.t 12],none,[]⟩,
⟨(some 14),.p (.fa 4),[.t 4],none,[]⟩,
⟨(some 15),.r (.ld 1 false),[.t 14],none,[]⟩,
⟨(some 16),.w .call,[.c (.fn 160 [] []),.t 13,.t 15],none,[]⟩,
⟨(some 5),.p .mv,[.t 16],none,[]⟩] false []) <|
 .ret, [.tmp 5]⟩
structure D172 (T : Tab) : Prop where
  fn : T.fn 172 = some ir172
  pr : T.prim 172 = none
  d160 : D160 T
/-- motley/list.merged[motley/list.pair] -/
def ir171 : AFunc := ⟨.seq (.region [
⟨(some 4),.p .mv,[.c (.slc none 0 0 none)],none,[]⟩] false []) <|
 .seq (.seq (.region [
⟨(some 9),.p .mv,[.t 0],none,[]⟩,
⟨(some 10),.p .len,[.t 9],none,[]⟩,
⟨(some 11),.p (.bin .lss),[.t 10,.c (.int .i64 2)],none,[]⟩] false []) <|
 .cond (.t 11) (.seq (.region [
⟨(some 12),.p .mv,[.t 0],none,[]⟩,
⟨(some 13),.w .call,[.c (.fn 190 [] []),.t 12],none,[]⟩,
⟨(some 4),.p .mv,[.t 13],none,[]⟩] false []) <|
 .ret) (.skip)) <|
 .seq (.region [
⟨(some 14),.p .mv,[.t 0],none,[]⟩,
⟨(some 15),.p .len,[.t 14],none,[]⟩,
⟨(some 16),.p (.bin .quo),[.t 15,.c (.int .i64 2)],none,[]⟩,
⟨(some 5),.p .mv,[.t 16],none,[]⟩] false []) <|
 .seq (.region [
⟨(some 17),.p .mv,[.t 0],none,[]⟩,
⟨(some 18),.p .mv,[.t 5],none,[]⟩,
⟨(some 19),.p (.sl 5 false true false),[.t 17,.t 18],none,[]⟩,
⟨(some 20),.p .mv,[.t 1],none,[]⟩,
⟨(some 21),.w .call,[.c (.fn 171 [] []),.t 19,.t 20],none,[]⟩,
⟨(some 22),.p .mv,[.t 0],none,[]⟩,
⟨(some 23),.p .mv,[.t 5],none,[]⟩,
⟨(some 24),.p (.sl 5 true false false),[.t 22,.t 23],none,[]⟩,
⟨(some 25),.p .mv,[.t 1],none,[]⟩,
⟨(some 26),.w .call,[.c (.fn 171 [] []),.t 24,.t 25],none,[]⟩,
⟨(some 6),.p .mv,[.t 21],none,[]⟩,
⟨(some 7),.p .mv,[.t 26],none,[]⟩] true []) <|
 .seq (.region [
⟨(some 8),.p .mv,[.c (.slc none 0 0 none)],none,[]⟩] false []) <|
 .seq (.block 0 (.loop (.seq (.seq (.region [
⟨(some 27),.p .mv,[.t 6],none,[]⟩,
⟨(some 28),.p .len,[.t 27],none,[]⟩,
⟨(some 29),.p (.bin .gtr),[.t 28,.c (.int .i64 0)],none,[]⟩,
⟨(some 30),.p .mv,[.t 29],none,[]⟩,
⟨(some 31),.p .mv,[.t 7],(some (30,true)),[]⟩,
⟨(some 32),.p .len,[.t 31],(some (30,true)),[]⟩,
⟨(some 33),.p (.bin .gtr),[.t 32,.c (.int .i64 0)],(some (30,true)),[]⟩,
⟨(some 34),.p .pick,[.t 30,.t 33,.c (.bool false)],none,[]⟩] false []) <|
 .cond (.t 34) (.skip) (.exit 0)) <|
 .block 1 (.seq (.region [
⟨(some 35),.p .mv,[.t 1],none,[]⟩,
⟨(some 36),.p .mv,[.t 6],none,[]⟩,
⟨(some 37),.p (.ia 5),[.t 36,.c (.int .i64 0)],none,[]⟩,
⟨(some 38),.r (.ld 5 true),[.t 37],none,[]⟩,
⟨(some 39),.p .mv,[.t 7],none,[]⟩,
⟨(some 40),.p (.ia 5),[.t 39,.c (.int .i64 0)],none,[]⟩,
⟨(some 41),.r (.ld 5 true),[.t 40],none,[]⟩,
⟨(some 42),.w .call,[.t 35,.t 38,.t 41],none,[]⟩,
⟨(some 43),.p (.bin .gtr),[.t 42,.c (.int .i64 0)],none,[]⟩] true []) <|
 .cond (.t 43) (.region [
⟨(some 44),.p .mv,[.t 8],none,[]⟩,
⟨(some 45),.p .mv,[.t 7],none,[]⟩,
⟨(some 46),.p (.ia 5),[.t 45,.c (.int .i64 0)],none,[]⟩,
⟨(some 47),.r (.ld 5 true),[.t 46],none,[]⟩,
⟨(some 48),.w (.bsl 5 1 [(.int .i64 0),(.int .i64 0),(.str []),(.bool false),(.int .i64 0)] [(0,5)]),[.t 47],none,[]⟩,
⟨(some 49),.w (.app 5 48),[.t 44,.t 48],none,[]⟩,
⟨(some 50),.p .mv,[.t 7],none,[]⟩,
⟨(some 51),.p (.sl 5 true false false),[.t 50,.c (.int .i64 1)],none,[]⟩,
⟨(some 8),.p .mv,[.t 49],none,[]⟩,
⟨(some 7),.p .mv,[.t 51],none,[]⟩] true []) (.region [
⟨(some 52),.p .mv,[.t 8],none,[]⟩,
⟨(some 53),.p .mv,[.t 6],none,[]⟩,
⟨(some 54),.p (.ia 5),[.t 53,.c (.int .i64 0)],none,[]⟩,
⟨(some 55),.r (.ld 5 true),[.t 54],none,[]⟩,
⟨(some 56),.w (.bsl 5 1 [(.int .i64 0),(.int .i64 0),(.str []),(.bool false),(.int .i64 0)] [(0,5)]),[.t 55],none,[]⟩,
⟨(some 57),.w (.app 5 48),[.t 52,.t 56],none,[]⟩,
⟨(some 58),.p .mv,[.t 6],none,[]⟩,
⟨(some 59),.p (.sl 5 true false false),[.t 58,.c (.int .i64 1)],none,[]⟩,
⟨(some 8),.p .mv,[.t 57],none,[]⟩,
⟨(some 6),.p .mv,[.t 59],none,[]⟩] true []))))) <|
 .seq (.region [
⟨(some 60),.p .mv,[.t 8],none,[]⟩,
⟨(some 61),.p .mv,[.t 6],none,[]⟩,
⟨(some 62),.w (.app 5 48),[.t 60,.t 61],none,[]⟩,
⟨(some 63),.p .mv,[.t 7],none,[]⟩,
⟨(some 64),.w (.app 5 48),[.t 62,.t 63],none,[]⟩,
⟨(some 4),.p .mv,[.t 64],none,[]⟩] false []) <|
 .ret, [.tmp 4]⟩
structure D171 (T : Tab) : Prop where
  fn : T.fn 171 = some ir171
  pr : T.prim 171 = none
  d190 : D190 T
/-- motley/list.SortNumbers -/
def ir147 : AFunc := ⟨.seq (.region [
⟨(some 3),.w .box,[.t 1],none,[]⟩,
⟨(some 4),.p .mv,[.c (.slc none 0 0 none)],none,[]⟩,
⟨(some 5),.p .mv,[.c (.int .i64 0)],none,[]⟩] false []) <|
 .seq (.seq (.region [
⟨(some 15),.p .mv,[.t 0],none,[]⟩,
⟨(some 16),.p .len,[.t 15],none,[]⟩,
⟨(some 17),.w .call,[.c (.fn 148 [] []),.t 16],none,[]⟩,
⟨(some 6),.p .mv,[.t 17],none,[]⟩] false []) <|
 .seq (.region [
⟨(some 18),.p .mv,[.t 6],none,[]⟩,
⟨(some 19),.p (.bin .neq),[.t 18,.c (.int .i64 0)],none,[]⟩] false []) <|
 .cond (.t 19) (.seq (.region [
⟨(some 20),.p .mv,[.t 6],none,[]⟩,
⟨(some 4),.p .mv,[.c (.slc none 0 0 none)],none,[]⟩,
⟨(some 5),.p .mv,[.t 20],none,[]⟩] false []) <|
 .ret) (.skip)) <|
 .seq (.region [
⟨(some 7),.p .mv,[.c (.slc none 0 0 none)],none,[]⟩] false []) <|
 .seq (.seq (.region [
⟨(some 21),.p .mv,[.t 0],none,[]⟩,
⟨(some 22),.p .len,[.t 21],none,[]⟩,
⟨(some 23),.p .mv,[.c (.int .i64 0)],none,[]⟩] false []) <|
 .block 0 (.loop (.seq (.region [
⟨(some 24),.p (.bin .lss),[.t 23,.t 22],none,[]⟩] false []) <|
 .seq (.cond (.t 24) (.skip) (.exit 0)) <|
 .seq (.block 1 (.seq (.region [
⟨(some 25),.p (.ia 4),[.t 21,.t 23],none,[]⟩,
⟨(some 26),.r (.ld 4 true),[.t 25],none,[]⟩,
⟨(some 9),.w .box,[.c (.agg [(.int .i64 0),(.int .i64 0),(.str []),(.bool false)])],none,[]⟩,
⟨none,.w (.st 4),[.t 9,.t 26],none,[]⟩] false []) <|
 .seq (.region [
⟨(some 28),.r (.ld 4 true),[.t 9],none,[]⟩,
⟨(some 29),.w .call,[.c (.fn 170 [] []),.t 28],none,[]⟩,
⟨(some 27),.p .mv,[.t 29],none,[]⟩,
⟨(some 30),.p (.ext 0),[.t 27],none,[]⟩,
⟨(some 31),.p (.ext 1),[.t 27],none,[]⟩,
⟨(some 10),.p .mv,[.t 30],none,[]⟩,
⟨(some 11),.p .mv,[.t 31],none,[]⟩] false []) <|
 .seq (.seq (.region [
⟨(some 32),.p .mv,[.t 11],none,[]⟩,
⟨(some 33),.p (.bin .neq),[.t 32,.c (.int .i64 0)],none,[]⟩] false []) <|
 .cond (.t 33) (.seq (.region [
⟨(some 34),.p .mv,[.t 11],none,[]⟩,
⟨(some 4),.p .mv,[.c (.slc none 0 0 none)],none,[]⟩,
⟨(some 5),.p .mv,[.t 34],none,[]⟩] false []) <|
 .ret) (.skip)) <|
 .region [
⟨(some 35),.p .mv,[.t 7],none,[]⟩,
⟨(some 36),.r (.ld 4 true),[.t 9],none,[]⟩,
⟨(some 37),.p .mv,[.t 10],none,[]⟩,
⟨(some 38),.p (.bld [(.int .i64 0),(.int .i64 0),(.str []),(.bool false),(.int .i64 0)] [(0,4),(4,1)]),[.t 36,.t 37],none,[]⟩,
⟨(some 39),.w (.bsl 5 1 [(.int .i64 0),(.int .i64 0),(.str []),(.bool false),(.int .i64 0)] [(0,5)]),[.t 38],none,[]⟩,
⟨(some 40),.w (.app 5 48),[.t 35,.t 39],none,[]⟩,
⟨(some 7),.p .mv,[.t 40],none,[]⟩] false [])) <|
 .region [
⟨(some 41),.p (.bin .add),[.t 23,.c (.int .i64 1)],none,[]⟩,
⟨(some 23),.p .mv,[.t 41],none,[]⟩] false []))) <|
 .seq (.region [
⟨(some 42),.p .mv,[.t 7],none,[]⟩,
⟨(some 43),.p (.mkF 172 0),[.t 3],none,[]⟩,
⟨(some 44),.w .call,[.c (.fn 171 [] []),.t 42,.t 43],none,[]⟩,
⟨(some 7),.p .mv,[.t 44],none,[]⟩] false []) <|
 .seq (.region [
⟨(some 12),.p .mv,[.c (.slc none 0 0 none)],none,[]⟩] false []) <|
 .seq (.seq (.region [
⟨(some 45),.p .mv,[.t 7],none,[]⟩,
⟨(some 46),.p .len,[.t 45],none,[]⟩,
⟨(some 47),.p .mv,[.c (.int .i64 0)],none,[]⟩] false []) <|
 .block 2 (.loop (.seq (.region [
⟨(some 48),.p (.bin .lss),[.t 47,.t 46],none,[]⟩] false []) <|
 .seq (.cond (.t 48) (.skip) (.exit 2)) <|
 .seq (.block 3 (.seq (.region [
⟨(some 49),.p (.ia 5),[.t 45,.t 47],none,[]⟩,
⟨(some 50),.r (.ld 5 true),[.t 49],none,[]⟩,
⟨(some 14),.w .box,[.c (.agg [(.int .i64 0),(.int .i64 0),(.str []),(.bool false),(.int .i64 0)])],none,[]⟩,
⟨none,.w (.st 5),[.t 14,.t 50],none,[]⟩] false []) <|
 .region [
⟨(some 51),.p .mv,[.t 12],none,[]⟩,
⟨(some 52),.p (.fa 0),[.t 14],none,[]⟩,
⟨(some 53),.r (.ld 4 true),[.t 52],none,[]⟩,
⟨(some 54),.w (.bsl 4 1 [(.int .i64 0),(.int .i64 0),(.str []),(.bool false)] [(0,4)]),[.t 53],none,[]⟩,
⟨(some 55),.w (.app 4 40),[.t 51,.t 54],none,[]⟩,
⟨(some 12),.p .mv,[.t 55],none,[]⟩] false [])) <|
 .region [
⟨(some 56),.p (.bin .add),[.t 47,.c (.int .i64 1)],none,[]⟩,
⟨(some 47),.p .mv,[.t 56],none,[]⟩] false []))) <|
 .seq (.region [
⟨(some 57),.p .mv,[.t 12],none,[]⟩,
⟨(some 4),.p .mv,[.t 57],none,[]⟩,
⟨(some 5),.p .mv,[.c (.int .i64 0)],none,[]⟩] false []) <|
 .ret, [.tmp 4,.tmp 5]⟩
structure D147 (T : Tab) : Prop where
  fn : T.fn 147 = some ir147
  pr : T.prim 147 = none
  d148 : D148 T
  d170 : D170 T
  d172 : D172 T
  d171 : D171 T
/-- motley/list.First -/
def ir529 : AFunc := ⟨.seq (.region [
⟨(some 2),.p .mv,[.c (.int .i64 0)],none,[]⟩,
⟨(some 3),.p .mv,[.c (.bool false)],none,[]⟩,
⟨(some 4),.p .mv,[.c (.int .i64 0)],none,[]⟩] false []) <|
 .seq (.seq (.region [
⟨(some 12),.p .mv,[.t 0],none,[]⟩,
⟨(some 13),.p .len,[.t 12],none,[]⟩,
⟨(some 14),.w .call,[.c (.fn 148 [] []),.t 13],none,[]⟩,
⟨(some 5),.p .mv,[.t 14],none,[]⟩] false []) <|
 .seq (.region [
⟨(some 15),.p .mv,[.t 5],none,[]⟩,
⟨(some 16),.p (.bin .neq),[.t 15,.c (.int .i64 0)],none,[]⟩] false []) <|
 .cond (.t 16) (.seq (.region [
⟨(some 17),.p .mv,[.t 5],none,[]⟩,
⟨(some 2),.p .mv,[.c (.int .i64 0)],none,[]⟩,
⟨(some 3),.p .mv,[.c (.bool false)],none,[]⟩,
⟨(some 4),.p .mv,[.t 17],none,[]⟩] false []) <|
 .ret) (.skip)) <|
 .seq (.region [
⟨(some 6),.p .mv,[.c (.slc none 0 0 none)],none,[]⟩] false []) <|
 .seq (.seq (.region [
⟨(some 18),.p .mv,[.t 0],none,[]⟩,
⟨(some 19),.p .len,[.t 18],none,[]⟩,
⟨(some 20),.p .mv,[.c (.int .i64 0)],none,[]⟩] false []) <|
 .block 0 (.loop (.seq (.region [
⟨(some 21),.p (.bin .lss),[.t 20,.t 19],none,[]⟩] false []) <|
 .seq (.cond (.t 21) (.skip) (.exit 0)) <|
 .seq (.block 1 (.seq (.region [
⟨(some 22),.p (.ia 4),[.t 18,.t 20],none,[]⟩,
⟨(some 23),.r (.ld 4 true),[.t 22],none,[]⟩,
⟨(some 8),.w .box,[.c (.agg [(.int .i64 0),(.int .i64 0),(.str []),(.bool false)])],none,[]⟩,
⟨none,.w (.st 4),[.t 8,.t 23],none,[]⟩] false []) <|
 .seq (.region [
⟨(some 25),.r (.ld 4 true),[.t 8],none,[]⟩,
⟨(some 26),.w .call,[.c (.fn 274 [] []),.t 25],none,[]⟩,
⟨(some 24),.p .mv,[.t 26],none,[]⟩,
⟨(some 27),.p (.ext 0),[.t 24],none,[]⟩,
⟨(some 28),.p (.ext 1),[.t 24],none,[]⟩,
⟨(some 9),.p .mv,[.t 27],none,[]⟩,
⟨(some 10),.p .mv,[.t 28],none,[]⟩] false []) <|
 .seq (.seq (.region [
⟨(some 29),.p .mv,[.t 10],none,[]⟩,
⟨(some 30),.p (.bin .neq),[.t 29,.c (.int .i64 0)],none,[]⟩] false []) <|
 .cond (.t 30) (.seq (.region [
⟨(some 31),.p .mv,[.t 10],none,[]⟩,
⟨(some 2),.p .mv,[.c (.int .i64 0)],none,[]⟩,
⟨(some 3),.p .mv,[.c (.bool false)],none,[]⟩,
⟨(some 4),.p .mv,[.t 31],none,[]⟩] false []) <|
 .ret) (.skip)) <|
 .region [
⟨(some 32),.p .mv,[.t 6],none,[]⟩,
⟨(some 33),.p .mv,[.t 9],none,[]⟩,
⟨(some 34),.w (.bsl 1 1 [(.bool false)] [(0,1)]),[.t 33],none,[]⟩,
⟨(some 35),.w (.app 1 1),[.t 32,.t 34],none,[]⟩,
⟨(some 6),.p .mv,[.t 35],none,[]⟩] false [])) <|
 .region [
⟨(some 36),.p (.bin .add),[.t 20,.c (.int .i64 1)],none,[]⟩,
⟨(some 20),.p .mv,[.t 36],none,[]⟩] false []))) <|
 .seq (.seq (.region [
⟨(some 37),.p .mv,[.t 6],none,[]⟩,
⟨(some 38),.w .call,[.c (.fn 530 [] []),.t 37,.c (.bool true)],none,[]⟩,
⟨(some 11),.p .mv,[.t 38],none,[]⟩] false []) <|
 .seq (.region [
⟨(some 39),.p .mv,[.t 11],none,[]⟩,
⟨(some 40),.p (.bin .geq),[.t 39,.c (.int .i64 0)],none,[]⟩] false []) <|
 .cond (.t 40) (.seq (.region [
⟨(some 41),.p .mv,[.t 11],none,[]⟩,
⟨(some 2),.p .mv,[.t 41],none,[]⟩,
⟨(some 3),.p .mv,[.c (.bool true)],none,[]⟩,
⟨(some 4),.p .mv,[.c (.int .i64 0)],none,[]⟩] false []) <|
 .ret) (.skip)) <|
 .seq (.region [
⟨(some 2),.p .mv,[.c (.int .i64 0)],none,[]⟩,
⟨(some 3),.p .mv,[.c (.bool false)],none,[]⟩,
⟨(some 4),.p .mv,[.c (.int .i64 0)],none,[]⟩] false []) <|
 .ret, [.tmp 2,.tmp 3,.tmp 4]⟩
structure D529 (T : Tab) : Prop where
  fn : T.fn 529 = some ir529
  pr : T.prim 529 = none
  d148 : D148 T
  d274 : D274 T
  d530 : D530 T
end Go.Am
