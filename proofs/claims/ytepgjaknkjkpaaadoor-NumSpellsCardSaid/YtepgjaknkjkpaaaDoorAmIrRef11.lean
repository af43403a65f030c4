/- Texts of functions for the small machine, printed by mkfile.py out of the compiled functions, and for each what a table has to hold. -/
import Derived.Test.YtepgjaknkjkpaaaDoorAmPrimFD
import Derived.Test.YtepgjaknkjkpaaaDoorAmIrRef01
set_option linter.unusedVariables false
namespace Go.Am
/-- motley/motleyref11.Slice -/
def ir115 : AFunc := ⟨.seq (.region [
⟨(some 4),.p .mv,[.c (.slc none 0 0 none)],none,[]⟩,
⟨(some 5),.p .mv,[.c (.int .i64 0)],none,[]⟩] false []) <|
 .seq (.seq (.region [
⟨(some 10),.p .mv,[.t 0],none,[]⟩,
⟨(some 11),.p .len,[.t 10],none,[]⟩,
⟨(some 12),.p (.bin .gtr),[.t 11,.c (.int .i64 200)],none,[]⟩,
⟨(some 13),.p .mv,[.t 12],none,[]⟩,
⟨(some 14),.p .mv,[.t 1],(some (13,false)),[]⟩,
⟨(some 15),.p .len,[.t 14],(some (13,false)),[]⟩,
⟨(some 16),.p (.bin .gtr),[.t 15,.c (.int .i64 200)],(some (13,false)),[]⟩,
⟨(some 17),.p .pick,[.t 13,.c (.bool true),.t 16],none,[]⟩] false []) <|
 .cond (.t 17) (.seq (.region [
⟨(some 4),.p .mv,[.c (.slc none 0 0 none)],none,[]⟩,
⟨(some 5),.p .mv,[.c (.int .i64 3)],none,[]⟩] false []) <|
 .ret) (.skip)) <|
 .seq (.region [
⟨(some 6),.p .mv,[.c (.slc none 0 0 none)],none,[]⟩] false []) <|
 .seq (.seq (.region [
⟨(some 7),.p .mv,[.c (.int .i64 0)],none,[]⟩] false []) <|
 .block 0 (.loop (.seq (.seq (.region [
⟨(some 18),.p .mv,[.t 7],none,[]⟩,
⟨(some 19),.p .mv,[.t 1],none,[]⟩,
⟨(some 20),.p .len,[.t 19],none,[]⟩,
⟨(some 21),.p (.bin .lss),[.t 18,.t 20],none,[]⟩] false []) <|
 .cond (.t 21) (.skip) (.exit 0)) <|
 .seq (.block 1 (.seq (.region [
⟨(some 24),.p .mv,[.t 1],none,[]⟩,
⟨(some 25),.p .mv,[.t 7],none,[]⟩,
⟨(some 26),.p (.ia 1),[.t 24,.t 25],none,[]⟩,
⟨(some 27),.r (.ld 1 false),[.t 26],none,[]⟩,
⟨(some 8),.p .mv,[.t 27],none,[]⟩] false []) <|
 .seq (.seq (.region [
⟨(some 28),.p .mv,[.t 8],none,[]⟩,
⟨(some 29),.p (.bin .lss),[.t 28,.c (.int .i64 0)],none,[]⟩] false []) <|
 .cond (.t 29) (.region [
⟨(some 30),.p .mv,[.t 8],none,[]⟩,
⟨(some 31),.p .mv,[.t 0],none,[]⟩,
⟨(some 32),.p .len,[.t 31],none,[]⟩,
⟨(some 33),.p (.bin .add),[.t 30,.t 32],none,[]⟩,
⟨(some 8),.p .mv,[.t 33],none,[]⟩] false []) (.skip)) <|
 .seq (.region [
⟨(some 34),.p (.bld [(.int .i64 0),(.int .i64 0),(.str []),(.bool false)] []),[],none,[]⟩,
⟨(some 9),.w .box,[.c (.agg [(.int .i64 0),(.int .i64 0),(.str []),(.bool false)])],none,[]⟩,
⟨none,.w (.st 4),[.t 9,.t 34],none,[]⟩] false []) <|
 .seq (.seq (.region [
⟨(some 35),.p .mv,[.t 8],none,[]⟩,
⟨(some 36),.p (.bin .geq),[.t 35,.c (.int .i64 0)],none,[]⟩,
⟨(some 37),.p .mv,[.t 36],none,[]⟩,
⟨(some 38),.p .mv,[.t 8],(some (37,true)),[]⟩,
⟨(some 39),.p .mv,[.t 0],(some (37,true)),[]⟩,
⟨(some 40),.p .len,[.t 39],(some (37,true)),[]⟩,
⟨(some 41),.p (.bin .lss),[.t 38,.t 40],(some (37,true)),[]⟩,
⟨(some 42),.p .pick,[.t 37,.t 41,.c (.bool false)],none,[]⟩] false []) <|
 .cond (.t 42) (.region [
⟨(some 43),.p .mv,[.t 0],none,[]⟩,
⟨(some 44),.p .mv,[.t 8],none,[]⟩,
⟨(some 45),.p (.ia 1),[.t 43,.t 44],none,[]⟩,
⟨(some 46),.r (.ld 1 false),[.t 45],none,[]⟩,
⟨(some 47),.p (.bld [(.int .i64 0),(.int .i64 0),(.str []),(.bool false)] [(0,1),(2,1)]),[.c (.int .i64 2),.t 46],none,[]⟩,
⟨none,.w (.st 4),[.t 9,.t 47],none,[]⟩] false []) (.skip)) <|
 .region [
⟨(some 48),.p .mv,[.t 6],none,[]⟩,
⟨(some 49),.r (.ld 4 true),[.t 9],none,[]⟩,
⟨(some 50),.w (.bsl 4 1 [(.int .i64 0),(.int .i64 0),(.str []),(.bool false)] [(0,4)]),[.t 49],none,[]⟩,
⟨(some 51),.w (.app 4 40),[.t 48,.t 50],none,[]⟩,
⟨(some 6),.p .mv,[.t 51],none,[]⟩] false [])) <|
 .region [
⟨(some 22),.p .mv,[.t 7],none,[]⟩,
⟨(some 23),.p (.bin .add),[.t 22,.c (.int .i64 1)],none,[]⟩,
⟨(some 7),.p .mv,[.t 23],none,[]⟩] false []))) <|
 .seq (.region [
⟨(some 52),.p .mv,[.t 6],none,[]⟩,
⟨(some 4),.p .mv,[.t 52],none,[]⟩,
⟨(some 5),.p .mv,[.c (.int .i64 0)],none,[]⟩] false []) <|
 .ret, [.tmp 4,.tmp 5]⟩
structure D115 (T : Tab) : Prop where
  fn : T.fn 115 = some ir115
  pr : T.prim 115 = none
/-- motley/motleyref11.Parts -/
def ir118 : AFunc := ⟨.seq (.region [
⟨(some 4),.p .mv,[.c (.slc none 0 0 none)],none,[]⟩,
⟨(some 5),.p .mv,[.c (.slc none 0 0 none)],none,[]⟩,
⟨(some 6),.p .mv,[.c (.int .i64 0)],none,[]⟩] false []) <|
 .seq (.seq (.region [
⟨(some 10),.p .mv,[.t 0],none,[]⟩,
⟨(some 11),.p .len,[.t 10],none,[]⟩,
⟨(some 12),.p (.bin .gtr),[.t 11,.c (.int .i64 200)],none,[]⟩,
⟨(some 13),.p .mv,[.t 12],none,[]⟩,
⟨(some 14),.p .mv,[.t 1],(some (13,false)),[]⟩,
⟨(some 15),.p .len,[.t 14],(some (13,false)),[]⟩,
⟨(some 16),.p (.bin .gtr),[.t 15,.c (.int .i64 200)],(some (13,false)),[]⟩,
⟨(some 17),.p .pick,[.t 13,.c (.bool true),.t 16],none,[]⟩] false []) <|
 .cond (.t 17) (.seq (.region [
⟨(some 4),.p .mv,[.c (.slc none 0 0 none)],none,[]⟩,
⟨(some 5),.p .mv,[.c (.slc none 0 0 none)],none,[]⟩,
⟨(some 6),.p .mv,[.c (.int .i64 3)],none,[]⟩] false []) <|
 .ret) (.skip)) <|
 .seq (.seq (.region [
⟨(some 18),.p .mv,[.t 0],none,[]⟩,
⟨(some 19),.p .len,[.t 18],none,[]⟩,
⟨(some 20),.p .mv,[.t 1],none,[]⟩,
⟨(some 21),.p .len,[.t 20],none,[]⟩,
⟨(some 22),.p (.bin .neq),[.t 19,.t 21],none,[]⟩] false []) <|
 .cond (.t 22) (.seq (.region [
⟨(some 4),.p .mv,[.c (.slc none 0 0 none)],none,[]⟩,
⟨(some 5),.p .mv,[.c (.slc none 0 0 none)],none,[]⟩,
⟨(some 6),.p .mv,[.c (.int .i64 10)],none,[]⟩] false []) <|
 .ret) (.skip)) <|
 .seq (.region [
⟨(some 7),.p .mv,[.c (.slc none 0 0 none)],none,[]⟩,
⟨(some 8),.p .mv,[.c (.slc none 0 0 none)],none,[]⟩] false []) <|
 .seq (.seq (.region [
⟨(some 9),.p .mv,[.c (.int .i64 0)],none,[]⟩] false []) <|
 .block 0 (.loop (.seq (.seq (.region [
⟨(some 23),.p .mv,[.t 9],none,[]⟩,
⟨(some 24),.p .mv,[.t 0],none,[]⟩,
⟨(some 25),.p .len,[.t 24],none,[]⟩,
⟨(some 26),.p (.bin .lss),[.t 23,.t 25],none,[]⟩] false []) <|
 .cond (.t 26) (.skip) (.exit 0)) <|
 .seq (.block 1 (.seq (.region [
⟨(some 29),.p .mv,[.t 1],none,[]⟩,
⟨(some 30),.p .mv,[.t 9],none,[]⟩,
⟨(some 31),.p (.ia 1),[.t 29,.t 30],none,[]⟩,
⟨(some 32),.r (.ld 1 false),[.t 31],none,[]⟩] false []) <|
 .cond (.t 32) (.region [
⟨(some 33),.p .mv,[.t 7],none,[]⟩,
⟨(some 34),.p .mv,[.t 0],none,[]⟩,
⟨(some 35),.p .mv,[.t 9],none,[]⟩,
⟨(some 36),.p (.ia 1),[.t 34,.t 35],none,[]⟩,
⟨(some 37),.r (.ld 1 false),[.t 36],none,[]⟩,
⟨(some 38),.w (.bsl 1 1 [(.str [])] [(0,1)]),[.t 37],none,[]⟩,
⟨(some 39),.w (.app 1 16),[.t 33,.t 38],none,[]⟩,
⟨(some 7),.p .mv,[.t 39],none,[]⟩] false []) (.region [
⟨(some 40),.p .mv,[.t 8],none,[]⟩,
⟨(some 41),.p .mv,[.t 0],none,[]⟩,
⟨(some 42),.p .mv,[.t 9],none,[]⟩,
⟨(some 43),.p (.ia 1),[.t 41,.t 42],none,[]⟩,
⟨(some 44),.r (.ld 1 false),[.t 43],none,[]⟩,
⟨(some 45),.w (.bsl 1 1 [(.str [])] [(0,1)]),[.t 44],none,[]⟩,
⟨(some 46),.w (.app 1 16),[.t 40,.t 45],none,[]⟩,
⟨(some 8),.p .mv,[.t 46],none,[]⟩] false []))) <|
 .region [
⟨(some 27),.p .mv,[.t 9],none,[]⟩,
⟨(some 28),.p (.bin .add),[.t 27,.c (.int .i64 1)],none,[]⟩,
⟨(some 9),.p .mv,[.t 28],none,[]⟩] false []))) <|
 .seq (.region [
⟨(some 47),.p .mv,[.t 7],none,[]⟩,
⟨(some 48),.p .mv,[.t 8],none,[]⟩,
⟨(some 4),.p .mv,[.t 47],none,[]⟩,
⟨(some 5),.p .mv,[.t 48],none,[]⟩,
⟨(some 6),.p .mv,[.c (.int .i64 0)],none,[]⟩] false []) <|
 .ret, [.tmp 4,.tmp 5,.tmp 6]⟩
structure D118 (T : Tab) : Prop where
  fn : T.fn 118 = some ir118
  pr : T.prim 118 = none
/-- motley/motleyref11.Shuffle -/
def ir119 : AFunc := ⟨.seq (.region [
⟨(some 4),.p .mv,[.c (.slc none 0 0 none)],none,[]⟩,
⟨(some 5),.p .mv,[.c (.int .i64 0)],none,[]⟩] false []) <|
 .seq (.seq (.region [
⟨(some 11),.p .mv,[.t 0],none,[]⟩,
⟨(some 12),.p .len,[.t 11],none,[]⟩,
⟨(some 13),.p (.bin .gtr),[.t 12,.c (.int .i64 200)],none,[]⟩] false []) <|
 .cond (.t 13) (.seq (.region [
⟨(some 4),.p .mv,[.c (.slc none 0 0 none)],none,[]⟩,
⟨(some 5),.p .mv,[.c (.int .i64 3)],none,[]⟩] false []) <|
 .ret) (.skip)) <|
 .seq (.seq (.region [
⟨(some 6),.p .mv,[.c (.int .i64 0)],none,[]⟩] false []) <|
 .block 0 (.loop (.seq (.seq (.region [
⟨(some 14),.p .mv,[.t 6],none,[]⟩,
⟨(some 15),.p .mv,[.t 1],none,[]⟩,
⟨(some 16),.p .len,[.t 15],none,[]⟩,
⟨(some 17),.p (.bin .lss),[.t 14,.t 16],none,[]⟩] false []) <|
 .cond (.t 17) (.skip) (.exit 0)) <|
 .seq (.block 1 (.seq (.region [
⟨(some 20),.p .mv,[.t 1],none,[]⟩,
⟨(some 21),.p .mv,[.t 6],none,[]⟩,
⟨(some 22),.p (.ia 1),[.t 20,.t 21],none,[]⟩,
⟨(some 23),.r (.ld 1 false),[.t 22],none,[]⟩,
⟨(some 24),.p (.bin .lss),[.t 23,.c (.int .i64 0)],none,[]⟩] false []) <|
 .cond (.t 24) (.seq (.region [
⟨(some 4),.p .mv,[.c (.slc none 0 0 none)],none,[]⟩,
⟨(some 5),.p .mv,[.c (.int .i64 1)],none,[]⟩] false []) <|
 .ret) (.skip))) <|
 .region [
⟨(some 18),.p .mv,[.t 6],none,[]⟩,
⟨(some 19),.p (.bin .add),[.t 18,.c (.int .i64 1)],none,[]⟩,
⟨(some 6),.p .mv,[.t 19],none,[]⟩] false []))) <|
 .seq (.region [
⟨(some 25),.p .mv,[.t 0],none,[]⟩,
⟨(some 26),.w (.app 1 16),[.c (.slc none 0 0 none),.t 25],none,[]⟩,
⟨(some 7),.p .mv,[.t 26],none,[]⟩] false []) <|
 .seq (.seq (.region [
⟨(some 27),.p .mv,[.t 0],none,[]⟩,
⟨(some 28),.p .len,[.t 27],none,[]⟩,
⟨(some 29),.p (.bin .sub),[.t 28,.c (.int .i64 1)],none,[]⟩,
⟨(some 8),.p .mv,[.t 29],none,[]⟩] false []) <|
 .block 2 (.loop (.seq (.seq (.region [
⟨(some 30),.p .mv,[.t 8],none,[]⟩,
⟨(some 31),.p (.bin .gtr),[.t 30,.c (.int .i64 0)],none,[]⟩] false []) <|
 .cond (.t 31) (.skip) (.exit 2)) <|
 .seq (.block 3 (.seq (.region [
⟨(some 9),.p .mv,[.c (.int .i64 0)],none,[]⟩] false []) <|
 .seq (.seq (.region [
⟨(some 34),.p .mv,[.t 0],none,[]⟩,
⟨(some 35),.p .len,[.t 34],none,[]⟩,
⟨(some 36),.p (.bin .sub),[.t 35,.c (.int .i64 1)],none,[]⟩,
⟨(some 37),.p .mv,[.t 8],none,[]⟩,
⟨(some 38),.p (.bin .sub),[.t 36,.t 37],none,[]⟩,
⟨(some 10),.p .mv,[.t 38],none,[]⟩] false []) <|
 .seq (.region [
⟨(some 39),.p .mv,[.t 10],none,[]⟩,
⟨(some 40),.p .mv,[.t 1],none,[]⟩,
⟨(some 41),.p .len,[.t 40],none,[]⟩,
⟨(some 42),.p (.bin .lss),[.t 39,.t 41],none,[]⟩] false []) <|
 .cond (.t 42) (.region [
⟨(some 43),.p .mv,[.t 1],none,[]⟩,
⟨(some 44),.p .mv,[.t 10],none,[]⟩,
⟨(some 45),.p (.ia 1),[.t 43,.t 44],none,[]⟩,
⟨(some 46),.r (.ld 1 false),[.t 45],none,[]⟩,
⟨(some 47),.p .mv,[.t 8],none,[]⟩,
⟨(some 48),.p (.bin .add),[.t 47,.c (.int .i64 1)],none,[]⟩,
⟨(some 49),.p (.bin .rem),[.t 46,.t 48],none,[]⟩,
⟨(some 9),.p .mv,[.t 49],none,[]⟩] false []) (.skip)) <|
 .region [
⟨(some 50),.p .mv,[.t 7],none,[]⟩,
⟨(some 51),.p .mv,[.t 8],none,[]⟩,
⟨(some 52),.p .mv,[.t 7],none,[]⟩,
⟨(some 53),.p .mv,[.t 9],none,[]⟩,
⟨(some 54),.p .mv,[.t 7],none,[]⟩,
⟨(some 55),.p .mv,[.t 9],none,[]⟩,
⟨(some 56),.p (.ia 1),[.t 54,.t 55],none,[]⟩,
⟨(some 57),.r (.ld 1 false),[.t 56],none,[]⟩,
⟨(some 58),.p .mv,[.t 7],none,[]⟩,
⟨(some 59),.p .mv,[.t 8],none,[]⟩,
⟨(some 60),.p (.ia 1),[.t 58,.t 59],none,[]⟩,
⟨(some 61),.r (.ld 1 false),[.t 60],none,[]⟩,
⟨(some 62),.p (.ia 1),[.t 50,.t 51],none,[]⟩,
⟨none,.w (.st 1),[.t 62,.t 57],none,[]⟩,
⟨(some 63),.p (.ia 1),[.t 52,.t 53],none,[]⟩,
⟨none,.w (.st 1),[.t 63,.t 61],none,[]⟩] true [])) <|
 .region [
⟨(some 32),.p .mv,[.t 8],none,[]⟩,
⟨(some 33),.p (.bin .sub),[.t 32,.c (.int .i64 1)],none,[]⟩,
⟨(some 8),.p .mv,[.t 33],none,[]⟩] false []))) <|
 .seq (.region [
⟨(some 64),.p .mv,[.t 7],none,[]⟩,
⟨(some 4),.p .mv,[.t 64],none,[]⟩,
⟨(some 5),.p .mv,[.c (.int .i64 0)],none,[]⟩] false []) <|
 .ret, [.tmp 4,.tmp 5]⟩
structure D119 (T : Tab) : Prop where
  fn : T.fn 119 = some ir119
  pr : T.prim 119 = none
/-- motley/motleyref11.Splice -/
def ir123 : AFunc := ⟨.seq (.region [
⟨(some 8),.p .mv,[.c (.slc none 0 0 none)],none,[]⟩,
⟨(some 9),.p .mv,[.c (.slc none 0 0 none)],none,[]⟩,
⟨(some 10),.p .mv,[.c (.int .i64 0)],none,[]⟩] false []) <|
 .seq (.seq (.region [
⟨(some 13),.p .mv,[.t 0],none,[]⟩,
⟨(some 14),.p .len,[.t 13],none,[]⟩,
⟨(some 15),.p (.bin .gtr),[.t 14,.c (.int .i64 200)],none,[]⟩,
⟨(some 16),.p .mv,[.t 15],none,[]⟩,
⟨(some 17),.p .mv,[.t 3],(some (16,false)),[]⟩,
⟨(some 18),.p .len,[.t 17],(some (16,false)),[]⟩,
⟨(some 19),.p (.bin .gtr),[.t 18,.c (.int .i64 200)],(some (16,false)),[]⟩,
⟨(some 20),.p .pick,[.t 16,.c (.bool true),.t 19],none,[]⟩] false []) <|
 .cond (.t 20) (.seq (.region [
⟨(some 8),.p .mv,[.c (.slc none 0 0 none)],none,[]⟩,
⟨(some 9),.p .mv,[.c (.slc none 0 0 none)],none,[]⟩,
⟨(some 10),.p .mv,[.c (.int .i64 3)],none,[]⟩] false []) <|
 .ret) (.skip)) <|
 .seq (.seq (.region [
⟨(some 21),.p .mv,[.t 1],none,[]⟩,
⟨(some 22),.p (.bin .lss),[.t 21,.c (.int .i64 0)],none,[]⟩] false []) <|
 .cond (.t 22) (.region [
⟨(some 23),.p .mv,[.t 1],none,[]⟩,
⟨(some 24),.p .mv,[.t 0],none,[]⟩,
⟨(some 25),.p .len,[.t 24],none,[]⟩,
⟨(some 26),.p (.bin .add),[.t 23,.t 25],none,[]⟩,
⟨(some 1),.p .mv,[.t 26],none,[]⟩] false []) (.skip)) <|
 .seq (.seq (.region [
⟨(some 27),.p .mv,[.t 1],none,[]⟩,
⟨(some 28),.p (.bin .lss),[.t 27,.c (.int .i64 0)],none,[]⟩,
⟨(some 29),.p .mv,[.t 28],none,[]⟩,
⟨(some 30),.p .mv,[.t 1],(some (29,false)),[]⟩,
⟨(some 31),.p .mv,[.t 0],(some (29,false)),[]⟩,
⟨(some 32),.p .len,[.t 31],(some (29,false)),[]⟩,
⟨(some 33),.p (.bin .gtr),[.t 30,.t 32],(some (29,false)),[]⟩,
⟨(some 34),.p .pick,[.t 29,.c (.bool true),.t 33],none,[]⟩] false []) <|
 .cond (.t 34) (.seq (.region [
⟨(some 8),.p .mv,[.c (.slc none 0 0 none)],none,[]⟩,
⟨(some 9),.p .mv,[.c (.slc none 0 0 none)],none,[]⟩,
⟨(some 10),.p .mv,[.c (.int .i64 1)],none,[]⟩] false []) <|
 .ret) (.skip)) <|
 .seq (.region [
⟨(some 35),.p .mv,[.t 0],none,[]⟩,
⟨(some 36),.p .len,[.t 35],none,[]⟩,
⟨(some 37),.p .mv,[.t 1],none,[]⟩,
⟨(some 38),.p (.bin .sub),[.t 36,.t 37],none,[]⟩,
⟨(some 11),.p .mv,[.t 38],none,[]⟩] false []) <|
 .seq (.seq (.region [
⟨(some 39),.p .mv,[.t 2],none,[]⟩,
⟨(some 40),.p (.bin .lss),[.t 39,.c (.int .i64 0)],none,[]⟩] false []) <|
 .cond (.t 40) (.region [
⟨(some 41),.p .mv,[.t 11],none,[]⟩,
⟨(some 42),.p .mv,[.t 2],none,[]⟩,
⟨(some 43),.p .mv,[.t 0],none,[]⟩,
⟨(some 44),.p .len,[.t 43],none,[]⟩,
⟨(some 45),.p (.un .neg),[.t 44],none,[]⟩,
⟨(some 46),.p .max,[.t 42,.t 45],none,[]⟩,
⟨(some 47),.p (.bin .add),[.t 41,.t 46],none,[]⟩,
⟨(some 48),.p .max,[.c (.int .i64 0),.t 47],none,[]⟩,
⟨(some 2),.p .mv,[.t 48],none,[]⟩] false []) (.skip)) <|
 .seq (.region [
⟨(some 49),.p .mv,[.t 2],none,[]⟩,
⟨(some 50),.p .mv,[.t 11],none,[]⟩,
⟨(some 51),.p .min,[.t 49,.t 50],none,[]⟩,
⟨(some 2),.p .mv,[.t 51],none,[]⟩] false []) <|
 .seq (.region [
⟨(some 52),.p .mv,[.t 0],none,[]⟩,
⟨(some 53),.p .mv,[.t 1],none,[]⟩,
⟨(some 54),.p (.sl 1 false true false),[.t 52,.t 53],none,[]⟩,
⟨(some 55),.w (.app 1 16),[.c (.slc none 0 0 none),.t 54],none,[]⟩,
⟨(some 56),.p .mv,[.t 3],none,[]⟩,
⟨(some 57),.w (.app 1 16),[.t 55,.t 56],none,[]⟩,
⟨(some 58),.p .mv,[.t 0],none,[]⟩,
⟨(some 59),.p .mv,[.t 1],none,[]⟩,
⟨(some 60),.p .mv,[.t 2],none,[]⟩,
⟨(some 61),.p (.bin .add),[.t 59,.t 60],none,[]⟩,
⟨(some 62),.p (.sl 1 true false false),[.t 58,.t 61],none,[]⟩,
⟨(some 63),.w (.app 1 16),[.t 57,.t 62],none,[]⟩,
⟨(some 12),.p .mv,[.t 63],none,[]⟩] true []) <|
 .seq (.seq (.region [
⟨(some 64),.p .mv,[.t 12],none,[]⟩,
⟨(some 65),.p .len,[.t 64],none,[]⟩,
⟨(some 66),.p (.bin .gtr),[.t 65,.c (.int .i64 200)],none,[]⟩] false []) <|
 .cond (.t 66) (.seq (.region [
⟨(some 8),.p .mv,[.c (.slc none 0 0 none)],none,[]⟩,
⟨(some 9),.p .mv,[.c (.slc none 0 0 none)],none,[]⟩,
⟨(some 10),.p .mv,[.c (.int .i64 3)],none,[]⟩] false []) <|
 .ret) (.skip)) <|
 .seq (.region [
⟨(some 67),.p .mv,[.t 12],none,[]⟩,
⟨(some 68),.p .mv,[.t 0],none,[]⟩,
⟨(some 69),.p .mv,[.t 1],none,[]⟩,
⟨(some 70),.p .mv,[.t 1],none,[]⟩,
⟨(some 71),.p .mv,[.t 2],none,[]⟩,
⟨(some 72),.p (.bin .add),[.t 70,.t 71],none,[]⟩,
⟨(some 73),.p (.sl 1 true true false),[.t 68,.t 69,.t 72],none,[]⟩,
⟨(some 74),.w (.app 1 16),[.c (.slc none 0 0 none),.t 73],none,[]⟩,
⟨(some 8),.p .mv,[.t 67],none,[]⟩,
⟨(some 9),.p .mv,[.t 74],none,[]⟩,
⟨(some 10),.p .mv,[.c (.int .i64 0)],none,[]⟩] false []) <|
 .ret, [.tmp 8,.tmp 9,.tmp 10]⟩
structure D123 (T : Tab) : Prop where
  fn : T.fn 123 = some ir123
  pr : T.prim 123 = none
/-- motley/motleyref11.SortTexts -/
def ir125 : AFunc := ⟨.seq (.region [
⟨(some 2),.p .mv,[.c (.slc none 0 0 none)],none,[]⟩,
⟨(some 3),.p .mv,[.c (.int .i64 0)],none,[]⟩] false []) <|
 .seq (.seq (.region [
⟨(some 7),.p .mv,[.t 0],none,[]⟩,
⟨(some 8),.p .len,[.t 7],none,[]⟩,
⟨(some 9),.p (.bin .gtr),[.t 8,.c (.int .i64 200)],none,[]⟩] false []) <|
 .cond (.t 9) (.seq (.region [
⟨(some 2),.p .mv,[.c (.slc none 0 0 none)],none,[]⟩,
⟨(some 3),.p .mv,[.c (.int .i64 3)],none,[]⟩] false []) <|
 .ret) (.skip)) <|
 .seq (.region [
⟨(some 4),.p .mv,[.c (.slc none 0 0 none)],none,[]⟩] false []) <|
 .seq (.seq (.region [
⟨(some 5),.p .mv,[.c (.int .i64 0)],none,[]⟩] false []) <|
 .block 0 (.loop (.seq (.seq (.region [
⟨(some 10),.p .mv,[.t 5],none,[]⟩,
⟨(some 11),.p .mv,[.t 0],none,[]⟩,
⟨(some 12),.p .len,[.t 11],none,[]⟩,
⟨(some 13),.p (.bin .lss),[.t 10,.t 12],none,[]⟩] false []) <|
 .cond (.t 13) (.skip) (.exit 0)) <|
 .seq (.block 1 (.seq (.region [
⟨(some 16),.p .mv,[.t 4],none,[]⟩,
⟨(some 17),.p .mv,[.t 0],none,[]⟩,
⟨(some 18),.p .mv,[.t 5],none,[]⟩,
⟨(some 19),.p (.ia 1),[.t 17,.t 18],none,[]⟩,
⟨(some 20),.r (.ld 1 false),[.t 19],none,[]⟩,
⟨(some 21),.w (.bsl 1 1 [(.str [])] [(0,1)]),[.t 20],none,[]⟩,
⟨(some 22),.w (.app 1 16),[.t 16,.t 21],none,[]⟩,
⟨(some 4),.p .mv,[.t 22],none,[]⟩] false []) <|
 .seq (.region [
⟨(some 23),.p .mv,[.t 5],none,[]⟩,
⟨(some 6),.p .mv,[.t 23],none,[]⟩] false []) <|
 .block 2 (.loop (.seq (.seq (.region [
⟨(some 24),.p .mv,[.t 6],none,[]⟩,
⟨(some 25),.p (.bin .gtr),[.t 24,.c (.int .i64 0)],none,[]⟩,
⟨(some 26),.p .mv,[.t 25],none,[]⟩,
⟨(some 27),.p .mv,[.t 4],(some (26,true)),[]⟩,
⟨(some 28),.p .mv,[.t 6],(some (26,true)),[]⟩,
⟨(some 29),.p (.bin .sub),[.t 28,.c (.int .i64 1)],(some (26,true)),[]⟩,
⟨(some 30),.p (.ia 1),[.t 27,.t 29],(some (26,true)),[]⟩,
⟨(some 31),.r (.ld 1 false),[.t 30],(some (26,true)),[]⟩,
⟨(some 32),.p .mv,[.t 4],(some (26,true)),[]⟩,
⟨(some 33),.p .mv,[.t 6],(some (26,true)),[]⟩,
⟨(some 34),.p (.ia 1),[.t 32,.t 33],(some (26,true)),[]⟩,
⟨(some 35),.r (.ld 1 false),[.t 34],(some (26,true)),[]⟩,
⟨(some 36),.w .call,[.c (.fn 155 [] []),.t 31,.t 35],(some (26,true)),[]⟩,
⟨(some 37),.p (.bin .gtr),[.t 36,.c (.int .i64 0)],(some (26,true)),[]⟩,
⟨(some 38),.p .pick,[.t 26,.t 37,.c (.bool false)],none,[]⟩] true []) <|
 .cond (.t 38) (.skip) (.exit 2)) <|
 .seq (.block 3 (.region [
⟨(some 41),.p .mv,[.t 4],none,[]⟩,
⟨(some 42),.p .mv,[.t 6],none,[]⟩,
⟨(some 43),.p (.bin .sub),[.t 42,.c (.int .i64 1)],none,[]⟩,
⟨(some 44),.p .mv,[.t 4],none,[]⟩,
⟨(some 45),.p .mv,[.t 6],none,[]⟩,
⟨(some 46),.p .mv,[.t 4],none,[]⟩,
⟨(some 47),.p .mv,[.t 6],none,[]⟩,
⟨(some 48),.p (.ia 1),[.t 46,.t 47],none,[]⟩,
⟨(some 49),.r (.ld 1 false),[.t 48],none,[]⟩,
⟨(some 50),.p .mv,[.t 4],none,[]⟩,
⟨(some 51),.p .mv,[.t 6],none,[]⟩,
⟨(some 52),.p (.bin .sub),[.t 51,.c (.int .i64 1)],none,[]⟩,
⟨(some 53),.p (.ia 1),[.t 50,.t 52],none,[]⟩,
⟨(some 54),.r (.ld 1 false),[.t 53],none,[]⟩,
⟨(some 55),.p (.ia 1),[.t 41,.t 43],none,[]⟩,
⟨none,.w (.st 1),[.t 55,.t 49],none,[]⟩,
⟨(some 56),.p (.ia 1),[.t 44,.t 45],none,[]⟩,
⟨none,.w (.st 1),[.t 56,.t 54],none,[]⟩] true [])) <|
 .region [
⟨(some 39),.p .mv,[.t 6],none,[]⟩,
⟨(some 40),.p (.bin .sub),[.t 39,.c (.int .i64 1)],none,[]⟩,
⟨(some 6),.p .mv,[.t 40],none,[]⟩] false [])))) <|
 .region [
⟨(some 14),.p .mv,[.t 5],none,[]⟩,
⟨(some 15),.p (.bin .add),[.t 14,.c (.int .i64 1)],none,[]⟩,
⟨(some 5),.p .mv,[.t 15],none,[]⟩] false []))) <|
 .seq (.region [
⟨(some 57),.p .mv,[.t 4],none,[]⟩,
⟨(some 2),.p .mv,[.t 57],none,[]⟩,
⟨(some 3),.p .mv,[.c (.int .i64 0)],none,[]⟩] false []) <|
 .ret, [.tmp 2,.tmp 3]⟩
structure D125 (T : Tab) : Prop where
  fn : T.fn 125 = some ir125
  pr : T.prim 125 = none
  d155 : D155 T
/-- motley/motleyref11.Order -/
def ir156 : AFunc := ⟨.seq (.region [
⟨(some 4),.p .mv,[.c (.slc none 0 0 none)],none,[]⟩] false []) <|
 .seq (.region [
⟨(some 5),.p .mv,[.c (.slc none 0 0 none)],none,[]⟩] false []) <|
 .seq (.seq (.region [
⟨(some 6),.p .mv,[.c (.int .i64 0)],none,[]⟩] false []) <|
 .block 0 (.loop (.seq (.seq (.region [
⟨(some 8),.p .mv,[.t 6],none,[]⟩,
⟨(some 9),.p .mv,[.t 0],none,[]⟩,
⟨(some 10),.p .len,[.t 9],none,[]⟩,
⟨(some 11),.p (.bin .lss),[.t 8,.t 10],none,[]⟩] false []) <|
 .cond (.t 11) (.skip) (.exit 0)) <|
 .seq (.block 1 (.seq (.region [
⟨(some 14),.p .mv,[.t 5],none,[]⟩,
⟨(some 15),.p .mv,[.t 6],none,[]⟩,
⟨(some 16),.w (.bsl 1 1 [(.int .i64 0)] [(0,1)]),[.t 15],none,[]⟩,
⟨(some 17),.w (.app 1 8),[.t 14,.t 16],none,[]⟩,
⟨(some 5),.p .mv,[.t 17],none,[]⟩] false []) <|
 .seq (.region [
⟨(some 18),.p .mv,[.t 6],none,[]⟩,
⟨(some 7),.p .mv,[.t 18],none,[]⟩] false []) <|
 .block 2 (.loop (.seq (.seq (.region [
⟨(some 19),.p .mv,[.t 7],none,[]⟩,
⟨(some 20),.p (.bin .gtr),[.t 19,.c (.int .i64 0)],none,[]⟩,
⟨(some 21),.p .mv,[.t 20],none,[]⟩,
⟨(some 22),.p .mv,[.t 1],(some (21,true)),[]⟩,
⟨(some 23),.p (.un .not),[.t 22],(some (21,true)),[]⟩,
⟨(some 24),.p .mv,[.t 23],(some (21,true)),[]⟩,
⟨(some 25),.p .mv,[.t 0],(some (24,true)),[]⟩,
⟨(some 26),.p .mv,[.t 5],(some (24,true)),[]⟩,
⟨(some 27),.p .mv,[.t 7],(some (24,true)),[]⟩,
⟨(some 28),.p (.bin .sub),[.t 27,.c (.int .i64 1)],(some (24,true)),[]⟩,
⟨(some 29),.p (.ia 1),[.t 26,.t 28],(some (24,true)),[]⟩,
⟨(some 30),.r (.ld 1 false),[.t 29],(some (24,true)),[]⟩,
⟨(some 31),.p (.ia 1),[.t 25,.t 30],(some (24,true)),[]⟩,
⟨(some 32),.r (.ld 1 false),[.t 31],(some (24,true)),[]⟩,
⟨(some 33),.p .mv,[.t 0],(some (24,true)),[]⟩,
⟨(some 34),.p .mv,[.t 5],(some (24,true)),[]⟩,
⟨(some 35),.p .mv,[.t 7],(some (24,true)),[]⟩,
⟨(some 36),.p (.ia 1),[.t 34,.t 35],(some (24,true)),[]⟩,
⟨(some 37),.r (.ld 1 false),[.t 36],(some (24,true)),[]⟩,
⟨(some 38),.p (.ia 1),[.t 33,.t 37],(some (24,true)),[]⟩,
⟨(some 39),.r (.ld 1 false),[.t 38],(some (24,true)),[]⟩,
⟨(some 40),.p (.bin .gtr),[.t 32,.t 39],(some (24,true)),[]⟩,
⟨(some 41),.p .pick,[.t 24,.t 40,.c (.bool false)],(some (21,true)),[]⟩,
⟨(some 42),.p .mv,[.t 41],(some (21,true)),[]⟩,
⟨(some 43),.p .mv,[.t 1],(some (42,false)),[]⟩,
⟨(some 44),.p .mv,[.t 43],(some (42,false)),[]⟩,
⟨(some 45),.p .mv,[.t 0],(some (44,true)),[]⟩,
⟨(some 46),.p .mv,[.t 5],(some (44,true)),[]⟩,
⟨(some 47),.p .mv,[.t 7],(some (44,true)),[]⟩,
⟨(some 48),.p (.bin .sub),[.t 47,.c (.int .i64 1)],(some (44,true)),[]⟩,
⟨(some 49),.p (.ia 1),[.t 46,.t 48],(some (44,true)),[]⟩,
⟨(some 50),.r (.ld 1 false),[.t 49],(some (44,true)),[]⟩,
⟨(some 51),.p (.ia 1),[.t 45,.t 50],(some (44,true)),[]⟩,
⟨(some 52),.r (.ld 1 false),[.t 51],(some (44,true)),[]⟩,
⟨(some 53),.p .mv,[.t 0],(some (44,true)),[]⟩,
⟨(some 54),.p .mv,[.t 5],(some (44,true)),[]⟩,
⟨(some 55),.p .mv,[.t 7],(some (44,true)),[]⟩,
⟨(some 56),.p (.ia 1),[.t 54,.t 55],(some (44,true)),[]⟩,
⟨(some 57),.r (.ld 1 false),[.t 56],(some (44,true)),[]⟩,
⟨(some 58),.p (.ia 1),[.t 53,.t 57],(some (44,true)),[]⟩,
⟨(some 59),.r (.ld 1 false),[.t 58],(some (44,true)),[]⟩,
⟨(some 60),.p (.bin .lss),[.t 52,.t 59],(some (44,true)),[]⟩,
⟨(some 61),.p .pick,[.t 44,.t 60,.c (.bool false)],(some (42,false)),[]⟩,
⟨(some 62),.p .pick,[.t 42,.c (.bool true),.t 61],(some (21,true)),[]⟩,
⟨(some 63),.p .pick,[.t 21,.t 62,.c (.bool false)],none,[]⟩] true []) <|
 .cond (.t 63) (.skip) (.exit 2)) <|
 .seq (.block 3 (.region [
⟨(some 66),.p .mv,[.t 5],none,[]⟩,
⟨(some 67),.p .mv,[.t 7],none,[]⟩,
⟨(some 68),.p (.bin .sub),[.t 67,.c (.int .i64 1)],none,[]⟩,
⟨(some 69),.p .mv,[.t 5],none,[]⟩,
⟨(some 70),.p .mv,[.t 7],none,[]⟩,
⟨(some 71),.p .mv,[.t 5],none,[]⟩,
⟨(some 72),.p .mv,[.t 7],none,[]⟩,
⟨(some 73),.p (.ia 1),[.t 71,.t 72],none,[]⟩,
⟨(some 74),.r (.ld 1 false),[.t 73],none,[]⟩,
⟨(some 75),.p .mv,[.t 5],none,[]⟩,
⟨(some 76),.p .mv,[.t 7],none,[]⟩,
⟨(some 77),.p (.bin .sub),[.t 76,.c (.int .i64 1)],none,[]⟩,
⟨(some 78),.p (.ia 1),[.t 75,.t 77],none,[]⟩,
⟨(some 79),.r (.ld 1 false),[.t 78],none,[]⟩,
⟨(some 80),.p (.ia 1),[.t 66,.t 68],none,[]⟩,
⟨none,.w (.st 1),[.t 80,.t 74],none,[]⟩,
⟨(some 81),.p (.ia 1),[.t 69,.t 70],none,[]⟩,
⟨none,.w (.st 1),[.t 81,.t 79],none,[]⟩] true [])) <|
 .region [
⟨(some 64),.p .mv,[.t 7],none,[]⟩,
⟨(some 65),.p (.bin .sub),[.t 64,.c (.int .i64 1)],none,[]⟩,
⟨(some 7),.p .mv,[.t 65],none,[]⟩] false [])))) <|
 .region [
⟨(some 12),.p .mv,[.t 6],none,[]⟩,
⟨(some 13),.p (.bin .add),[.t 12,.c (.int .i64 1)],none,[]⟩,
⟨(some 6),.p .mv,[.t 13],none,[]⟩] false []))) <|
 .seq (.region [
⟨(some 82),.p .mv,[.t 5],none,[]⟩,
⟨(some 4),.p .mv,[.t 82],none,[]⟩] false []) <|
 .ret, [.tmp 4]⟩
structure D156 (T : Tab) : Prop where
  fn : T.fn 156 = some ir156
  pr : T.prim 156 = none
/-- motley/motleyref11.SortBy -/
def ir126 : AFunc := ⟨.seq (.region [
⟨(some 4),.p .mv,[.c (.slc none 0 0 none)],none,[]⟩,
⟨(some 5),.p .mv,[.c (.int .i64 0)],none,[]⟩] false []) <|
 .seq (.seq (.region [
⟨(some 9),.p .mv,[.t 0],none,[]⟩,
⟨(some 10),.p .len,[.t 9],none,[]⟩,
⟨(some 11),.p (.bin .gtr),[.t 10,.c (.int .i64 200)],none,[]⟩,
⟨(some 12),.p .mv,[.t 11],none,[]⟩,
⟨(some 13),.p .mv,[.t 1],(some (12,false)),[]⟩,
⟨(some 14),.p .len,[.t 13],(some (12,false)),[]⟩,
⟨(some 15),.p (.bin .gtr),[.t 14,.c (.int .i64 200)],(some (12,false)),[]⟩,
⟨(some 16),.p .pick,[.t 12,.c (.bool true),.t 15],none,[]⟩] false []) <|
 .cond (.t 16) (.seq (.region [
⟨(some 4),.p .mv,[.c (.slc none 0 0 none)],none,[]⟩,
⟨(some 5),.p .mv,[.c (.int .i64 3)],none,[]⟩] false []) <|
 .ret) (.skip)) <|
 .seq (.seq (.region [
⟨(some 17),.p .mv,[.t 0],none,[]⟩,
⟨(some 18),.p .len,[.t 17],none,[]⟩,
⟨(some 19),.p .mv,[.t 1],none,[]⟩,
⟨(some 20),.p .len,[.t 19],none,[]⟩,
⟨(some 21),.p (.bin .neq),[.t 18,.t 20],none,[]⟩] false []) <|
 .cond (.t 21) (.seq (.region [
⟨(some 4),.p .mv,[.c (.slc none 0 0 none)],none,[]⟩,
⟨(some 5),.p .mv,[.c (.int .i64 10)],none,[]⟩] false []) <|
 .ret) (.skip)) <|
 .seq (.region [
⟨(some 22),.p .mv,[.t 1],none,[]⟩,
⟨(some 23),.w .call,[.c (.fn 156 [] []),.t 22,.c (.bool false)],none,[]⟩,
⟨(some 6),.p .mv,[.t 23],none,[]⟩] false []) <|
 .seq (.region [
⟨(some 7),.p .mv,[.c (.slc none 0 0 none)],none,[]⟩] false []) <|
 .seq (.seq (.region [
⟨(some 8),.p .mv,[.c (.int .i64 0)],none,[]⟩] false []) <|
 .block 0 (.loop (.seq (.seq (.region [
⟨(some 24),.p .mv,[.t 8],none,[]⟩,
⟨(some 25),.p .mv,[.t 6],none,[]⟩,
⟨(some 26),.p .len,[.t 25],none,[]⟩,
⟨(some 27),.p (.bin .lss),[.t 24,.t 26],none,[]⟩] false []) <|
 .cond (.t 27) (.skip) (.exit 0)) <|
 .seq (.block 1 (.region [
⟨(some 30),.p .mv,[.t 7],none,[]⟩,
⟨(some 31),.p .mv,[.t 0],none,[]⟩,
⟨(some 32),.p .mv,[.t 6],none,[]⟩,
⟨(some 33),.p .mv,[.t 8],none,[]⟩,
⟨(some 34),.p (.ia 1),[.t 32,.t 33],none,[]⟩,
⟨(some 35),.r (.ld 1 false),[.t 34],none,[]⟩,
⟨(some 36),.p (.ia 1),[.t 31,.t 35],none,[]⟩,
⟨(some 37),.r (.ld 1 false),[.t 36],none,[]⟩,
⟨(some 38),.w (.bsl 1 1 [(.str [])] [(0,1)]),[.t 37],none,[]⟩,
⟨(some 39),.w (.app 1 16),[.t 30,.t 38],none,[]⟩,
⟨(some 7),.p .mv,[.t 39],none,[]⟩] false [])) <|
 .region [
⟨(some 28),.p .mv,[.t 8],none,[]⟩,
⟨(some 29),.p (.bin .add),[.t 28,.c (.int .i64 1)],none,[]⟩,
⟨(some 8),.p .mv,[.t 29],none,[]⟩] false []))) <|
 .seq (.region [
⟨(some 40),.p .mv,[.t 7],none,[]⟩,
⟨(some 4),.p .mv,[.t 40],none,[]⟩,
⟨(some 5),.p .mv,[.c (.int .i64 0)],none,[]⟩] false []) <|
 .ret, [.tmp 4,.tmp 5]⟩
structure D126 (T : Tab) : Prop where
  fn : T.fn 126 = some ir126
  pr : T.prim 126 = none
  d156 : D156 T
/-- motley/motleyref11.place -/
def ir161 : AFunc := ⟨.seq (.region [
⟨(some 4),.p .mv,[.c (.int .i64 0)],none,[]⟩] false []) <|
 .seq (.seq (.region [
⟨(some 5),.p .mv,[.c (.int .i64 0)],none,[]⟩] false []) <|
 .block 0 (.loop (.seq (.seq (.region [
⟨(some 6),.p .mv,[.t 5],none,[]⟩,
⟨(some 7),.p .mv,[.t 0],none,[]⟩,
⟨(some 8),.p .len,[.t 7],none,[]⟩,
⟨(some 9),.p (.bin .lss),[.t 6,.t 8],none,[]⟩] false []) <|
 .cond (.t 9) (.skip) (.exit 0)) <|
 .seq (.block 1 (.seq (.region [
⟨(some 12),.p .mv,[.t 0],none,[]⟩,
⟨(some 13),.p .mv,[.t 5],none,[]⟩,
⟨(some 14),.p (.ia 1),[.t 12,.t 13],none,[]⟩,
⟨(some 15),.r (.ld 1 false),[.t 14],none,[]⟩,
⟨(some 16),.p .mv,[.t 1],none,[]⟩,
⟨(some 17),.p (.bin .eql),[.t 15,.t 16],none,[]⟩] false []) <|
 .cond (.t 17) (.seq (.region [
⟨(some 18),.p .mv,[.t 5],none,[]⟩,
⟨(some 4),.p .mv,[.t 18],none,[]⟩] false []) <|
 .ret) (.skip))) <|
 .region [
⟨(some 10),.p .mv,[.t 5],none,[]⟩,
⟨(some 11),.p (.bin .add),[.t 10,.c (.int .i64 1)],none,[]⟩,
⟨(some 5),.p .mv,[.t 11],none,[]⟩] false []))) <|
 .seq (.region [
⟨(some 4),.p .mv,[.c (.int .i64 (-1))],none,[]⟩] false []) <|
 .ret, [.tmp 4]⟩
structure D161 (T : Tab) : Prop where
  fn : T.fn 161 = some ir161
  pr : T.prim 161 = none
/-- motley/motleyref11.Counts -/
def ir130 : AFunc := ⟨.seq (.region [
⟨(some 2),.p .mv,[.c (.slc none 0 0 none)],none,[]⟩,
⟨(some 3),.p .mv,[.c (.slc none 0 0 none)],none,[]⟩,
⟨(some 4),.p .mv,[.c (.int .i64 0)],none,[]⟩] false []) <|
 .seq (.seq (.region [
⟨(some 9),.p .mv,[.t 0],none,[]⟩,
⟨(some 10),.p .len,[.t 9],none,[]⟩,
⟨(some 11),.p (.bin .gtr),[.t 10,.c (.int .i64 200)],none,[]⟩] false []) <|
 .cond (.t 11) (.seq (.region [
⟨(some 2),.p .mv,[.c (.slc none 0 0 none)],none,[]⟩,
⟨(some 3),.p .mv,[.c (.slc none 0 0 none)],none,[]⟩,
⟨(some 4),.p .mv,[.c (.int .i64 3)],none,[]⟩] false []) <|
 .ret) (.skip)) <|
 .seq (.region [
⟨(some 5),.p .mv,[.c (.slc none 0 0 none)],none,[]⟩] false []) <|
 .seq (.region [
⟨(some 6),.p .mv,[.c (.slc none 0 0 none)],none,[]⟩] false []) <|
 .seq (.seq (.region [
⟨(some 7),.p .mv,[.c (.int .i64 0)],none,[]⟩] false []) <|
 .block 0 (.loop (.seq (.seq (.region [
⟨(some 12),.p .mv,[.t 7],none,[]⟩,
⟨(some 13),.p .mv,[.t 0],none,[]⟩,
⟨(some 14),.p .len,[.t 13],none,[]⟩,
⟨(some 15),.p (.bin .lss),[.t 12,.t 14],none,[]⟩] false []) <|
 .cond (.t 15) (.skip) (.exit 0)) <|
 .seq (.block 1 (.seq (.region [
⟨(some 18),.p .mv,[.t 5],none,[]⟩,
⟨(some 19),.p .mv,[.t 0],none,[]⟩,
⟨(some 20),.p .mv,[.t 7],none,[]⟩,
⟨(some 21),.p (.ia 1),[.t 19,.t 20],none,[]⟩,
⟨(some 22),.r (.ld 1 false),[.t 21],none,[]⟩,
⟨(some 23),.w .call,[.c (.fn 161 [] []),.t 18,.t 22],none,[]⟩,
⟨(some 8),.p .mv,[.t 23],none,[]⟩] false []) <|
 .seq (.region [
⟨(some 24),.p .mv,[.t 8],none,[]⟩,
⟨(some 25),.p (.bin .geq),[.t 24,.c (.int .i64 0)],none,[]⟩] false []) <|
 .cond (.t 25) (.region [
⟨(some 26),.p .mv,[.t 6],none,[]⟩,
⟨(some 27),.p .mv,[.t 8],none,[]⟩,
⟨(some 28),.p (.ia 1),[.t 26,.t 27],none,[]⟩,
⟨(some 29),.r (.ld 1 false),[.t 28],none,[]⟩,
⟨(some 30),.p (.bin .add),[.t 29,.c (.int .i64 1)],none,[]⟩,
⟨(some 31),.p (.ia 1),[.t 26,.t 27],none,[]⟩,
⟨none,.w (.st 1),[.t 31,.t 30],none,[]⟩] false []) (.seq (.region [
⟨(some 32),.p .mv,[.t 5],none,[]⟩,
⟨(some 33),.p .mv,[.t 0],none,[]⟩,
⟨(some 34),.p .mv,[.t 7],none,[]⟩,
⟨(some 35),.p (.ia 1),[.t 33,.t 34],none,[]⟩,
⟨(some 36),.r (.ld 1 false),[.t 35],none,[]⟩,
⟨(some 37),.w (.bsl 1 1 [(.str [])] [(0,1)]),[.t 36],none,[]⟩,
⟨(some 38),.w (.app 1 16),[.t 32,.t 37],none,[]⟩,
⟨(some 5),.p .mv,[.t 38],none,[]⟩] false []) <|
 .region [
⟨(some 39),.p .mv,[.t 6],none,[]⟩,
⟨(some 40),.w (.bsl 1 1 [(.int .i64 0)] [(0,1)]),[.c (.int .i64 1)],none,[]⟩,
⟨(some 41),.w (.app 1 8),[.t 39,.t 40],none,[]⟩,
⟨(some 6),.p .mv,[.t 41],none,[]⟩] false []))) <|
 .region [
⟨(some 16),.p .mv,[.t 7],none,[]⟩,
⟨(some 17),.p (.bin .add),[.t 16,.c (.int .i64 1)],none,[]⟩,
⟨(some 7),.p .mv,[.t 17],none,[]⟩] false []))) <|
 .seq (.region [
⟨(some 42),.p .mv,[.t 5],none,[]⟩,
⟨(some 43),.p .mv,[.t 6],none,[]⟩,
⟨(some 2),.p .mv,[.t 42],none,[]⟩,
⟨(some 3),.p .mv,[.t 43],none,[]⟩,
⟨(some 4),.p .mv,[.c (.int .i64 0)],none,[]⟩] false []) <|
 .ret, [.tmp 2,.tmp 3,.tmp 4]⟩
structure D130 (T : Tab) : Prop where
  fn : T.fn 130 = some ir130
  pr : T.prim 130 = none
  d161 : D161 T
/-- motley/motleyref11.Uniq -/
def ir129 : AFunc := ⟨.seq (.region [
⟨(some 2),.p .mv,[.c (.slc none 0 0 none)],none,[]⟩,
⟨(some 3),.p .mv,[.c (.int .i64 0)],none,[]⟩] false []) <|
 .seq (.region [
⟨(some 8),.p .mv,[.t 0],none,[]⟩,
⟨(some 9),.w .call,[.c (.fn 130 [] []),.t 8],none,[]⟩,
⟨(some 7),.p .mv,[.t 9],none,[]⟩,
⟨(some 10),.p (.ext 0),[.t 7],none,[]⟩,
⟨(some 11),.p (.ext 1),[.t 7],none,[]⟩,
⟨(some 12),.p (.ext 2),[.t 7],none,[]⟩,
⟨(some 4),.p .mv,[.t 10],none,[]⟩,
⟨(some 5),.p .mv,[.t 11],none,[]⟩,
⟨(some 6),.p .mv,[.t 12],none,[]⟩] false []) <|
 .seq (.region [
⟨(some 13),.p .mv,[.t 4],none,[]⟩,
⟨(some 14),.p .mv,[.t 6],none,[]⟩,
⟨(some 2),.p .mv,[.t 13],none,[]⟩,
⟨(some 3),.p .mv,[.t 14],none,[]⟩] false []) <|
 .ret, [.tmp 2,.tmp 3]⟩
structure D129 (T : Tab) : Prop where
  fn : T.fn 129 = some ir129
  pr : T.prim 129 = none
  d130 : D130 T
/-- motley/motleyref11.Union -/
def ir131 : AFunc := ⟨.seq (.region [
⟨(some 4),.p .mv,[.c (.slc none 0 0 none)],none,[]⟩,
⟨(some 5),.p .mv,[.c (.int .i64 0)],none,[]⟩] false []) <|
 .seq (.seq (.region [
⟨(some 9),.p .mv,[.t 0],none,[]⟩,
⟨(some 10),.p .len,[.t 9],none,[]⟩,
⟨(some 11),.p (.bin .gtr),[.t 10,.c (.int .i64 200)],none,[]⟩,
⟨(some 12),.p .mv,[.t 11],none,[]⟩,
⟨(some 13),.p .mv,[.t 1],(some (12,false)),[]⟩,
⟨(some 14),.p .len,[.t 13],(some (12,false)),[]⟩,
⟨(some 15),.p (.bin .gtr),[.t 14,.c (.int .i64 200)],(some (12,false)),[]⟩,
⟨(some 16),.p .pick,[.t 12,.c (.bool true),.t 15],none,[]⟩] false []) <|
 .cond (.t 16) (.seq (.region [
⟨(some 4),.p .mv,[.c (.slc none 0 0 none)],none,[]⟩,
⟨(some 5),.p .mv,[.c (.int .i64 3)],none,[]⟩] false []) <|
 .ret) (.skip)) <|
 .seq (.region [
⟨(some 6),.p .mv,[.c (.slc none 0 0 none)],none,[]⟩] false []) <|
 .seq (.seq (.region [
⟨(some 7),.p .mv,[.c (.int .i64 0)],none,[]⟩] false []) <|
 .block 0 (.loop (.seq (.seq (.region [
⟨(some 17),.p .mv,[.t 7],none,[]⟩,
⟨(some 18),.p .mv,[.t 0],none,[]⟩,
⟨(some 19),.p .len,[.t 18],none,[]⟩,
⟨(some 20),.p .mv,[.t 1],none,[]⟩,
⟨(some 21),.p .len,[.t 20],none,[]⟩,
⟨(some 22),.p (.bin .add),[.t 19,.t 21],none,[]⟩,
⟨(some 23),.p (.bin .lss),[.t 17,.t 22],none,[]⟩] false []) <|
 .cond (.t 23) (.skip) (.exit 0)) <|
 .seq (.block 1 (.seq (.region [
⟨(some 8),.p .mv,[.c (.str [])],none,[]⟩] false []) <|
 .seq (.seq (.region [
⟨(some 26),.p .mv,[.t 7],none,[]⟩,
⟨(some 27),.p .mv,[.t 0],none,[]⟩,
⟨(some 28),.p .len,[.t 27],none,[]⟩,
⟨(some 29),.p (.bin .lss),[.t 26,.t 28],none,[]⟩] false []) <|
 .cond (.t 29) (.region [
⟨(some 30),.p .mv,[.t 0],none,[]⟩,
⟨(some 31),.p .mv,[.t 7],none,[]⟩,
⟨(some 32),.p (.ia 1),[.t 30,.t 31],none,[]⟩,
⟨(some 33),.r (.ld 1 false),[.t 32],none,[]⟩,
⟨(some 8),.p .mv,[.t 33],none,[]⟩] false []) (.region [
⟨(some 34),.p .mv,[.t 1],none,[]⟩,
⟨(some 35),.p .mv,[.t 7],none,[]⟩,
⟨(some 36),.p .mv,[.t 0],none,[]⟩,
⟨(some 37),.p .len,[.t 36],none,[]⟩,
⟨(some 38),.p (.bin .sub),[.t 35,.t 37],none,[]⟩,
⟨(some 39),.p (.ia 1),[.t 34,.t 38],none,[]⟩,
⟨(some 40),.r (.ld 1 false),[.t 39],none,[]⟩,
⟨(some 8),.p .mv,[.t 40],none,[]⟩] false [])) <|
 .seq (.region [
⟨(some 41),.p .mv,[.t 6],none,[]⟩,
⟨(some 42),.p .mv,[.t 8],none,[]⟩,
⟨(some 43),.w .call,[.c (.fn 161 [] []),.t 41,.t 42],none,[]⟩,
⟨(some 44),.p (.bin .lss),[.t 43,.c (.int .i64 0)],none,[]⟩] false []) <|
 .cond (.t 44) (.region [
⟨(some 45),.p .mv,[.t 6],none,[]⟩,
⟨(some 46),.p .mv,[.t 8],none,[]⟩,
⟨(some 47),.w (.bsl 1 1 [(.str [])] [(0,1)]),[.t 46],none,[]⟩,
⟨(some 48),.w (.app 1 16),[.t 45,.t 47],none,[]⟩,
⟨(some 6),.p .mv,[.t 48],none,[]⟩] false []) (.skip))) <|
 .region [
⟨(some 24),.p .mv,[.t 7],none,[]⟩,
⟨(some 25),.p (.bin .add),[.t 24,.c (.int .i64 1)],none,[]⟩,
⟨(some 7),.p .mv,[.t 25],none,[]⟩] false []))) <|
 .seq (.region [
⟨(some 49),.p .mv,[.t 6],none,[]⟩,
⟨(some 4),.p .mv,[.t 49],none,[]⟩,
⟨(some 5),.p .mv,[.c (.int .i64 0)],none,[]⟩] false []) <|
 .ret, [.tmp 4,.tmp 5]⟩
structure D131 (T : Tab) : Prop where
  fn : T.fn 131 = some ir131
  pr : T.prim 131 = none
  d161 : D161 T
/-- motley/motleyref11.Pairs -/
def ir137 : AFunc := ⟨.seq (.region [
⟨(some 2),.p .mv,[.c (.slc none 0 0 none)],none,[]⟩,
⟨(some 3),.p .mv,[.c (.int .i64 0)],none,[]⟩] false []) <|
 .seq (.seq (.region [
⟨(some 7),.p .mv,[.t 0],none,[]⟩,
⟨(some 8),.p .len,[.t 7],none,[]⟩,
⟨(some 9),.p (.bin .gtr),[.t 8,.c (.int .i64 200)],none,[]⟩] false []) <|
 .cond (.t 9) (.seq (.region [
⟨(some 2),.p .mv,[.c (.slc none 0 0 none)],none,[]⟩,
⟨(some 3),.p .mv,[.c (.int .i64 3)],none,[]⟩] false []) <|
 .ret) (.skip)) <|
 .seq (.region [
⟨(some 4),.p .mv,[.c (.slc none 0 0 none)],none,[]⟩] false []) <|
 .seq (.seq (.region [
⟨(some 5),.p .mv,[.c (.int .i64 0)],none,[]⟩] false []) <|
 .block 0 (.loop (.seq (.seq (.region [
⟨(some 10),.p .mv,[.t 5],none,[]⟩,
⟨(some 11),.p .mv,[.t 0],none,[]⟩,
⟨(some 12),.p .len,[.t 11],none,[]⟩,
⟨(some 13),.p (.bin .lss),[.t 10,.t 12],none,[]⟩] false []) <|
 .cond (.t 13) (.skip) (.exit 0)) <|
 .seq (.block 1 (.seq (.region [
⟨(some 16),.p .mv,[.t 0],none,[]⟩,
⟨(some 17),.p .mv,[.t 5],none,[]⟩,
⟨(some 18),.p (.ia 1),[.t 16,.t 17],none,[]⟩,
⟨(some 19),.r (.ld 1 false),[.t 18],none,[]⟩,
⟨(some 20),.p (.bld [(.str []),(.str [])] [(0,1),(1,1)]),[.t 19,.c (.str [])],none,[]⟩,
⟨(some 6),.w .box,[.c (.agg [(.str []),(.str [])])],none,[]⟩,
⟨none,.w (.st 2),[.t 6,.t 20],none,[]⟩] false []) <|
 .seq (.seq (.region [
⟨(some 21),.p .mv,[.t 5],none,[]⟩,
⟨(some 22),.p (.bin .add),[.t 21,.c (.int .i64 1)],none,[]⟩,
⟨(some 23),.p .mv,[.t 0],none,[]⟩,
⟨(some 24),.p .len,[.t 23],none,[]⟩,
⟨(some 25),.p (.bin .lss),[.t 22,.t 24],none,[]⟩] false []) <|
 .cond (.t 25) (.region [
⟨(some 26),.p .mv,[.t 0],none,[]⟩,
⟨(some 27),.p .mv,[.t 5],none,[]⟩,
⟨(some 28),.p (.bin .add),[.t 27,.c (.int .i64 1)],none,[]⟩,
⟨(some 29),.p (.ia 1),[.t 26,.t 28],none,[]⟩,
⟨(some 30),.r (.ld 1 false),[.t 29],none,[]⟩,
⟨(some 31),.p (.iap 2 1),[.t 6,.c (.int .i64 1)],none,[]⟩,
⟨none,.w (.st 1),[.t 31,.t 30],none,[]⟩] false []) (.skip)) <|
 .region [
⟨(some 32),.p .mv,[.t 4],none,[]⟩,
⟨(some 33),.r (.ld 2 true),[.t 6],none,[]⟩,
⟨(some 34),.w (.bsl 2 1 [(.str []),(.str [])] [(0,2)]),[.t 33],none,[]⟩,
⟨(some 35),.w (.app 2 32),[.t 32,.t 34],none,[]⟩,
⟨(some 4),.p .mv,[.t 35],none,[]⟩] false [])) <|
 .region [
⟨(some 14),.p .mv,[.t 5],none,[]⟩,
⟨(some 15),.p (.bin .add),[.t 14,.c (.int .i64 2)],none,[]⟩,
⟨(some 5),.p .mv,[.t 15],none,[]⟩] false []))) <|
 .seq (.region [
⟨(some 36),.p .mv,[.t 4],none,[]⟩,
⟨(some 2),.p .mv,[.t 36],none,[]⟩,
⟨(some 3),.p .mv,[.c (.int .i64 0)],none,[]⟩] false []) <|
 .ret, [.tmp 2,.tmp 3]⟩
structure D137 (T : Tab) : Prop where
  fn : T.fn 137 = some ir137
  pr : T.prim 137 = none
/-- motley/motleyref11.many -/
def ir163 : AFunc := ⟨.seq (.region [
⟨(some 2),.p .mv,[.c (.bool false)],none,[]⟩] false []) <|
 .seq (.seq (.region [
⟨(some 4),.p .mv,[.t 0],none,[]⟩,
⟨(some 5),.p .len,[.t 4],none,[]⟩,
⟨(some 6),.p (.bin .gtr),[.t 5,.c (.int .i64 200)],none,[]⟩] false []) <|
 .cond (.t 6) (.seq (.region [
⟨(some 2),.p .mv,[.c (.bool true)],none,[]⟩] false []) <|
 .ret) (.skip)) <|
 .seq (.seq (.region [
⟨(some 3),.p .mv,[.c (.int .i64 0)],none,[]⟩] false []) <|
 .block 0 (.loop (.seq (.seq (.region [
⟨(some 7),.p .mv,[.t 3],none,[]⟩,
⟨(some 8),.p .mv,[.t 0],none,[]⟩,
⟨(some 9),.p .len,[.t 8],none,[]⟩,
⟨(some 10),.p (.bin .lss),[.t 7,.t 9],none,[]⟩] false []) <|
 .cond (.t 10) (.skip) (.exit 0)) <|
 .seq (.block 1 (.seq (.region [
⟨(some 13),.p .mv,[.t 0],none,[]⟩,
⟨(some 14),.p .mv,[.t 3],none,[]⟩,
⟨(some 15),.p (.ia 1),[.t 13,.t 14],none,[]⟩,
⟨(some 16),.r (.ld 1 false),[.t 15],none,[]⟩,
⟨(some 17),.p .len,[.t 16],none,[]⟩,
⟨(some 18),.p (.bin .gtr),[.t 17,.c (.int .i64 200)],none,[]⟩] false []) <|
 .cond (.t 18) (.seq (.region [
⟨(some 2),.p .mv,[.c (.bool true)],none,[]⟩] false []) <|
 .ret) (.skip))) <|
 .region [
⟨(some 11),.p .mv,[.t 3],none,[]⟩,
⟨(some 12),.p (.bin .add),[.t 11,.c (.int .i64 1)],none,[]⟩,
⟨(some 3),.p .mv,[.t 12],none,[]⟩] false []))) <|
 .seq (.region [
⟨(some 2),.p .mv,[.c (.bool false)],none,[]⟩] false []) <|
 .ret, [.tmp 2]⟩
structure D163 (T : Tab) : Prop where
  fn : T.fn 163 = some ir163
  pr : T.prim 163 = none
/-- motley/motleyref11.Zip -/
def ir139 : AFunc := ⟨.seq (.region [
⟨(some 2),.p .mv,[.c (.slc none 0 0 none)],none,[]⟩,
⟨(some 3),.p .mv,[.c (.int .i64 0)],none,[]⟩] false []) <|
 .seq (.seq (.region [
⟨(some 9),.p .mv,[.t 0],none,[]⟩,
⟨(some 10),.w .call,[.c (.fn 163 [] []),.t 9],none,[]⟩] false []) <|
 .cond (.t 10) (.seq (.region [
⟨(some 2),.p .mv,[.c (.slc none 0 0 none)],none,[]⟩,
⟨(some 3),.p .mv,[.c (.int .i64 3)],none,[]⟩] false []) <|
 .ret) (.skip)) <|
 .seq (.region [
⟨(some 4),.p .mv,[.c (.int .i64 0)],none,[]⟩] false []) <|
 .seq (.seq (.region [
⟨(some 5),.p .mv,[.c (.int .i64 0)],none,[]⟩] false []) <|
 .block 0 (.loop (.seq (.seq (.region [
⟨(some 11),.p .mv,[.t 5],none,[]⟩,
⟨(some 12),.p .mv,[.t 0],none,[]⟩,
⟨(some 13),.p .len,[.t 12],none,[]⟩,
⟨(some 14),.p (.bin .lss),[.t 11,.t 13],none,[]⟩] false []) <|
 .cond (.t 14) (.skip) (.exit 0)) <|
 .seq (.block 1 (.region [
⟨(some 17),.p .mv,[.t 4],none,[]⟩,
⟨(some 18),.p .mv,[.t 0],none,[]⟩,
⟨(some 19),.p .mv,[.t 5],none,[]⟩,
⟨(some 20),.p (.ia 1),[.t 18,.t 19],none,[]⟩,
⟨(some 21),.r (.ld 1 false),[.t 20],none,[]⟩,
⟨(some 22),.p .len,[.t 21],none,[]⟩,
⟨(some 23),.p .max,[.t 17,.t 22],none,[]⟩,
⟨(some 4),.p .mv,[.t 23],none,[]⟩] false [])) <|
 .region [
⟨(some 15),.p .mv,[.t 5],none,[]⟩,
⟨(some 16),.p (.bin .add),[.t 15,.c (.int .i64 1)],none,[]⟩,
⟨(some 5),.p .mv,[.t 16],none,[]⟩] false []))) <|
 .seq (.seq (.region [
⟨(some 24),.p .mv,[.t 4],none,[]⟩,
⟨(some 25),.p .mv,[.t 0],none,[]⟩,
⟨(some 26),.p .len,[.t 25],none,[]⟩,
⟨(some 27),.p (.bin .mul),[.t 24,.t 26],none,[]⟩,
⟨(some 28),.p (.bin .gtr),[.t 27,.c (.int .i64 200)],none,[]⟩] false []) <|
 .cond (.t 28) (.seq (.region [
⟨(some 2),.p .mv,[.c (.slc none 0 0 none)],none,[]⟩,
⟨(some 3),.p .mv,[.c (.int .i64 3)],none,[]⟩] false []) <|
 .ret) (.skip)) <|
 .seq (.region [
⟨(some 6),.p .mv,[.c (.slc none 0 0 none)],none,[]⟩] false []) <|
 .seq (.seq (.region [
⟨(some 7),.p .mv,[.c (.int .i64 0)],none,[]⟩] false []) <|
 .block 2 (.loop (.seq (.seq (.region [
⟨(some 29),.p .mv,[.t 7],none,[]⟩,
⟨(some 30),.p .mv,[.t 4],none,[]⟩,
⟨(some 31),.p (.bin .lss),[.t 29,.t 30],none,[]⟩] false []) <|
 .cond (.t 31) (.skip) (.exit 2)) <|
 .seq (.block 3 (.seq (.region [
⟨(some 8),.p .mv,[.c (.int .i64 0)],none,[]⟩] false []) <|
 .block 4 (.loop (.seq (.seq (.region [
⟨(some 34),.p .mv,[.t 8],none,[]⟩,
⟨(some 35),.p .mv,[.t 0],none,[]⟩,
⟨(some 36),.p .len,[.t 35],none,[]⟩,
⟨(some 37),.p (.bin .lss),[.t 34,.t 36],none,[]⟩] false []) <|
 .cond (.t 37) (.skip) (.exit 4)) <|
 .seq (.block 5 (.seq (.region [
⟨(some 40),.p .mv,[.t 7],none,[]⟩,
⟨(some 41),.p .mv,[.t 0],none,[]⟩,
⟨(some 42),.p .mv,[.t 8],none,[]⟩,
⟨(some 43),.p (.ia 1),[.t 41,.t 42],none,[]⟩,
⟨(some 44),.r (.ld 1 false),[.t 43],none,[]⟩,
⟨(some 45),.p .len,[.t 44],none,[]⟩,
⟨(some 46),.p (.bin .lss),[.t 40,.t 45],none,[]⟩] false []) <|
 .cond (.t 46) (.region [
⟨(some 47),.p .mv,[.t 6],none,[]⟩,
⟨(some 48),.p .mv,[.t 0],none,[]⟩,
⟨(some 49),.p .mv,[.t 8],none,[]⟩,
⟨(some 50),.p (.ia 1),[.t 48,.t 49],none,[]⟩,
⟨(some 51),.r (.ld 1 false),[.t 50],none,[]⟩,
⟨(some 52),.p .mv,[.t 7],none,[]⟩,
⟨(some 53),.p (.ia 1),[.t 51,.t 52],none,[]⟩,
⟨(some 54),.r (.ld 1 false),[.t 53],none,[]⟩,
⟨(some 55),.w (.bsl 1 1 [(.str [])] [(0,1)]),[.t 54],none,[]⟩,
⟨(some 56),.w (.app 1 16),[.t 47,.t 55],none,[]⟩,
⟨(some 6),.p .mv,[.t 56],none,[]⟩] false []) (.region [
⟨(some 57),.p .mv,[.t 6],none,[]⟩,
⟨(some 58),.w (.bsl 1 1 [(.str [])] [(0,1)]),[.c (.str [])],none,[]⟩,
⟨(some 59),.w (.app 1 16),[.t 57,.t 58],none,[]⟩,
⟨(some 6),.p .mv,[.t 59],none,[]⟩] false []))) <|
 .region [
⟨(some 38),.p .mv,[.t 8],none,[]⟩,
⟨(some 39),.p (.bin .add),[.t 38,.c (.int .i64 1)],none,[]⟩,
⟨(some 8),.p .mv,[.t 39],none,[]⟩] false [])))) <|
 .region [
⟨(some 32),.p .mv,[.t 7],none,[]⟩,
⟨(some 33),.p (.bin .add),[.t 32,.c (.int .i64 1)],none,[]⟩,
⟨(some 7),.p .mv,[.t 33],none,[]⟩] false []))) <|
 .seq (.region [
⟨(some 60),.p .mv,[.t 6],none,[]⟩,
⟨(some 2),.p .mv,[.t 60],none,[]⟩,
⟨(some 3),.p .mv,[.c (.int .i64 0)],none,[]⟩] false []) <|
 .ret, [.tmp 2,.tmp 3]⟩
structure D139 (T : Tab) : Prop where
  fn : T.fn 139 = some ir139
  pr : T.prim 139 = none
  d163 : D163 T
/-- motley/motleyref11.Product -/
def ir140 : AFunc := ⟨.seq (.region [
⟨(some 2),.p .mv,[.c (.slc none 0 0 none)],none,[]⟩,
⟨(some 3),.p .mv,[.c (.int .i64 0)],none,[]⟩] false []) <|
 .seq (.seq (.region [
⟨(some 11),.p .mv,[.t 0],none,[]⟩,
⟨(some 12),.w .call,[.c (.fn 163 [] []),.t 11],none,[]⟩] false []) <|
 .cond (.t 12) (.seq (.region [
⟨(some 2),.p .mv,[.c (.slc none 0 0 none)],none,[]⟩,
⟨(some 3),.p .mv,[.c (.int .i64 3)],none,[]⟩] false []) <|
 .ret) (.skip)) <|
 .seq (.region [
⟨(some 4),.p .mv,[.c (.int .i64 1)],none,[]⟩] false []) <|
 .seq (.seq (.region [
⟨(some 5),.p .mv,[.c (.int .i64 0)],none,[]⟩] false []) <|
 .block 0 (.loop (.seq (.seq (.region [
⟨(some 13),.p .mv,[.t 5],none,[]⟩,
⟨(some 14),.p .mv,[.t 0],none,[]⟩,
⟨(some 15),.p .len,[.t 14],none,[]⟩,
⟨(some 16),.p (.bin .lss),[.t 13,.t 15],none,[]⟩] false []) <|
 .cond (.t 16) (.skip) (.exit 0)) <|
 .seq (.block 1 (.seq (.seq (.region [
⟨(some 19),.p .mv,[.t 0],none,[]⟩,
⟨(some 20),.p .mv,[.t 5],none,[]⟩,
⟨(some 21),.p (.ia 1),[.t 19,.t 20],none,[]⟩,
⟨(some 22),.r (.ld 1 false),[.t 21],none,[]⟩,
⟨(some 23),.p .len,[.t 22],none,[]⟩,
⟨(some 24),.p (.bin .eql),[.t 23,.c (.int .i64 0)],none,[]⟩] false []) <|
 .cond (.t 24) (.seq (.region [
⟨(some 2),.p .mv,[.c (.slc none 0 0 none)],none,[]⟩,
⟨(some 3),.p .mv,[.c (.int .i64 0)],none,[]⟩] false []) <|
 .ret) (.skip)) <|
 .region [
⟨(some 25),.p .mv,[.t 4],none,[]⟩,
⟨(some 26),.p .mv,[.t 0],none,[]⟩,
⟨(some 27),.p .mv,[.t 5],none,[]⟩,
⟨(some 28),.p (.ia 1),[.t 26,.t 27],none,[]⟩,
⟨(some 29),.r (.ld 1 false),[.t 28],none,[]⟩,
⟨(some 30),.p .len,[.t 29],none,[]⟩,
⟨(some 31),.p (.bin .mul),[.t 25,.t 30],none,[]⟩,
⟨(some 32),.p .min,[.t 31,.c (.int .i64 40000)],none,[]⟩,
⟨(some 4),.p .mv,[.t 32],none,[]⟩] false [])) <|
 .region [
⟨(some 17),.p .mv,[.t 5],none,[]⟩,
⟨(some 18),.p (.bin .add),[.t 17,.c (.int .i64 1)],none,[]⟩,
⟨(some 5),.p .mv,[.t 18],none,[]⟩] false []))) <|
 .seq (.seq (.region [
⟨(some 33),.p .mv,[.t 4],none,[]⟩,
⟨(some 34),.p (.bin .gtr),[.t 33,.c (.int .i64 200)],none,[]⟩] false []) <|
 .cond (.t 34) (.seq (.region [
⟨(some 2),.p .mv,[.c (.slc none 0 0 none)],none,[]⟩,
⟨(some 3),.p .mv,[.c (.int .i64 3)],none,[]⟩] false []) <|
 .ret) (.skip)) <|
 .seq (.region [
⟨(some 35),.w (.bsl 1 1 [(.slc none 0 0 none)] [(0,1)]),[.c (.slc none 0 0 none)],none,[]⟩,
⟨(some 6),.p .mv,[.t 35],none,[]⟩] false []) <|
 .seq (.seq (.region [
⟨(some 7),.p .mv,[.c (.int .i64 0)],none,[]⟩] false []) <|
 .block 2 (.loop (.seq (.seq (.region [
⟨(some 36),.p .mv,[.t 7],none,[]⟩,
⟨(some 37),.p .mv,[.t 0],none,[]⟩,
⟨(some 38),.p .len,[.t 37],none,[]⟩,
⟨(some 39),.p (.bin .lss),[.t 36,.t 38],none,[]⟩] false []) <|
 .cond (.t 39) (.skip) (.exit 2)) <|
 .seq (.block 3 (.seq (.region [
⟨(some 8),.p .mv,[.c (.slc none 0 0 none)],none,[]⟩] false []) <|
 .seq (.seq (.region [
⟨(some 9),.p .mv,[.c (.int .i64 0)],none,[]⟩] false []) <|
 .block 4 (.loop (.seq (.seq (.region [
⟨(some 42),.p .mv,[.t 9],none,[]⟩,
⟨(some 43),.p .mv,[.t 6],none,[]⟩,
⟨(some 44),.p .len,[.t 43],none,[]⟩,
⟨(some 45),.p (.bin .lss),[.t 42,.t 44],none,[]⟩] false []) <|
 .cond (.t 45) (.skip) (.exit 4)) <|
 .seq (.block 5 (.seq (.region [
⟨(some 10),.p .mv,[.c (.int .i64 0)],none,[]⟩] false []) <|
 .block 6 (.loop (.seq (.seq (.region [
⟨(some 48),.p .mv,[.t 10],none,[]⟩,
⟨(some 49),.p .mv,[.t 0],none,[]⟩,
⟨(some 50),.p .mv,[.t 7],none,[]⟩,
⟨(some 51),.p (.ia 1),[.t 49,.t 50],none,[]⟩,
⟨(some 52),.r (.ld 1 false),[.t 51],none,[]⟩,
⟨(some 53),.p .len,[.t 52],none,[]⟩,
⟨(some 54),.p (.bin .lss),[.t 48,.t 53],none,[]⟩] false []) <|
 .cond (.t 54) (.skip) (.exit 6)) <|
 .seq (.block 7 (.region [
⟨(some 57),.p .mv,[.t 8],none,[]⟩,
⟨(some 58),.p .mv,[.t 6],none,[]⟩,
⟨(some 59),.p .mv,[.t 9],none,[]⟩,
⟨(some 60),.p (.ia 1),[.t 58,.t 59],none,[]⟩,
⟨(some 61),.r (.ld 1 false),[.t 60],none,[]⟩,
⟨(some 62),.w (.app 1 16),[.c (.slc none 0 0 none),.t 61],none,[]⟩,
⟨(some 63),.p .mv,[.t 0],none,[]⟩,
⟨(some 64),.p .mv,[.t 7],none,[]⟩,
⟨(some 65),.p (.ia 1),[.t 63,.t 64],none,[]⟩,
⟨(some 66),.r (.ld 1 false),[.t 65],none,[]⟩,
⟨(some 67),.p .mv,[.t 10],none,[]⟩,
⟨(some 68),.p (.ia 1),[.t 66,.t 67],none,[]⟩,
⟨(some 69),.r (.ld 1 false),[.t 68],none,[]⟩,
⟨(some 70),.w (.bsl 1 1 [(.str [])] [(0,1)]),[.t 69],none,[]⟩,
⟨(some 71),.w (.app 1 16),[.t 62,.t 70],none,[]⟩,
⟨(some 72),.w (.bsl 1 1 [(.slc none 0 0 none)] [(0,1)]),[.t 71],none,[]⟩,
⟨(some 73),.w (.app 1 24),[.t 57,.t 72],none,[]⟩,
⟨(some 8),.p .mv,[.t 73],none,[]⟩] true [(9,5),(12,5),(4,13)])) <|
 .region [
⟨(some 55),.p .mv,[.t 10],none,[]⟩,
⟨(some 56),.p (.bin .add),[.t 55,.c (.int .i64 1)],none,[]⟩,
⟨(some 10),.p .mv,[.t 56],none,[]⟩] false [])))) <|
 .region [
⟨(some 46),.p .mv,[.t 9],none,[]⟩,
⟨(some 47),.p (.bin .add),[.t 46,.c (.int .i64 1)],none,[]⟩,
⟨(some 9),.p .mv,[.t 47],none,[]⟩] false []))) <|
 .region [
⟨(some 74),.p .mv,[.t 8],none,[]⟩,
⟨(some 6),.p .mv,[.t 74],none,[]⟩] false [])) <|
 .region [
⟨(some 40),.p .mv,[.t 7],none,[]⟩,
⟨(some 41),.p (.bin .add),[.t 40,.c (.int .i64 1)],none,[]⟩,
⟨(some 7),.p .mv,[.t 41],none,[]⟩] false []))) <|
 .seq (.region [
⟨(some 75),.p .mv,[.t 6],none,[]⟩,
⟨(some 2),.p .mv,[.t 75],none,[]⟩,
⟨(some 3),.p .mv,[.c (.int .i64 0)],none,[]⟩] false []) <|
 .ret, [.tmp 2,.tmp 3]⟩
structure D140 (T : Tab) : Prop where
  fn : T.fn 140 = some ir140
  pr : T.prim 140 = none
  d163 : D163 T
/-- motley/motleyref11.Reduce -/
def ir143 : AFunc := ⟨.seq (.region [
⟨(some 4),.p .mv,[.c (.int .i64 0)],none,[]⟩,
⟨(some 5),.p .mv,[.c (.int .i64 0)],none,[]⟩,
⟨(some 6),.p .mv,[.c (.int .i64 0)],none,[]⟩] false []) <|
 .seq (.seq (.region [
⟨(some 13),.p .mv,[.t 1],none,[]⟩,
⟨(some 14),.p .len,[.t 13],none,[]⟩,
⟨(some 15),.p (.bin .gtr),[.t 14,.c (.int .i64 200)],none,[]⟩] false []) <|
 .cond (.t 15) (.seq (.region [
⟨(some 4),.p .mv,[.c (.int .i64 0)],none,[]⟩,
⟨(some 5),.p .mv,[.c (.int .i64 0)],none,[]⟩,
⟨(some 6),.p .mv,[.c (.int .i64 3)],none,[]⟩] false []) <|
 .ret) (.skip)) <|
 .seq (.seq (.region [
⟨(some 16),.p .mv,[.t 0],none,[]⟩,
⟨(some 17),.p (.bin .lss),[.t 16,.c (.int .i64 0)],none,[]⟩,
⟨(some 18),.p .mv,[.t 17],none,[]⟩,
⟨(some 19),.p .mv,[.t 0],(some (18,false)),[]⟩,
⟨(some 20),.p (.bin .gtr),[.t 19,.c (.int .i64 8)],(some (18,false)),[]⟩,
⟨(some 21),.p .pick,[.t 18,.c (.bool true),.t 20],none,[]⟩] false []) <|
 .cond (.t 21) (.seq (.region [
⟨(some 4),.p .mv,[.c (.int .i64 0)],none,[]⟩,
⟨(some 5),.p .mv,[.c (.int .i64 0)],none,[]⟩,
⟨(some 6),.p .mv,[.c (.int .i64 1)],none,[]⟩] false []) <|
 .ret) (.skip)) <|
 .seq (.seq (.region [
⟨(some 7),.p .mv,[.c (.int .i64 0)],none,[]⟩] false []) <|
 .block 0 (.loop (.seq (.seq (.region [
⟨(some 22),.p .mv,[.t 7],none,[]⟩,
⟨(some 23),.p .mv,[.t 1],none,[]⟩,
⟨(some 24),.p .len,[.t 23],none,[]⟩,
⟨(some 25),.p (.bin .lss),[.t 22,.t 24],none,[]⟩] false []) <|
 .cond (.t 25) (.skip) (.exit 0)) <|
 .seq (.block 1 (.seq (.region [
⟨(some 28),.p .mv,[.t 1],none,[]⟩,
⟨(some 29),.p .mv,[.t 7],none,[]⟩,
⟨(some 30),.p (.ia 1),[.t 28,.t 29],none,[]⟩,
⟨(some 31),.r (.ld 1 false),[.t 30],none,[]⟩,
⟨(some 32),.w .call,[.c (.fn 165 [] []),.t 31],none,[]⟩,
⟨(some 33),.p (.un .not),[.t 32],none,[]⟩] false []) <|
 .cond (.t 33) (.seq (.region [
⟨(some 4),.p .mv,[.c (.int .i64 0)],none,[]⟩,
⟨(some 5),.p .mv,[.c (.int .i64 0)],none,[]⟩,
⟨(some 6),.p .mv,[.c (.int .i64 1)],none,[]⟩] false []) <|
 .ret) (.skip))) <|
 .region [
⟨(some 26),.p .mv,[.t 7],none,[]⟩,
⟨(some 27),.p (.bin .add),[.t 26,.c (.int .i64 1)],none,[]⟩,
⟨(some 7),.p .mv,[.t 27],none,[]⟩] false []))) <|
 .seq (.seq (.region [
⟨(some 34),.p .mv,[.t 1],none,[]⟩,
⟨(some 35),.p .len,[.t 34],none,[]⟩,
⟨(some 36),.p (.bin .eql),[.t 35,.c (.int .i64 0)],none,[]⟩] false []) <|
 .cond (.t 36) (.seq (.region [
⟨(some 4),.p .mv,[.c (.int .i64 0)],none,[]⟩,
⟨(some 5),.p .mv,[.c (.int .i64 0)],none,[]⟩,
⟨(some 6),.p .mv,[.c (.int .i64 0)],none,[]⟩] false []) <|
 .ret) (.skip)) <|
 .seq (.region [
⟨(some 37),.p .mv,[.t 1],none,[]⟩,
⟨(some 38),.p (.ia 1),[.t 37,.c (.int .i64 0)],none,[]⟩,
⟨(some 39),.r (.ld 1 false),[.t 38],none,[]⟩,
⟨(some 8),.p .mv,[.t 39],none,[]⟩] false []) <|
 .seq (.seq (.region [
⟨(some 9),.p .mv,[.c (.int .i64 1)],none,[]⟩] false []) <|
 .block 2 (.loop (.seq (.seq (.region [
⟨(some 40),.p .mv,[.t 9],none,[]⟩,
⟨(some 41),.p .mv,[.t 1],none,[]⟩,
⟨(some 42),.p .len,[.t 41],none,[]⟩,
⟨(some 43),.p (.bin .lss),[.t 40,.t 42],none,[]⟩] false []) <|
 .cond (.t 43) (.skip) (.exit 2)) <|
 .seq (.block 3 (.seq (.region [
⟨(some 47),.p .mv,[.t 0],none,[]⟩,
⟨(some 48),.p .mv,[.t 8],none,[]⟩,
⟨(some 49),.p .mv,[.t 1],none,[]⟩,
⟨(some 50),.p .mv,[.t 9],none,[]⟩,
⟨(some 51),.p (.ia 1),[.t 49,.t 50],none,[]⟩,
⟨(some 52),.r (.ld 1 false),[.t 51],none,[]⟩,
⟨(some 53),.w .call,[.c (.fn 166 [] []),.t 47,.t 48,.t 52],none,[]⟩,
⟨(some 46),.p .mv,[.t 53],none,[]⟩,
⟨(some 54),.p (.ext 0),[.t 46],none,[]⟩,
⟨(some 55),.p (.ext 1),[.t 46],none,[]⟩,
⟨(some 56),.p (.ext 2),[.t 46],none,[]⟩,
⟨(some 10),.p .mv,[.t 54],none,[]⟩,
⟨(some 11),.p .mv,[.t 55],none,[]⟩,
⟨(some 12),.p .mv,[.t 56],none,[]⟩] false []) <|
 .seq (.seq (.region [
⟨(some 57),.p .mv,[.t 11],none,[]⟩,
⟨(some 58),.p (.bin .neq),[.t 57,.c (.int .i64 0)],none,[]⟩] false []) <|
 .cond (.t 58) (.seq (.region [
⟨(some 59),.p .mv,[.t 11],none,[]⟩,
⟨(some 4),.p .mv,[.c (.int .i64 0)],none,[]⟩,
⟨(some 5),.p .mv,[.t 59],none,[]⟩,
⟨(some 6),.p .mv,[.c (.int .i64 0)],none,[]⟩] false []) <|
 .ret) (.skip)) <|
 .region [
⟨(some 60),.p .mv,[.t 10],none,[]⟩,
⟨(some 8),.p .mv,[.t 60],none,[]⟩] false [])) <|
 .region [
⟨(some 44),.p .mv,[.t 9],none,[]⟩,
⟨(some 45),.p (.bin .add),[.t 44,.c (.int .i64 1)],none,[]⟩,
⟨(some 9),.p .mv,[.t 45],none,[]⟩] false []))) <|
 .seq (.region [
⟨(some 61),.p .mv,[.t 8],none,[]⟩,
⟨(some 4),.p .mv,[.t 61],none,[]⟩,
⟨(some 5),.p .mv,[.c (.int .i64 0)],none,[]⟩,
⟨(some 6),.p .mv,[.c (.int .i64 0)],none,[]⟩] false []) <|
 .ret, [.tmp 4,.tmp 5,.tmp 6]⟩
structure D143 (T : Tab) : Prop where
  fn : T.fn 143 = some ir143
  pr : T.prim 143 = none
  d165 : D165 T
  d166 : D166 T
/-- motley/motleyref11.scalars -/
def ir168 : AFunc := ⟨.seq (.region [
⟨(some 2),.p .mv,[.c (.int .i64 0)],none,[]⟩] false []) <|
 .seq (.seq (.region [
⟨(some 5),.p .mv,[.t 0],none,[]⟩,
⟨(some 6),.p .len,[.t 5],none,[]⟩,
⟨(some 7),.p (.bin .gtr),[.t 6,.c (.int .i64 200)],none,[]⟩] false []) <|
 .cond (.t 7) (.seq (.region [
⟨(some 2),.p .mv,[.c (.int .i64 3)],none,[]⟩] false []) <|
 .ret) (.skip)) <|
 .seq (.seq (.region [
⟨(some 3),.p .mv,[.c (.int .i64 0)],none,[]⟩] false []) <|
 .block 0 (.loop (.seq (.seq (.region [
⟨(some 8),.p .mv,[.t 3],none,[]⟩,
⟨(some 9),.p .mv,[.t 0],none,[]⟩,
⟨(some 10),.p .len,[.t 9],none,[]⟩,
⟨(some 11),.p (.bin .lss),[.t 8,.t 10],none,[]⟩] false []) <|
 .cond (.t 11) (.skip) (.exit 0)) <|
 .seq (.block 1 (.seq (.region [
⟨(some 14),.p .mv,[.t 0],none,[]⟩,
⟨(some 15),.p .mv,[.t 3],none,[]⟩,
⟨(some 16),.p (.ia 4),[.t 14,.t 15],none,[]⟩,
⟨(some 17),.r (.ld 4 true),[.t 16],none,[]⟩,
⟨(some 18),.w .call,[.c (.fn 186 [] []),.t 17],none,[]⟩,
⟨(some 4),.p .mv,[.t 18],none,[]⟩] false []) <|
 .seq (.region [
⟨(some 19),.p .mv,[.t 4],none,[]⟩,
⟨(some 20),.p (.bin .neq),[.t 19,.c (.int .i64 0)],none,[]⟩] false []) <|
 .cond (.t 20) (.seq (.region [
⟨(some 21),.p .mv,[.t 4],none,[]⟩,
⟨(some 2),.p .mv,[.t 21],none,[]⟩] false []) <|
 .ret) (.skip))) <|
 .region [
⟨(some 12),.p .mv,[.t 3],none,[]⟩,
⟨(some 13),.p (.bin .add),[.t 12,.c (.int .i64 1)],none,[]⟩,
⟨(some 3),.p .mv,[.t 13],none,[]⟩] false []))) <|
 .seq (.region [
⟨(some 2),.p .mv,[.c (.int .i64 0)],none,[]⟩] false []) <|
 .ret, [.tmp 2]⟩
structure D168 (T : Tab) : Prop where
  fn : T.fn 168 = some ir168
  pr : T.prim 168 = none
  d186 : D186 T
/-- motley/motleyref11.SortNumbers -/
def ir146 : AFunc := ⟨.seq (.region [
⟨(some 4),.p .mv,[.c (.slc none 0 0 none)],none,[]⟩,
⟨(some 5),.p .mv,[.c (.int .i64 0)],none,[]⟩] false []) <|
 .seq (.seq (.region [
⟨(some 12),.p .mv,[.t 0],none,[]⟩,
⟨(some 13),.w .call,[.c (.fn 168 [] []),.t 12],none,[]⟩,
⟨(some 6),.p .mv,[.t 13],none,[]⟩] false []) <|
 .seq (.region [
⟨(some 14),.p .mv,[.t 6],none,[]⟩,
⟨(some 15),.p (.bin .neq),[.t 14,.c (.int .i64 0)],none,[]⟩] false []) <|
 .cond (.t 15) (.seq (.region [
⟨(some 16),.p .mv,[.t 6],none,[]⟩,
⟨(some 4),.p .mv,[.c (.slc none 0 0 none)],none,[]⟩,
⟨(some 5),.p .mv,[.t 16],none,[]⟩] false []) <|
 .ret) (.skip)) <|
 .seq (.region [
⟨(some 7),.p .mv,[.c (.slc none 0 0 none)],none,[]⟩] false []) <|
 .seq (.seq (.region [
⟨(some 8),.p .mv,[.c (.int .i64 0)],none,[]⟩] false []) <|
 .block 0 (.loop (.seq (.seq (.region [
⟨(some 17),.p .mv,[.t 8],none,[]⟩,
⟨(some 18),.p .mv,[.t 0],none,[]⟩,
⟨(some 19),.p .len,[.t 18],none,[]⟩,
⟨(some 20),.p (.bin .lss),[.t 17,.t 19],none,[]⟩] false []) <|
 .cond (.t 20) (.skip) (.exit 0)) <|
 .seq (.block 1 (.region [
⟨(some 23),.p .mv,[.t 7],none,[]⟩,
⟨(some 24),.p .mv,[.t 0],none,[]⟩,
⟨(some 25),.p .mv,[.t 8],none,[]⟩,
⟨(some 26),.p (.ia 4),[.t 24,.t 25],none,[]⟩,
⟨(some 27),.r (.ld 4 true),[.t 26],none,[]⟩,
⟨(some 28),.w .call,[.c (.fn 169 [] []),.t 27],none,[]⟩,
⟨(some 29),.w (.bsl 1 1 [(.int .i64 0)] [(0,1)]),[.t 28],none,[]⟩,
⟨(some 30),.w (.app 1 8),[.t 23,.t 29],none,[]⟩,
⟨(some 7),.p .mv,[.t 30],none,[]⟩] false [])) <|
 .region [
⟨(some 21),.p .mv,[.t 8],none,[]⟩,
⟨(some 22),.p (.bin .add),[.t 21,.c (.int .i64 1)],none,[]⟩,
⟨(some 8),.p .mv,[.t 22],none,[]⟩] false []))) <|
 .seq (.region [
⟨(some 31),.p .mv,[.t 7],none,[]⟩,
⟨(some 32),.p .mv,[.t 1],none,[]⟩,
⟨(some 33),.w .call,[.c (.fn 156 [] []),.t 31,.t 32],none,[]⟩,
⟨(some 9),.p .mv,[.t 33],none,[]⟩] false []) <|
 .seq (.region [
⟨(some 10),.p .mv,[.c (.slc none 0 0 none)],none,[]⟩] false []) <|
 .seq (.seq (.region [
⟨(some 11),.p .mv,[.c (.int .i64 0)],none,[]⟩] false []) <|
 .block 2 (.loop (.seq (.seq (.region [
⟨(some 34),.p .mv,[.t 11],none,[]⟩,
⟨(some 35),.p .mv,[.t 9],none,[]⟩,
⟨(some 36),.p .len,[.t 35],none,[]⟩,
⟨(some 37),.p (.bin .lss),[.t 34,.t 36],none,[]⟩] false []) <|
 .cond (.t 37) (.skip) (.exit 2)) <|
 .seq (.block 3 (.region [
⟨(some 40),.p .mv,[.t 10],none,[]⟩,
⟨(some 41),.p .mv,[.t 0],none,[]⟩,
⟨(some 42),.p .mv,[.t 9],none,[]⟩,
⟨(some 43),.p .mv,[.t 11],none,[]⟩,
⟨(some 44),.p (.ia 1),[.t 42,.t 43],none,[]⟩,
⟨(some 45),.r (.ld 1 false),[.t 44],none,[]⟩,
⟨(some 46),.p (.ia 4),[.t 41,.t 45],none,[]⟩,
⟨(some 47),.r (.ld 4 true),[.t 46],none,[]⟩,
⟨(some 48),.w (.bsl 4 1 [(.int .i64 0),(.int .i64 0),(.str []),(.bool false)] [(0,4)]),[.t 47],none,[]⟩,
⟨(some 49),.w (.app 4 40),[.t 40,.t 48],none,[]⟩,
⟨(some 10),.p .mv,[.t 49],none,[]⟩] false [])) <|
 .region [
⟨(some 38),.p .mv,[.t 11],none,[]⟩,
⟨(some 39),.p (.bin .add),[.t 38,.c (.int .i64 1)],none,[]⟩,
⟨(some 11),.p .mv,[.t 39],none,[]⟩] false []))) <|
 .seq (.region [
⟨(some 50),.p .mv,[.t 10],none,[]⟩,
⟨(some 4),.p .mv,[.t 50],none,[]⟩,
⟨(some 5),.p .mv,[.c (.int .i64 0)],none,[]⟩] false []) <|
 .ret, [.tmp 4,.tmp 5]⟩
structure D146 (T : Tab) : Prop where
  fn : T.fn 146 = some ir146
  pr : T.prim 146 = none
  d168 : D168 T
  d169 : D169 T
  d156 : D156 T
/-- motley/motleyref11.First -/
def ir528 : AFunc := ⟨.seq (.region [
⟨(some 2),.p .mv,[.c (.int .i64 0)],none,[]⟩,
⟨(some 3),.p .mv,[.c (.bool false)],none,[]⟩,
⟨(some 4),.p .mv,[.c (.int .i64 0)],none,[]⟩] false []) <|
 .seq (.seq (.region [
⟨(some 7),.p .mv,[.t 0],none,[]⟩,
⟨(some 8),.w .call,[.c (.fn 168 [] []),.t 7],none,[]⟩,
⟨(some 5),.p .mv,[.t 8],none,[]⟩] false []) <|
 .seq (.region [
⟨(some 9),.p .mv,[.t 5],none,[]⟩,
⟨(some 10),.p (.bin .neq),[.t 9,.c (.int .i64 0)],none,[]⟩] false []) <|
 .cond (.t 10) (.seq (.region [
⟨(some 11),.p .mv,[.t 5],none,[]⟩,
⟨(some 2),.p .mv,[.c (.int .i64 0)],none,[]⟩,
⟨(some 3),.p .mv,[.c (.bool false)],none,[]⟩,
⟨(some 4),.p .mv,[.t 11],none,[]⟩] false []) <|
 .ret) (.skip)) <|
 .seq (.seq (.region [
⟨(some 6),.p .mv,[.c (.int .i64 0)],none,[]⟩] false []) <|
 .block 0 (.loop (.seq (.seq (.region [
⟨(some 12),.p .mv,[.t 6],none,[]⟩,
⟨(some 13),.p .mv,[.t 0],none,[]⟩,
⟨(some 14),.p .len,[.t 13],none,[]⟩,
⟨(some 15),.p (.bin .lss),[.t 12,.t 14],none,[]⟩] false []) <|
 .cond (.t 15) (.skip) (.exit 0)) <|
 .seq (.block 1 (.seq (.region [
⟨(some 18),.p .mv,[.t 0],none,[]⟩,
⟨(some 19),.p .mv,[.t 6],none,[]⟩,
⟨(some 20),.p (.ia 4),[.t 18,.t 19],none,[]⟩,
⟨(some 21),.r (.ld 4 true),[.t 20],none,[]⟩,
⟨(some 22),.w .call,[.c (.fn 276 [] []),.t 21],none,[]⟩] false []) <|
 .cond (.t 22) (.seq (.region [
⟨(some 23),.p .mv,[.t 6],none,[]⟩,
⟨(some 2),.p .mv,[.t 23],none,[]⟩,
⟨(some 3),.p .mv,[.c (.bool true)],none,[]⟩,
⟨(some 4),.p .mv,[.c (.int .i64 0)],none,[]⟩] false []) <|
 .ret) (.skip))) <|
 .region [
⟨(some 16),.p .mv,[.t 6],none,[]⟩,
⟨(some 17),.p (.bin .add),[.t 16,.c (.int .i64 1)],none,[]⟩,
⟨(some 6),.p .mv,[.t 17],none,[]⟩] false []))) <|
 .seq (.region [
⟨(some 2),.p .mv,[.c (.int .i64 0)],none,[]⟩,
⟨(some 3),.p .mv,[.c (.bool false)],none,[]⟩,
⟨(some 4),.p .mv,[.c (.int .i64 0)],none,[]⟩] false []) <|
 .ret, [.tmp 2,.tmp 3,.tmp 4]⟩
structure D528 (T : Tab) : Prop where
  fn : T.fn 528 = some ir528
  pr : T.prim 528 = none
  d168 : D168 T
  d276 : D276 T
end Go.Am
