/- Texts of functions for the small machine, printed by mkir2.py out of the compiled functions, and for each what a table has to hold. -/
import Derived.Test.YtigpdaofldfkoaaAmPrimAD
import Derived.Test.YtigpdaofldfkoaaAmOra
set_option linter.unusedVariables false
namespace Go.Am
/-- motley/heap.New -/
def ir320 : AFunc := ⟨.seq (.region [
⟨(some 0),.p .mv,[.c (.ptr none)],none,[]⟩] false []) <|
 .seq (.region [
⟨(some 1),.w .mkM,[],none,[]⟩,
⟨(some 2),.p (.bld [(.int .i32 0),(.int .u32 0),(.slc none 0 0 none),(.map none),(.slc none 0 0 none)] [(3,1)]),[.t 1],none,[]⟩,
⟨(some 3),.w .box,[.t 2],none,[]⟩,
⟨(some 0),.p .mv,[.t 3],none,[]⟩] false []) <|
 .ret, [.tmp 0]⟩
structure D320 (T : Tab) : Prop where
  fn : T.fn 320 = some ir320
  pr : T.prim 320 = none
/-- (*internal/sync.Mutex).lockSlow -/
def ir391 : AFunc := ⟨.seq (.region [
⟨(some 2),.p .mv,[.c (.int .i64 0)],none,[]⟩] false []) <|
 .seq (.region [
⟨(some 3),.p .mv,[.c (.bool false)],none,[]⟩] false []) <|
 .seq (.region [
⟨(some 4),.p .mv,[.c (.bool false)],none,[]⟩] false []) <|
 .seq (.region [
⟨(some 5),.p .mv,[.c (.int .i64 0)],none,[]⟩] false []) <|
 .seq (.region [
⟨(some 10),.p .mv,[.t 0],none,[]⟩,
⟨(some 11),.p .nilC,[.t 10],none,[]⟩,
⟨(some 12),.p (.fa 0),[.t 11],none,[]⟩,
⟨(some 13),.r (.ld 1 false),[.t 12],none,[]⟩,
⟨(some 6),.p .mv,[.t 13],none,[]⟩] false []) <|
 .seq (.block 0 (.loop (.block 1 (.seq (.seq (.region [
⟨(some 14),.p .mv,[.t 6],none,[]⟩,
⟨(some 15),.p (.bin .and),[.t 14,.c (.int .i32 5)],none,[]⟩,
⟨(some 16),.p (.bin .eql),[.t 15,.c (.int .i32 1)],none,[]⟩,
⟨(some 17),.p .mv,[.t 16],none,[]⟩,
⟨(some 18),.p .mv,[.t 5],(some (17,true)),[]⟩,
⟨(some 19),.w .call,[.c (.fn 395 [] []),.t 18],(some (17,true)),[]⟩,
⟨(some 20),.p .pick,[.t 17,.t 19,.c (.bool false)],none,[]⟩] false []) <|
 .cond (.t 20) (.seq (.seq (.region [
⟨(some 21),.p .mv,[.t 4],none,[]⟩,
⟨(some 22),.p (.un .not),[.t 21],none,[]⟩,
⟨(some 23),.p .mv,[.t 22],none,[]⟩,
⟨(some 24),.p .mv,[.t 6],(some (23,true)),[]⟩,
⟨(some 25),.p (.bin .and),[.t 24,.c (.int .i32 2)],(some (23,true)),[]⟩,
⟨(some 26),.p (.bin .eql),[.t 25,.c (.int .i32 0)],(some (23,true)),[]⟩,
⟨(some 27),.p .pick,[.t 23,.t 26,.c (.bool false)],none,[]⟩,
⟨(some 28),.p .mv,[.t 27],none,[]⟩,
⟨(some 29),.p .mv,[.t 6],(some (28,true)),[]⟩,
⟨(some 30),.p (.bin .shr),[.t 29,.c (.int .u64 3)],(some (28,true)),[]⟩,
⟨(some 31),.p (.bin .neq),[.t 30,.c (.int .i32 0)],(some (28,true)),[]⟩,
⟨(some 32),.p .pick,[.t 28,.t 31,.c (.bool false)],none,[]⟩,
⟨(some 33),.p .mv,[.t 32],none,[]⟩,
⟨(some 34),.p .mv,[.t 0],(some (33,true)),[]⟩,
⟨(some 35),.p .nilC,[.t 34],(some (33,true)),[]⟩,
⟨(some 36),.p (.fa 0),[.t 35],(some (33,true)),[]⟩,
⟨(some 37),.p .mv,[.t 6],(some (33,true)),[]⟩,
⟨(some 38),.p .mv,[.t 6],(some (33,true)),[]⟩,
⟨(some 39),.p (.bin .or),[.t 38,.c (.int .i32 2)],(some (33,true)),[]⟩,
⟨(some 40),.w .call,[.c (.fn 388 [] []),.t 36,.t 37,.t 39],(some (33,true)),[]⟩,
⟨(some 41),.p .pick,[.t 33,.t 40,.c (.bool false)],none,[]⟩] false []) <|
 .cond (.t 41) (.region [
⟨(some 4),.p .mv,[.c (.bool true)],none,[]⟩] false []) (.skip)) <|
 .seq (.region [
⟨(some 42),.w .call,[.c (.fn 396 [] [])],none,[]⟩] false []) <|
 .seq (.region [
⟨(some 43),.p .mv,[.t 5],none,[]⟩,
⟨(some 44),.p (.bin .add),[.t 43,.c (.int .i64 1)],none,[]⟩,
⟨(some 5),.p .mv,[.t 44],none,[]⟩] false []) <|
 .seq (.region [
⟨(some 45),.p .mv,[.t 0],none,[]⟩,
⟨(some 46),.p .nilC,[.t 45],none,[]⟩,
⟨(some 47),.p (.fa 0),[.t 46],none,[]⟩,
⟨(some 48),.r (.ld 1 false),[.t 47],none,[]⟩,
⟨(some 6),.p .mv,[.t 48],none,[]⟩] false []) <|
 .exit 1) (.skip)) <|
 .seq (.region [
⟨(some 49),.p .mv,[.t 6],none,[]⟩,
⟨(some 7),.p .mv,[.t 49],none,[]⟩] false []) <|
 .seq (.seq (.region [
⟨(some 50),.p .mv,[.t 6],none,[]⟩,
⟨(some 51),.p (.bin .and),[.t 50,.c (.int .i32 4)],none,[]⟩,
⟨(some 52),.p (.bin .eql),[.t 51,.c (.int .i32 0)],none,[]⟩] false []) <|
 .cond (.t 52) (.region [
⟨(some 53),.p .mv,[.t 7],none,[]⟩,
⟨(some 54),.p (.bin .or),[.t 53,.c (.int .i32 1)],none,[]⟩,
⟨(some 7),.p .mv,[.t 54],none,[]⟩] false []) (.skip)) <|
 .seq (.seq (.region [
⟨(some 55),.p .mv,[.t 6],none,[]⟩,
⟨(some 56),.p (.bin .and),[.t 55,.c (.int .i32 5)],none,[]⟩,
⟨(some 57),.p (.bin .neq),[.t 56,.c (.int .i32 0)],none,[]⟩] false []) <|
 .cond (.t 57) (.region [
⟨(some 58),.p .mv,[.t 7],none,[]⟩,
⟨(some 59),.p (.bin .add),[.t 58,.c (.int .i32 8)],none,[]⟩,
⟨(some 7),.p .mv,[.t 59],none,[]⟩] false []) (.skip)) <|
 .seq (.seq (.region [
⟨(some 60),.p .mv,[.t 3],none,[]⟩,
⟨(some 61),.p .mv,[.t 60],none,[]⟩,
⟨(some 62),.p .mv,[.t 6],(some (61,true)),[]⟩,
⟨(some 63),.p (.bin .and),[.t 62,.c (.int .i32 1)],(some (61,true)),[]⟩,
⟨(some 64),.p (.bin .neq),[.t 63,.c (.int .i32 0)],(some (61,true)),[]⟩,
⟨(some 65),.p .pick,[.t 61,.t 64,.c (.bool false)],none,[]⟩] false []) <|
 .cond (.t 65) (.region [
⟨(some 66),.p .mv,[.t 7],none,[]⟩,
⟨(some 67),.p (.bin .or),[.t 66,.c (.int .i32 4)],none,[]⟩,
⟨(some 7),.p .mv,[.t 67],none,[]⟩] false []) (.skip)) <|
 .seq (.seq (.region [
⟨(some 68),.p .mv,[.t 4],none,[]⟩] false []) <|
 .cond (.t 68) (.seq (.seq (.region [
⟨(some 69),.p .mv,[.t 7],none,[]⟩,
⟨(some 70),.p (.bin .and),[.t 69,.c (.int .i32 2)],none,[]⟩,
⟨(some 71),.p (.bin .eql),[.t 70,.c (.int .i32 0)],none,[]⟩] false []) <|
 .cond (.t 71) (.region [
⟨(some 72),.w .call,[.c (.fn 397 [] []),.c (.str [115,121,110,99,58,32,105,110,99,111,110,115,105,115,116,101,110,116,32,109,117,116,101,120,32,115,116,97,116,101])],none,[]⟩] false []) (.skip)) <|
 .region [
⟨(some 73),.p .mv,[.t 7],none,[]⟩,
⟨(some 74),.p (.bin .andNot),[.t 73,.c (.int .i32 2)],none,[]⟩,
⟨(some 7),.p .mv,[.t 74],none,[]⟩] false []) (.skip)) <|
 .seq (.region [
⟨(some 75),.p .mv,[.t 0],none,[]⟩,
⟨(some 76),.p .nilC,[.t 75],none,[]⟩,
⟨(some 77),.p (.fa 0),[.t 76],none,[]⟩,
⟨(some 78),.p .mv,[.t 6],none,[]⟩,
⟨(some 79),.p .mv,[.t 7],none,[]⟩,
⟨(some 80),.w .call,[.c (.fn 388 [] []),.t 77,.t 78,.t 79],none,[]⟩] false []) <|
 .cond (.t 80) (.seq (.seq (.region [
⟨(some 81),.p .mv,[.t 6],none,[]⟩,
⟨(some 82),.p (.bin .and),[.t 81,.c (.int .i32 5)],none,[]⟩,
⟨(some 83),.p (.bin .eql),[.t 82,.c (.int .i32 0)],none,[]⟩] false []) <|
 .cond (.t 83) (.exit 0) (.skip)) <|
 .seq (.region [
⟨(some 84),.p .mv,[.t 2],none,[]⟩,
⟨(some 85),.p (.bin .neq),[.t 84,.c (.int .i64 0)],none,[]⟩,
⟨(some 8),.p .mv,[.t 85],none,[]⟩] false []) <|
 .seq (.seq (.region [
⟨(some 86),.p .mv,[.t 2],none,[]⟩,
⟨(some 87),.p (.bin .eql),[.t 86,.c (.int .i64 0)],none,[]⟩] false []) <|
 .cond (.t 87) (.region [
⟨(some 88),.w .call,[.c (.fn 398 [] [])],none,[]⟩,
⟨(some 2),.p .mv,[.t 88],none,[]⟩] false []) (.skip)) <|
 .seq (.region [
⟨(some 89),.p .mv,[.t 0],none,[]⟩,
⟨(some 90),.p .nilC,[.t 89],none,[]⟩,
⟨(some 91),.p (.fa 1),[.t 90],none,[]⟩,
⟨(some 92),.p .mv,[.t 8],none,[]⟩,
⟨(some 93),.w .call,[.c (.fn 399 [] []),.t 91,.t 92,.c (.int .i64 2)],none,[]⟩] false []) <|
 .seq (.region [
⟨(some 94),.p .mv,[.t 3],none,[]⟩,
⟨(some 95),.p .mv,[.t 94],none,[]⟩,
⟨(some 96),.w .call,[.c (.fn 398 [] [])],(some (95,false)),[]⟩,
⟨(some 97),.p .mv,[.t 2],(some (95,false)),[]⟩,
⟨(some 98),.p (.bin .sub),[.t 96,.t 97],(some (95,false)),[]⟩,
⟨(some 99),.p (.bin .gtr),[.t 98,.c (.int .i64 1000000)],(some (95,false)),[]⟩,
⟨(some 100),.p .pick,[.t 95,.c (.bool true),.t 99],none,[]⟩,
⟨(some 3),.p .mv,[.t 100],none,[]⟩] false []) <|
 .seq (.region [
⟨(some 101),.p .mv,[.t 0],none,[]⟩,
⟨(some 102),.p .nilC,[.t 101],none,[]⟩,
⟨(some 103),.p (.fa 0),[.t 102],none,[]⟩,
⟨(some 104),.r (.ld 1 false),[.t 103],none,[]⟩,
⟨(some 6),.p .mv,[.t 104],none,[]⟩] false []) <|
 .seq (.seq (.region [
⟨(some 105),.p .mv,[.t 6],none,[]⟩,
⟨(some 106),.p (.bin .and),[.t 105,.c (.int .i32 4)],none,[]⟩,
⟨(some 107),.p (.bin .neq),[.t 106,.c (.int .i32 0)],none,[]⟩] false []) <|
 .cond (.t 107) (.seq (.seq (.region [
⟨(some 108),.p .mv,[.t 6],none,[]⟩,
⟨(some 109),.p (.bin .and),[.t 108,.c (.int .i32 3)],none,[]⟩,
⟨(some 110),.p (.bin .neq),[.t 109,.c (.int .i32 0)],none,[]⟩,
⟨(some 111),.p .mv,[.t 110],none,[]⟩,
⟨(some 112),.p .mv,[.t 6],(some (111,false)),[]⟩,
⟨(some 113),.p (.bin .shr),[.t 112,.c (.int .u64 3)],(some (111,false)),[]⟩,
⟨(some 114),.p (.bin .eql),[.t 113,.c (.int .i32 0)],(some (111,false)),[]⟩,
⟨(some 115),.p .pick,[.t 111,.c (.bool true),.t 114],none,[]⟩] false []) <|
 .cond (.t 115) (.region [
⟨(some 116),.w .call,[.c (.fn 397 [] []),.c (.str [115,121,110,99,58,32,105,110,99,111,110,115,105,115,116,101,110,116,32,109,117,116,101,120,32,115,116,97,116,101])],none,[]⟩] false []) (.skip)) <|
 .seq (.region [
⟨(some 9),.p .mv,[.c (.int .i32 (-7))],none,[]⟩] false []) <|
 .seq (.seq (.region [
⟨(some 117),.p .mv,[.t 3],none,[]⟩,
⟨(some 118),.p (.un .not),[.t 117],none,[]⟩,
⟨(some 119),.p .mv,[.t 118],none,[]⟩,
⟨(some 120),.p .mv,[.t 6],(some (119,false)),[]⟩,
⟨(some 121),.p (.bin .shr),[.t 120,.c (.int .u64 3)],(some (119,false)),[]⟩,
⟨(some 122),.p (.bin .eql),[.t 121,.c (.int .i32 1)],(some (119,false)),[]⟩,
⟨(some 123),.p .pick,[.t 119,.c (.bool true),.t 122],none,[]⟩] false []) <|
 .cond (.t 123) (.region [
⟨(some 124),.p .mv,[.t 9],none,[]⟩,
⟨(some 125),.p (.bin .sub),[.t 124,.c (.int .i32 4)],none,[]⟩,
⟨(some 9),.p .mv,[.t 125],none,[]⟩] false []) (.skip)) <|
 .seq (.region [
⟨(some 126),.p .mv,[.t 0],none,[]⟩,
⟨(some 127),.p .nilC,[.t 126],none,[]⟩,
⟨(some 128),.p (.fa 0),[.t 127],none,[]⟩,
⟨(some 129),.p .mv,[.t 9],none,[]⟩,
⟨(some 130),.w .call,[.c (.fn 393 [] []),.t 128,.t 129],none,[]⟩] false []) <|
 .exit 0) (.skip)) <|
 .seq (.region [
⟨(some 4),.p .mv,[.c (.bool true)],none,[]⟩] false []) <|
 .region [
⟨(some 5),.p .mv,[.c (.int .i64 0)],none,[]⟩] false []) (.region [
⟨(some 131),.p .mv,[.t 0],none,[]⟩,
⟨(some 132),.p .nilC,[.t 131],none,[]⟩,
⟨(some 133),.p (.fa 0),[.t 132],none,[]⟩,
⟨(some 134),.r (.ld 1 false),[.t 133],none,[]⟩,
⟨(some 6),.p .mv,[.t 134],none,[]⟩] false []))))) <|
 .cond (.c (.bool true)) (.seq (.region [
⟨(some 135),.w .call,[.c (.fn 389 [] [])],none,[]⟩] false []) <|
 .region [
⟨(some 136),.p .mv,[.t 0],none,[]⟩,
⟨(some 137),.r .p2u,[.t 136],none,[]⟩,
⟨(some 138),.w .call,[.c (.fn 390 [] []),.t 137],none,[]⟩] false []) (.skip), []⟩
structure D391 (T : Tab) : Prop where
  fn : T.fn 391 = some ir391
  pr : T.prim 391 = none
  p388 : T.prim 388 = some casPrim
  p393 : T.prim 393 = some addPrim
  p389 : T.prim 389 = some mark0Prim
  p390 : T.prim 390 = some markPrim
/-- (*internal/sync.Mutex).Lock -/
def ir385 : AFunc := ⟨.seq (.region [
⟨(some 2),.w .call,[.c (.fn 387 [] [])],none,[]⟩] false []) <|
 .seq (.seq (.region [
⟨(some 3),.p .mv,[.t 0],none,[]⟩,
⟨(some 4),.p .nilC,[.t 3],none,[]⟩,
⟨(some 5),.p (.fa 0),[.t 4],none,[]⟩,
⟨(some 6),.w .call,[.c (.fn 388 [] []),.t 5,.c (.int .i32 0),.c (.int .i32 1)],none,[]⟩] false []) <|
 .cond (.t 6) (.seq (.cond (.c (.bool true)) (.seq (.region [
⟨(some 7),.w .call,[.c (.fn 389 [] [])],none,[]⟩] false []) <|
 .region [
⟨(some 8),.p .mv,[.t 0],none,[]⟩,
⟨(some 9),.r .p2u,[.t 8],none,[]⟩,
⟨(some 10),.w .call,[.c (.fn 390 [] []),.t 9],none,[]⟩] false []) (.skip)) <|
 .ret) (.skip)) <|
 .region [
⟨(some 11),.p .mv,[.t 0],none,[]⟩,
⟨(some 12),.w .call,[.c (.fn 391 [] []),.t 11],none,[]⟩] false [], []⟩
structure D385 (T : Tab) : Prop where
  fn : T.fn 385 = some ir385
  pr : T.prim 385 = none
  p387 : T.prim 387 = some mark0Prim
  p388 : T.prim 388 = some casPrim
  p389 : T.prim 389 = some mark0Prim
  p390 : T.prim 390 = some markPrim
  d391 : D391 T
/-- (*sync.Mutex).Lock -/
def ir380 : AFunc := ⟨.region [
⟨(some 2),.p .mv,[.t 0],none,[]⟩,
⟨(some 3),.p .nilC,[.t 2],none,[]⟩,
⟨(some 4),.p (.fa 0),[.t 3],none,[]⟩,
⟨(some 5),.w .call,[.c (.fn 385 [] []),.t 4],none,[]⟩] false [], []⟩
structure D380 (T : Tab) : Prop where
  fn : T.fn 380 = some ir380
  pr : T.prim 380 = none
  d385 : D385 T
/-- (*internal/sync.Mutex).unlockSlow -/
def ir394 : AFunc := ⟨.seq (.seq (.region [
⟨(some 5),.p .mv,[.t 1],none,[]⟩,
⟨(some 6),.p (.bin .add),[.t 5,.c (.int .i32 1)],none,[]⟩,
⟨(some 7),.p (.bin .and),[.t 6,.c (.int .i32 1)],none,[]⟩,
⟨(some 8),.p (.bin .eql),[.t 7,.c (.int .i32 0)],none,[]⟩] false []) <|
 .cond (.t 8) (.region [
⟨(some 9),.w .call,[.c (.fn 400 [] []),.c (.str [115,121,110,99,58,32,117,110,108,111,99,107,32,111,102,32,117,110,108,111,99,107,101,100,32,109,117,116,101,120])],none,[]⟩] false []) (.skip)) <|
 .seq (.region [
⟨(some 10),.p .mv,[.t 1],none,[]⟩,
⟨(some 11),.p (.bin .and),[.t 10,.c (.int .i32 4)],none,[]⟩,
⟨(some 12),.p (.bin .eql),[.t 11,.c (.int .i32 0)],none,[]⟩] false []) <|
 .cond (.t 12) (.seq (.region [
⟨(some 13),.p .mv,[.t 1],none,[]⟩,
⟨(some 4),.p .mv,[.t 13],none,[]⟩] false []) <|
 .block 0 (.loop (.block 1 (.seq (.seq (.region [
⟨(some 14),.p .mv,[.t 4],none,[]⟩,
⟨(some 15),.p (.bin .shr),[.t 14,.c (.int .u64 3)],none,[]⟩,
⟨(some 16),.p (.bin .eql),[.t 15,.c (.int .i32 0)],none,[]⟩,
⟨(some 17),.p .mv,[.t 16],none,[]⟩,
⟨(some 18),.p .mv,[.t 4],(some (17,false)),[]⟩,
⟨(some 19),.p (.bin .and),[.t 18,.c (.int .i32 7)],(some (17,false)),[]⟩,
⟨(some 20),.p (.bin .neq),[.t 19,.c (.int .i32 0)],(some (17,false)),[]⟩,
⟨(some 21),.p .pick,[.t 17,.c (.bool true),.t 20],none,[]⟩] false []) <|
 .cond (.t 21) (.ret) (.skip)) <|
 .seq (.region [
⟨(some 22),.p .mv,[.t 4],none,[]⟩,
⟨(some 23),.p (.bin .sub),[.t 22,.c (.int .i32 8)],none,[]⟩,
⟨(some 24),.p (.bin .or),[.t 23,.c (.int .i32 2)],none,[]⟩,
⟨(some 1),.p .mv,[.t 24],none,[]⟩] false []) <|
 .seq (.seq (.region [
⟨(some 25),.p .mv,[.t 0],none,[]⟩,
⟨(some 26),.p .nilC,[.t 25],none,[]⟩,
⟨(some 27),.p (.fa 0),[.t 26],none,[]⟩,
⟨(some 28),.p .mv,[.t 4],none,[]⟩,
⟨(some 29),.p .mv,[.t 1],none,[]⟩,
⟨(some 30),.w .call,[.c (.fn 388 [] []),.t 27,.t 28,.t 29],none,[]⟩] false []) <|
 .cond (.t 30) (.seq (.region [
⟨(some 31),.p .mv,[.t 0],none,[]⟩,
⟨(some 32),.p .nilC,[.t 31],none,[]⟩,
⟨(some 33),.p (.fa 1),[.t 32],none,[]⟩,
⟨(some 34),.w .call,[.c (.fn 401 [] []),.t 33,.c (.bool false),.c (.int .i64 2)],none,[]⟩] false []) <|
 .ret) (.skip)) <|
 .region [
⟨(some 35),.p .mv,[.t 0],none,[]⟩,
⟨(some 36),.p .nilC,[.t 35],none,[]⟩,
⟨(some 37),.p (.fa 0),[.t 36],none,[]⟩,
⟨(some 38),.r (.ld 1 false),[.t 37],none,[]⟩,
⟨(some 4),.p .mv,[.t 38],none,[]⟩] false [])))) (.region [
⟨(some 39),.p .mv,[.t 0],none,[]⟩,
⟨(some 40),.p .nilC,[.t 39],none,[]⟩,
⟨(some 41),.p (.fa 1),[.t 40],none,[]⟩,
⟨(some 42),.w .call,[.c (.fn 401 [] []),.t 41,.c (.bool true),.c (.int .i64 2)],none,[]⟩] false []), []⟩
structure D394 (T : Tab) : Prop where
  fn : T.fn 394 = some ir394
  pr : T.prim 394 = none
  p388 : T.prim 388 = some casPrim
/-- (*internal/sync.Mutex).Unlock -/
def ir386 : AFunc := ⟨.seq (.cond (.c (.bool true)) (.seq (.region [
⟨(some 3),.p .mv,[.t 0],none,[]⟩,
⟨(some 4),.p .nilC,[.t 3],none,[]⟩,
⟨(some 5),.p (.fa 0),[.t 4],none,[]⟩,
⟨(some 6),.r (.ld 1 false),[.t 5],none,[]⟩] false []) <|
 .seq (.region [
⟨(some 7),.p .mv,[.t 0],none,[]⟩,
⟨(some 8),.r .p2u,[.t 7],none,[]⟩,
⟨(some 9),.w .call,[.c (.fn 392 [] []),.t 8],none,[]⟩] false []) <|
 .region [
⟨(some 10),.w .call,[.c (.fn 387 [] [])],none,[]⟩] false []) (.skip)) <|
 .seq (.region [
⟨(some 11),.p .mv,[.t 0],none,[]⟩,
⟨(some 12),.p .nilC,[.t 11],none,[]⟩,
⟨(some 13),.p (.fa 0),[.t 12],none,[]⟩,
⟨(some 14),.w .call,[.c (.fn 393 [] []),.t 13,.c (.int .i32 (-1))],none,[]⟩,
⟨(some 2),.p .mv,[.t 14],none,[]⟩] false []) <|
 .seq (.seq (.region [
⟨(some 15),.p .mv,[.t 2],none,[]⟩,
⟨(some 16),.p (.bin .neq),[.t 15,.c (.int .i32 0)],none,[]⟩] false []) <|
 .cond (.t 16) (.region [
⟨(some 17),.p .mv,[.t 0],none,[]⟩,
⟨(some 18),.p .mv,[.t 2],none,[]⟩,
⟨(some 19),.w .call,[.c (.fn 394 [] []),.t 17,.t 18],none,[]⟩] false []) (.skip)) <|
 .region [
⟨(some 20),.w .call,[.c (.fn 389 [] [])],none,[]⟩] false [], []⟩
structure D386 (T : Tab) : Prop where
  fn : T.fn 386 = some ir386
  pr : T.prim 386 = none
  p392 : T.prim 392 = some markPrim
  p387 : T.prim 387 = some mark0Prim
  p393 : T.prim 393 = some addPrim
  d394 : D394 T
  p389 : T.prim 389 = some mark0Prim
/-- (*sync.Mutex).Unlock -/
def ir381 : AFunc := ⟨.region [
⟨(some 2),.p .mv,[.t 0],none,[]⟩,
⟨(some 3),.p .nilC,[.t 2],none,[]⟩,
⟨(some 4),.p (.fa 0),[.t 3],none,[]⟩,
⟨(some 5),.w .call,[.c (.fn 386 [] []),.t 4],none,[]⟩] false [], []⟩
structure D381 (T : Tab) : Prop where
  fn : T.fn 381 = some ir381
  pr : T.prim 381 = none
  d386 : D386 T
/-- (*motley/heap.Heap).lock -/
def ir357 : AFunc := ⟨.seq (.region [
⟨(some 2),.p .mv,[.c .nilFn],none,[]⟩] false []) <|
 .seq (.region [
⟨(some 3),.p .mv,[.t 0],none,[]⟩,
⟨(some 4),.p .nilC,[.t 3],none,[]⟩,
⟨(some 5),.p (.fa 0),[.t 4],none,[]⟩,
⟨(some 6),.w .call,[.c (.fn 380 [] []),.t 5],none,[]⟩] false []) <|
 .seq (.region [
⟨(some 7),.p .mv,[.t 0],none,[]⟩,
⟨(some 8),.p .nilC,[.t 7],none,[]⟩,
⟨(some 9),.p (.fa 0),[.t 8],none,[]⟩,
⟨(some 10),.p (.mkF 381 1),[.t 9],none,[]⟩,
⟨(some 2),.p .mv,[.t 10],none,[]⟩] false []) <|
 .ret, [.tmp 2]⟩
structure D357 (T : Tab) : Prop where
  fn : T.fn 357 = some ir357
  pr : T.prim 357 = none
  d380 : D380 T
  d381 : D381 T
/-- (*motley/heap.Heap).Make -/
def ir343 : AFunc := ⟨.seq (.region [
⟨(some 6),.p .mv,[.c (.int .i64 0)],none,[]⟩,
⟨(some 7),.p .mv,[.c (.int .i64 0)],none,[]⟩] false []) <|
 .seq (.seq (.region [
⟨(some 9),.p .mv,[.t 0],none,[]⟩,
⟨(some 10),.p (.isNil .ptr false),[.t 9],none,[]⟩] false []) <|
 .cond (.t 10) (.seq (.region [
⟨(some 6),.p .mv,[.c (.int .i64 0)],none,[]⟩,
⟨(some 7),.p .mv,[.c (.int .i64 9)],none,[]⟩] false []) <|
 .ret) (.skip)) <|
 .seq (.region [
⟨(some 11),.p .mv,[.t 0],none,[]⟩,
⟨(some 12),.w .call,[.c (.fn 357 [] []),.t 11],none,[]⟩,
⟨(some 1048576),.p .dfr,[.t 1048576,.t 12],none,[]⟩] false []) <|
 .seq (.seq (.region [
⟨(some 13),.p .mv,[.t 1],none,[]⟩,
⟨(some 14),.p (.bin .lss),[.t 13,.c (.int .i64 0)],none,[]⟩,
⟨(some 15),.p .mv,[.t 14],none,[]⟩,
⟨(some 16),.p .mv,[.t 1],(some (15,false)),[]⟩,
⟨(some 17),.p (.bin .gtr),[.t 16,.c (.int .i64 8)],(some (15,false)),[]⟩,
⟨(some 18),.p .pick,[.t 15,.c (.bool true),.t 17],none,[]⟩] false []) <|
 .cond (.t 18) (.seq (.region [
⟨(some 6),.p .mv,[.c (.int .i64 0)],none,[]⟩,
⟨(some 7),.p .mv,[.c (.int .i64 1)],none,[]⟩] false []) <|
 .ret) (.skip)) <|
 .seq (.seq (.region [
⟨(some 19),.p .mv,[.t 0],none,[]⟩,
⟨(some 20),.p .nilC,[.t 19],none,[]⟩,
⟨(some 21),.p (.fa 2),[.t 20],none,[]⟩,
⟨(some 22),.r (.ld 1 false),[.t 21],none,[]⟩,
⟨(some 23),.p .len,[.t 22],none,[]⟩,
⟨(some 24),.p (.bin .eql),[.t 23,.c (.int .i64 100)],none,[]⟩] false []) <|
 .cond (.t 24) (.seq (.region [
⟨(some 6),.p .mv,[.c (.int .i64 0)],none,[]⟩,
⟨(some 7),.p .mv,[.c (.int .i64 3)],none,[]⟩] false []) <|
 .ret) (.skip)) <|
 .seq (.region [
⟨(some 25),.p .mv,[.t 0],none,[]⟩,
⟨(some 26),.p .nilC,[.t 25],none,[]⟩,
⟨(some 27),.p (.fa 2),[.t 26],none,[]⟩,
⟨(some 28),.r (.ld 1 false),[.t 27],none,[]⟩,
⟨(some 29),.p .len,[.t 28],none,[]⟩,
⟨(some 8),.p .mv,[.t 29],none,[]⟩] false []) <|
 .seq (.region [
⟨(some 30),.p .mv,[.t 0],none,[]⟩,
⟨(some 31),.p .mv,[.t 0],none,[]⟩,
⟨(some 32),.p .nilC,[.t 31],none,[]⟩,
⟨(some 33),.p (.fa 2),[.t 32],none,[]⟩,
⟨(some 34),.r (.ld 1 false),[.t 33],none,[]⟩,
⟨(some 35),.p .mv,[.t 1],none,[]⟩,
⟨(some 36),.w (.mks 16 [(.bool false),(.bool false),(.int .i64 0)]),[.t 35,.t 35],none,[]⟩,
⟨(some 37),.p .mv,[.t 2],none,[]⟩,
⟨(some 38),.p (.bld [(.slc none 0 0 none),(.bool false),(.bool false),(.bool false),(.int .i64 0)] [(0,1),(1,1)]),[.t 36,.t 37],none,[]⟩,
⟨(some 39),.w (.bsl 5 1 [(.slc none 0 0 none),(.bool false),(.bool false),(.bool false),(.int .i64 0)] [(0,5)]),[.t 38],none,[]⟩,
⟨(some 40),.w (.app 5 40),[.t 34,.t 39],none,[]⟩,
⟨(some 41),.p .nilC,[.t 30],none,[]⟩,
⟨(some 42),.p (.fa 2),[.t 41],none,[]⟩,
⟨none,.w (.st 1),[.t 42,.t 40],none,[]⟩] true [(4,6),(4,9)]) <|
 .seq (.region [
⟨(some 43),.p .mv,[.t 0],none,[]⟩,
⟨(some 44),.p .mv,[.t 0],none,[]⟩,
⟨(some 45),.p .nilC,[.t 44],none,[]⟩,
⟨(some 46),.p (.fa 4),[.t 45],none,[]⟩,
⟨(some 47),.r (.ld 1 false),[.t 46],none,[]⟩,
⟨(some 48),.p .mv,[.t 8],none,[]⟩,
⟨(some 49),.w (.bsl 1 1 [(.int .i64 0)] [(0,1)]),[.t 48],none,[]⟩,
⟨(some 50),.w (.app 1 8),[.t 47,.t 49],none,[]⟩,
⟨(some 51),.p .nilC,[.t 43],none,[]⟩,
⟨(some 52),.p (.fa 4),[.t 51],none,[]⟩,
⟨none,.w (.st 1),[.t 52,.t 50],none,[]⟩] false []) <|
 .seq (.region [
⟨(some 53),.p .mv,[.t 8],none,[]⟩,
⟨(some 6),.p .mv,[.t 53],none,[]⟩,
⟨(some 7),.p .mv,[.c (.int .i64 0)],none,[]⟩] false []) <|
 .ret, [.tmp 6,.tmp 7]⟩
structure D343 (T : Tab) : Prop where
  fn : T.fn 343 = some ir343
  pr : T.prim 343 = none
  d357 : D357 T
/-- (*motley/heap.Heap).has -/
def ir359 : AFunc := ⟨.seq (.region [
⟨(some 6),.p .mv,[.c (.int .i64 0)],none,[]⟩] false []) <|
 .seq (.seq (.region [
⟨(some 7),.p .mv,[.t 1],none,[]⟩,
⟨(some 8),.p (.bin .lss),[.t 7,.c (.int .i64 0)],none,[]⟩,
⟨(some 9),.p .mv,[.t 8],none,[]⟩,
⟨(some 10),.p .mv,[.t 1],(some (9,false)),[]⟩,
⟨(some 11),.p .mv,[.t 0],(some (9,false)),[]⟩,
⟨(some 12),.p .nilC,[.t 11],(some (9,false)),[]⟩,
⟨(some 13),.p (.fa 2),[.t 12],(some (9,false)),[]⟩,
⟨(some 14),.r (.ld 1 false),[.t 13],(some (9,false)),[]⟩,
⟨(some 15),.p .len,[.t 14],(some (9,false)),[]⟩,
⟨(some 16),.p (.bin .geq),[.t 10,.t 15],(some (9,false)),[]⟩,
⟨(some 17),.p .pick,[.t 9,.c (.bool true),.t 16],none,[]⟩] false []) <|
 .cond (.t 17) (.seq (.region [
⟨(some 6),.p .mv,[.c (.int .i64 4)],none,[]⟩] false []) <|
 .ret) (.skip)) <|
 .seq (.seq (.region [
⟨(some 18),.p .mv,[.t 2],none,[]⟩,
⟨(some 19),.p .mv,[.t 18],none,[]⟩,
⟨(some 20),.p .mv,[.t 0],(some (19,true)),[]⟩,
⟨(some 21),.p .nilC,[.t 20],(some (19,true)),[]⟩,
⟨(some 22),.p (.fa 2),[.t 21],(some (19,true)),[]⟩,
⟨(some 23),.r (.ld 1 false),[.t 22],(some (19,true)),[]⟩,
⟨(some 24),.p .mv,[.t 1],(some (19,true)),[]⟩,
⟨(some 25),.p (.ia 5),[.t 23,.t 24],(some (19,true)),[]⟩,
⟨(some 26),.p (.fa 3),[.t 25],(some (19,true)),[]⟩,
⟨(some 27),.r (.ld 1 false),[.t 26],(some (19,true)),[]⟩,
⟨(some 28),.p .pick,[.t 19,.t 27,.c (.bool false)],none,[]⟩] false []) <|
 .cond (.t 28) (.seq (.region [
⟨(some 6),.p .mv,[.c (.int .i64 9)],none,[]⟩] false []) <|
 .ret) (.skip)) <|
 .seq (.region [
⟨(some 6),.p .mv,[.c (.int .i64 0)],none,[]⟩] false []) <|
 .ret, [.tmp 6]⟩
structure D359 (T : Tab) : Prop where
  fn : T.fn 359 = some ir359
  pr : T.prim 359 = none
/-- (*motley/heap.Heap).root -/
def ir360 : AFunc := ⟨.seq (.region [
⟨(some 4),.p .mv,[.t 0],none,[]⟩,
⟨(some 5),.p .nilC,[.t 4],none,[]⟩,
⟨(some 6),.p (.fa 3),[.t 5],none,[]⟩,
⟨(some 7),.r (.ld 1 false),[.t 6],none,[]⟩,
⟨(some 8),.p .mv,[.t 1],none,[]⟩,
⟨(some 9),.r (.look .int (.int .i64 0) false),[.t 7,.t 8],none,[]⟩,
⟨(some 10),.p (.bin .add),[.t 9,.c (.int .i64 1)],none,[]⟩,
⟨none,.w (.mset .int),[.t 7,.t 8,.t 10],none,[]⟩] false []) <|
 .region [
⟨(some 11),.p .mv,[.t 0],none,[]⟩,
⟨(some 12),.p .nilC,[.t 11],none,[]⟩,
⟨(some 13),.p (.fa 2),[.t 12],none,[]⟩,
⟨(some 14),.r (.ld 1 false),[.t 13],none,[]⟩,
⟨(some 15),.p .mv,[.t 1],none,[]⟩,
⟨(some 16),.p (.ia 5),[.t 14,.t 15],none,[]⟩,
⟨(some 17),.p (.fa 4),[.t 16],none,[]⟩,
⟨(some 18),.r (.ld 1 false),[.t 17],none,[]⟩,
⟨(some 19),.p (.bin .add),[.t 18,.c (.int .i64 1)],none,[]⟩,
⟨(some 20),.p (.ia 5),[.t 14,.t 15],none,[]⟩,
⟨(some 21),.p (.fa 4),[.t 20],none,[]⟩,
⟨none,.w (.st 1),[.t 21,.t 19],none,[]⟩] false [], []⟩
structure D360 (T : Tab) : Prop where
  fn : T.fn 360 = some ir360
  pr : T.prim 360 = none
/-- (*motley/heap.Heap).Root -/
def ir324 : AFunc := ⟨.seq (.region [
⟨(some 4),.p .mv,[.c (.int .i64 0)],none,[]⟩] false []) <|
 .seq (.seq (.region [
⟨(some 6),.p .mv,[.t 0],none,[]⟩,
⟨(some 7),.p (.isNil .ptr false),[.t 6],none,[]⟩] false []) <|
 .cond (.t 7) (.seq (.region [
⟨(some 4),.p .mv,[.c (.int .i64 9)],none,[]⟩] false []) <|
 .ret) (.skip)) <|
 .seq (.region [
⟨(some 8),.p .mv,[.t 0],none,[]⟩,
⟨(some 9),.w .call,[.c (.fn 357 [] []),.t 8],none,[]⟩,
⟨(some 1048576),.p .dfr,[.t 1048576,.t 9],none,[]⟩] false []) <|
 .seq (.seq (.region [
⟨(some 10),.p .mv,[.t 0],none,[]⟩,
⟨(some 11),.p .mv,[.t 1],none,[]⟩,
⟨(some 12),.w .call,[.c (.fn 359 [] []),.t 10,.t 11,.c (.bool true)],none,[]⟩,
⟨(some 5),.p .mv,[.t 12],none,[]⟩] false []) <|
 .seq (.region [
⟨(some 13),.p .mv,[.t 5],none,[]⟩,
⟨(some 14),.p (.bin .neq),[.t 13,.c (.int .i64 0)],none,[]⟩] false []) <|
 .cond (.t 14) (.seq (.region [
⟨(some 15),.p .mv,[.t 5],none,[]⟩,
⟨(some 4),.p .mv,[.t 15],none,[]⟩] false []) <|
 .ret) (.skip)) <|
 .seq (.region [
⟨(some 16),.p .mv,[.t 0],none,[]⟩,
⟨(some 17),.p .mv,[.t 1],none,[]⟩,
⟨(some 18),.w .call,[.c (.fn 360 [] []),.t 16,.t 17],none,[]⟩] false []) <|
 .seq (.region [
⟨(some 4),.p .mv,[.c (.int .i64 0)],none,[]⟩] false []) <|
 .ret, [.tmp 4]⟩
structure D324 (T : Tab) : Prop where
  fn : T.fn 324 = some ir324
  pr : T.prim 324 = none
  d357 : D357 T
  d359 : D359 T
  d360 : D360 T
/-- (*motley/heap.Heap).hasField -/
def ir373 : AFunc := ⟨.seq (.region [
⟨(some 6),.p .mv,[.c (.int .i64 0)],none,[]⟩] false []) <|
 .seq (.seq (.region [
⟨(some 8),.p .mv,[.t 0],none,[]⟩,
⟨(some 9),.p .mv,[.t 1],none,[]⟩,
⟨(some 10),.w .call,[.c (.fn 359 [] []),.t 8,.t 9,.c (.bool true)],none,[]⟩,
⟨(some 7),.p .mv,[.t 10],none,[]⟩] false []) <|
 .seq (.region [
⟨(some 11),.p .mv,[.t 7],none,[]⟩,
⟨(some 12),.p (.bin .neq),[.t 11,.c (.int .i64 0)],none,[]⟩] false []) <|
 .cond (.t 12) (.seq (.region [
⟨(some 13),.p .mv,[.t 7],none,[]⟩,
⟨(some 6),.p .mv,[.t 13],none,[]⟩] false []) <|
 .ret) (.skip)) <|
 .seq (.seq (.region [
⟨(some 14),.p .mv,[.t 2],none,[]⟩,
⟨(some 15),.p (.bin .lss),[.t 14,.c (.int .i64 0)],none,[]⟩,
⟨(some 16),.p .mv,[.t 15],none,[]⟩,
⟨(some 17),.p .mv,[.t 2],(some (16,false)),[]⟩,
⟨(some 18),.p .mv,[.t 0],(some (16,false)),[]⟩,
⟨(some 19),.p .nilC,[.t 18],(some (16,false)),[]⟩,
⟨(some 20),.p (.fa 2),[.t 19],(some (16,false)),[]⟩,
⟨(some 21),.r (.ld 1 false),[.t 20],(some (16,false)),[]⟩,
⟨(some 22),.p .mv,[.t 1],(some (16,false)),[]⟩,
⟨(some 23),.p (.ia 5),[.t 21,.t 22],(some (16,false)),[]⟩,
⟨(some 24),.p (.fa 0),[.t 23],(some (16,false)),[]⟩,
⟨(some 25),.r (.ld 1 false),[.t 24],(some (16,false)),[]⟩,
⟨(some 26),.p .len,[.t 25],(some (16,false)),[]⟩,
⟨(some 27),.p (.bin .geq),[.t 17,.t 26],(some (16,false)),[]⟩,
⟨(some 28),.p .pick,[.t 16,.c (.bool true),.t 27],none,[]⟩] false []) <|
 .cond (.t 28) (.seq (.region [
⟨(some 6),.p .mv,[.c (.int .i64 1)],none,[]⟩] false []) <|
 .ret) (.skip)) <|
 .seq (.region [
⟨(some 6),.p .mv,[.c (.int .i64 0)],none,[]⟩] false []) <|
 .ret, [.tmp 6]⟩
structure D373 (T : Tab) : Prop where
  fn : T.fn 373 = some ir373
  pr : T.prim 373 = none
  d359 : D359 T
/-- (*motley/heap.Heap).less -/
def ir383 : AFunc := ⟨.seq (.region [
⟨(some 4),.p .mv,[.t 0],none,[]⟩,
⟨(some 5),.p .nilC,[.t 4],none,[]⟩,
⟨(some 6),.p (.fa 2),[.t 5],none,[]⟩,
⟨(some 7),.r (.ld 1 false),[.t 6],none,[]⟩,
⟨(some 8),.p .mv,[.t 1],none,[]⟩,
⟨(some 9),.p (.ia 5),[.t 7,.t 8],none,[]⟩,
⟨(some 10),.p (.fa 4),[.t 9],none,[]⟩,
⟨(some 11),.r (.ld 1 false),[.t 10],none,[]⟩,
⟨(some 12),.p (.bin .sub),[.t 11,.c (.int .i64 1)],none,[]⟩,
⟨(some 13),.p (.ia 5),[.t 7,.t 8],none,[]⟩,
⟨(some 14),.p (.fa 4),[.t 13],none,[]⟩,
⟨none,.w (.st 1),[.t 14,.t 12],none,[]⟩] false []) <|
 .seq (.region [
⟨(some 15),.p .mv,[.t 0],none,[]⟩,
⟨(some 16),.p .nilC,[.t 15],none,[]⟩,
⟨(some 17),.p (.fa 2),[.t 16],none,[]⟩,
⟨(some 18),.r (.ld 1 false),[.t 17],none,[]⟩,
⟨(some 19),.p .mv,[.t 1],none,[]⟩,
⟨(some 20),.p (.ia 5),[.t 18,.t 19],none,[]⟩,
⟨(some 21),.p (.fa 4),[.t 20],none,[]⟩,
⟨(some 22),.r (.ld 1 false),[.t 21],none,[]⟩,
⟨(some 23),.p (.bin .eql),[.t 22,.c (.int .i64 0)],none,[]⟩] false []) <|
 .cond (.t 23) (.region [
⟨(some 24),.p .mv,[.t 0],none,[]⟩,
⟨(some 25),.p .mv,[.t 0],none,[]⟩,
⟨(some 26),.p .nilC,[.t 25],none,[]⟩,
⟨(some 27),.p (.fa 4),[.t 26],none,[]⟩,
⟨(some 28),.r (.ld 1 false),[.t 27],none,[]⟩,
⟨(some 29),.p .mv,[.t 1],none,[]⟩,
⟨(some 30),.w (.bsl 1 1 [(.int .i64 0)] [(0,1)]),[.t 29],none,[]⟩,
⟨(some 31),.w (.app 1 8),[.t 28,.t 30],none,[]⟩,
⟨(some 32),.p .nilC,[.t 24],none,[]⟩,
⟨(some 33),.p (.fa 4),[.t 32],none,[]⟩,
⟨none,.w (.st 1),[.t 33,.t 31],none,[]⟩] false []) (.skip), []⟩
structure D383 (T : Tab) : Prop where
  fn : T.fn 383 = some ir383
  pr : T.prim 383 = none
/-- (*motley/heap.Heap).empty -/
def ir374 : AFunc := ⟨.seq (.region [
⟨(some 7),.p .mv,[.t 0],none,[]⟩,
⟨(some 8),.p .nilC,[.t 7],none,[]⟩,
⟨(some 9),.p (.fa 2),[.t 8],none,[]⟩,
⟨(some 10),.r (.ld 1 false),[.t 9],none,[]⟩,
⟨(some 11),.p .mv,[.t 1],none,[]⟩,
⟨(some 12),.p (.ia 5),[.t 10,.t 11],none,[]⟩,
⟨(some 13),.p (.fa 0),[.t 12],none,[]⟩,
⟨(some 14),.r (.ld 1 false),[.t 13],none,[]⟩,
⟨(some 15),.p .mv,[.t 2],none,[]⟩,
⟨(some 16),.p (.ia 3),[.t 14,.t 15],none,[]⟩,
⟨(some 17),.r (.ld 3 true),[.t 16],none,[]⟩,
⟨(some 6),.w .box,[.c (.agg [(.bool false),(.bool false),(.int .i64 0)])],none,[]⟩,
⟨none,.w (.st 3),[.t 6,.t 17],none,[]⟩] false []) <|
 .seq (.region [
⟨(some 18),.p .mv,[.t 0],none,[]⟩,
⟨(some 19),.p .nilC,[.t 18],none,[]⟩,
⟨(some 20),.p (.fa 2),[.t 19],none,[]⟩,
⟨(some 21),.r (.ld 1 false),[.t 20],none,[]⟩,
⟨(some 22),.p .mv,[.t 1],none,[]⟩,
⟨(some 23),.p (.ia 5),[.t 21,.t 22],none,[]⟩,
⟨(some 24),.p (.fa 0),[.t 23],none,[]⟩,
⟨(some 25),.r (.ld 1 false),[.t 24],none,[]⟩,
⟨(some 26),.p .mv,[.t 2],none,[]⟩,
⟨(some 27),.p (.bld [(.bool false),(.bool false),(.int .i64 0)] []),[],none,[]⟩,
⟨(some 28),.p (.ia 3),[.t 25,.t 26],none,[]⟩,
⟨none,.w (.st 3),[.t 28,.t 27],none,[]⟩] false []) <|
 .seq (.region [
⟨(some 29),.p (.fa 0),[.t 6],none,[]⟩,
⟨(some 30),.r (.ld 1 false),[.t 29],none,[]⟩,
⟨(some 31),.p .mv,[.t 30],none,[]⟩,
⟨(some 32),.p (.fa 1),[.t 6],(some (31,true)),[]⟩,
⟨(some 33),.r (.ld 1 false),[.t 32],(some (31,true)),[]⟩,
⟨(some 34),.p (.un .not),[.t 33],(some (31,true)),[]⟩,
⟨(some 35),.p .pick,[.t 31,.t 34,.c (.bool false)],none,[]⟩] false []) <|
 .cond (.t 35) (.region [
⟨(some 36),.p .mv,[.t 0],none,[]⟩,
⟨(some 37),.p (.fa 2),[.t 6],none,[]⟩,
⟨(some 38),.r (.ld 1 false),[.t 37],none,[]⟩,
⟨(some 39),.w .call,[.c (.fn 383 [] []),.t 36,.t 38],none,[]⟩] false []) (.skip), []⟩
structure D374 (T : Tab) : Prop where
  fn : T.fn 374 = some ir374
  pr : T.prim 374 = none
  d383 : D383 T
/-- (*motley/heap.Heap).Set -/
def ir345 : AFunc := ⟨.seq (.region [
⟨(some 10),.p .mv,[.c (.int .i64 0)],none,[]⟩] false []) <|
 .seq (.seq (.region [
⟨(some 13),.p .mv,[.t 0],none,[]⟩,
⟨(some 14),.p (.isNil .ptr false),[.t 13],none,[]⟩] false []) <|
 .cond (.t 14) (.seq (.region [
⟨(some 10),.p .mv,[.c (.int .i64 9)],none,[]⟩] false []) <|
 .ret) (.skip)) <|
 .seq (.region [
⟨(some 15),.p .mv,[.t 0],none,[]⟩,
⟨(some 16),.w .call,[.c (.fn 357 [] []),.t 15],none,[]⟩,
⟨(some 1048576),.p .dfr,[.t 1048576,.t 16],none,[]⟩] false []) <|
 .seq (.seq (.region [
⟨(some 17),.p .mv,[.t 0],none,[]⟩,
⟨(some 18),.p .mv,[.t 1],none,[]⟩,
⟨(some 19),.p .mv,[.t 2],none,[]⟩,
⟨(some 20),.w .call,[.c (.fn 373 [] []),.t 17,.t 18,.t 19],none,[]⟩,
⟨(some 11),.p .mv,[.t 20],none,[]⟩] false []) <|
 .seq (.region [
⟨(some 21),.p .mv,[.t 11],none,[]⟩,
⟨(some 22),.p (.bin .neq),[.t 21,.c (.int .i64 0)],none,[]⟩] false []) <|
 .cond (.t 22) (.seq (.region [
⟨(some 23),.p .mv,[.t 11],none,[]⟩,
⟨(some 10),.p .mv,[.t 23],none,[]⟩] false []) <|
 .ret) (.skip)) <|
 .seq (.seq (.region [
⟨(some 24),.p .mv,[.t 0],none,[]⟩,
⟨(some 25),.p .mv,[.t 3],none,[]⟩,
⟨(some 26),.w .call,[.c (.fn 359 [] []),.t 24,.t 25,.c (.bool true)],none,[]⟩,
⟨(some 12),.p .mv,[.t 26],none,[]⟩] false []) <|
 .seq (.region [
⟨(some 27),.p .mv,[.t 12],none,[]⟩,
⟨(some 28),.p (.bin .neq),[.t 27,.c (.int .i64 0)],none,[]⟩] false []) <|
 .cond (.t 28) (.seq (.region [
⟨(some 29),.p .mv,[.t 12],none,[]⟩,
⟨(some 10),.p .mv,[.t 29],none,[]⟩] false []) <|
 .ret) (.skip)) <|
 .seq (.region [
⟨(some 30),.p .mv,[.t 0],none,[]⟩,
⟨(some 31),.p .mv,[.t 1],none,[]⟩,
⟨(some 32),.p .mv,[.t 2],none,[]⟩,
⟨(some 33),.w .call,[.c (.fn 374 [] []),.t 30,.t 31,.t 32],none,[]⟩] false []) <|
 .seq (.region [
⟨(some 34),.p .mv,[.t 0],none,[]⟩,
⟨(some 35),.p .nilC,[.t 34],none,[]⟩,
⟨(some 36),.p (.fa 2),[.t 35],none,[]⟩,
⟨(some 37),.r (.ld 1 false),[.t 36],none,[]⟩,
⟨(some 38),.p .mv,[.t 1],none,[]⟩,
⟨(some 39),.p (.ia 5),[.t 37,.t 38],none,[]⟩,
⟨(some 40),.p (.fa 0),[.t 39],none,[]⟩,
⟨(some 41),.r (.ld 1 false),[.t 40],none,[]⟩,
⟨(some 42),.p .mv,[.t 2],none,[]⟩,
⟨(some 43),.p .mv,[.t 4],none,[]⟩,
⟨(some 44),.p .mv,[.t 3],none,[]⟩,
⟨(some 45),.p (.bld [(.bool false),(.bool false),(.int .i64 0)] [(0,1),(1,1),(2,1)]),[.c (.bool true),.t 43,.t 44],none,[]⟩,
⟨(some 46),.p (.ia 3),[.t 41,.t 42],none,[]⟩,
⟨none,.w (.st 3),[.t 46,.t 45],none,[]⟩] false []) <|
 .seq (.seq (.region [
⟨(some 47),.p .mv,[.t 4],none,[]⟩,
⟨(some 48),.p (.un .not),[.t 47],none,[]⟩] false []) <|
 .cond (.t 48) (.region [
⟨(some 49),.p .mv,[.t 0],none,[]⟩,
⟨(some 50),.p .nilC,[.t 49],none,[]⟩,
⟨(some 51),.p (.fa 2),[.t 50],none,[]⟩,
⟨(some 52),.r (.ld 1 false),[.t 51],none,[]⟩,
⟨(some 53),.p .mv,[.t 3],none,[]⟩,
⟨(some 54),.p (.ia 5),[.t 52,.t 53],none,[]⟩,
⟨(some 55),.p (.fa 4),[.t 54],none,[]⟩,
⟨(some 56),.r (.ld 1 false),[.t 55],none,[]⟩,
⟨(some 57),.p (.bin .add),[.t 56,.c (.int .i64 1)],none,[]⟩,
⟨(some 58),.p (.ia 5),[.t 52,.t 53],none,[]⟩,
⟨(some 59),.p (.fa 4),[.t 58],none,[]⟩,
⟨none,.w (.st 1),[.t 59,.t 57],none,[]⟩] false []) (.skip)) <|
 .seq (.region [
⟨(some 10),.p .mv,[.c (.int .i64 0)],none,[]⟩] false []) <|
 .ret, [.tmp 10]⟩
structure D345 (T : Tab) : Prop where
  fn : T.fn 345 = some ir345
  pr : T.prim 345 = none
  d357 : D357 T
  d373 : D373 T
  d359 : D359 T
  d374 : D374 T
/-- (*motley/heap.Heap).unroot -/
def ir361 : AFunc := ⟨.seq (.region [
⟨(some 4),.p .mv,[.t 0],none,[]⟩,
⟨(some 5),.p .nilC,[.t 4],none,[]⟩,
⟨(some 6),.p (.fa 3),[.t 5],none,[]⟩,
⟨(some 7),.r (.ld 1 false),[.t 6],none,[]⟩,
⟨(some 8),.p .mv,[.t 1],none,[]⟩,
⟨(some 9),.r (.look .int (.int .i64 0) false),[.t 7,.t 8],none,[]⟩,
⟨(some 10),.p (.bin .sub),[.t 9,.c (.int .i64 1)],none,[]⟩,
⟨none,.w (.mset .int),[.t 7,.t 8,.t 10],none,[]⟩] false []) <|
 .seq (.seq (.region [
⟨(some 11),.p .mv,[.t 0],none,[]⟩,
⟨(some 12),.p .nilC,[.t 11],none,[]⟩,
⟨(some 13),.p (.fa 3),[.t 12],none,[]⟩,
⟨(some 14),.r (.ld 1 false),[.t 13],none,[]⟩,
⟨(some 15),.p .mv,[.t 1],none,[]⟩,
⟨(some 16),.r (.look .int (.int .i64 0) false),[.t 14,.t 15],none,[]⟩,
⟨(some 17),.p (.bin .eql),[.t 16,.c (.int .i64 0)],none,[]⟩] false []) <|
 .cond (.t 17) (.region [
⟨(some 18),.p .mv,[.t 0],none,[]⟩,
⟨(some 19),.p .nilC,[.t 18],none,[]⟩,
⟨(some 20),.p (.fa 3),[.t 19],none,[]⟩,
⟨(some 21),.r (.ld 1 false),[.t 20],none,[]⟩,
⟨(some 22),.p .mv,[.t 1],none,[]⟩,
⟨none,.w (.mdel .int),[.t 21,.t 22],none,[]⟩] false []) (.skip)) <|
 .region [
⟨(some 23),.p .mv,[.t 0],none,[]⟩,
⟨(some 24),.p .mv,[.t 1],none,[]⟩,
⟨(some 25),.w .call,[.c (.fn 383 [] []),.t 23,.t 24],none,[]⟩] false [], []⟩
structure D361 (T : Tab) : Prop where
  fn : T.fn 361 = some ir361
  pr : T.prim 361 = none
  d383 : D383 T
/-- (*motley/heap.Heap).Drop -/
def ir325 : AFunc := ⟨.seq (.region [
⟨(some 4),.p .mv,[.c (.int .i64 0)],none,[]⟩] false []) <|
 .seq (.seq (.region [
⟨(some 6),.p .mv,[.t 0],none,[]⟩,
⟨(some 7),.p (.isNil .ptr false),[.t 6],none,[]⟩] false []) <|
 .cond (.t 7) (.seq (.region [
⟨(some 4),.p .mv,[.c (.int .i64 9)],none,[]⟩] false []) <|
 .ret) (.skip)) <|
 .seq (.region [
⟨(some 8),.p .mv,[.t 0],none,[]⟩,
⟨(some 9),.w .call,[.c (.fn 357 [] []),.t 8],none,[]⟩,
⟨(some 1048576),.p .dfr,[.t 1048576,.t 9],none,[]⟩] false []) <|
 .seq (.seq (.region [
⟨(some 10),.p .mv,[.t 0],none,[]⟩,
⟨(some 11),.p .mv,[.t 1],none,[]⟩,
⟨(some 12),.w .call,[.c (.fn 359 [] []),.t 10,.t 11,.c (.bool true)],none,[]⟩,
⟨(some 5),.p .mv,[.t 12],none,[]⟩] false []) <|
 .seq (.region [
⟨(some 13),.p .mv,[.t 5],none,[]⟩,
⟨(some 14),.p (.bin .neq),[.t 13,.c (.int .i64 0)],none,[]⟩] false []) <|
 .cond (.t 14) (.seq (.region [
⟨(some 15),.p .mv,[.t 5],none,[]⟩,
⟨(some 4),.p .mv,[.t 15],none,[]⟩] false []) <|
 .ret) (.skip)) <|
 .seq (.seq (.region [
⟨(some 16),.p .mv,[.t 0],none,[]⟩,
⟨(some 17),.p .nilC,[.t 16],none,[]⟩,
⟨(some 18),.p (.fa 3),[.t 17],none,[]⟩,
⟨(some 19),.r (.ld 1 false),[.t 18],none,[]⟩,
⟨(some 20),.p .mv,[.t 1],none,[]⟩,
⟨(some 21),.r (.look .int (.int .i64 0) false),[.t 19,.t 20],none,[]⟩,
⟨(some 22),.p (.bin .eql),[.t 21,.c (.int .i64 0)],none,[]⟩] false []) <|
 .cond (.t 22) (.seq (.region [
⟨(some 4),.p .mv,[.c (.int .i64 7)],none,[]⟩] false []) <|
 .ret) (.skip)) <|
 .seq (.region [
⟨(some 23),.p .mv,[.t 0],none,[]⟩,
⟨(some 24),.p .mv,[.t 1],none,[]⟩,
⟨(some 25),.w .call,[.c (.fn 361 [] []),.t 23,.t 24],none,[]⟩] false []) <|
 .seq (.region [
⟨(some 4),.p .mv,[.c (.int .i64 0)],none,[]⟩] false []) <|
 .ret, [.tmp 4]⟩
structure D325 (T : Tab) : Prop where
  fn : T.fn 325 = some ir325
  pr : T.prim 325 = none
  d357 : D357 T
  d359 : D359 T
  d361 : D361 T
/-- (*motley/heap.Heap).end -/
def ir382 : AFunc := ⟨.seq (.region [
⟨(some 8),.p .mv,[.t 0],none,[]⟩,
⟨(some 9),.p .nilC,[.t 8],none,[]⟩,
⟨(some 10),.p (.fa 2),[.t 9],none,[]⟩,
⟨(some 11),.r (.ld 1 false),[.t 10],none,[]⟩,
⟨(some 12),.p .mv,[.t 1],none,[]⟩,
⟨(some 13),.p (.ia 5),[.t 11,.t 12],none,[]⟩,
⟨(some 14),.p (.fa 3),[.t 13],none,[]⟩,
⟨none,.w (.st 1),[.t 14,.c (.bool true)],none,[]⟩] false []) <|
 .seq (.seq (.region [
⟨(some 15),.p .mv,[.t 0],none,[]⟩,
⟨(some 16),.p .nilC,[.t 15],none,[]⟩,
⟨(some 17),.p (.fa 2),[.t 16],none,[]⟩,
⟨(some 18),.r (.ld 1 false),[.t 17],none,[]⟩,
⟨(some 19),.p .len,[.t 18],none,[]⟩,
⟨(some 20),.p .mv,[.c (.int .i64 0)],none,[]⟩] false []) <|
 .block 0 (.loop (.seq (.region [
⟨(some 21),.p (.bin .lss),[.t 20,.t 19],none,[]⟩] false []) <|
 .seq (.cond (.t 21) (.skip) (.exit 0)) <|
 .seq (.block 1 (.seq (.region [
⟨(some 22),.p .mv,[.t 20],none,[]⟩,
⟨(some 4),.p .mv,[.t 22],none,[]⟩] false []) <|
 .seq (.region [
⟨(some 23),.p .mv,[.t 0],none,[]⟩,
⟨(some 24),.p .nilC,[.t 23],none,[]⟩,
⟨(some 25),.p (.fa 2),[.t 24],none,[]⟩,
⟨(some 26),.r (.ld 1 false),[.t 25],none,[]⟩,
⟨(some 27),.p .mv,[.t 4],none,[]⟩,
⟨(some 28),.p (.ia 5),[.t 26,.t 27],none,[]⟩,
⟨(some 29),.p (.fa 0),[.t 28],none,[]⟩,
⟨(some 30),.r (.ld 1 false),[.t 29],none,[]⟩,
⟨(some 31),.p .len,[.t 30],none,[]⟩,
⟨(some 32),.p .mv,[.c (.int .i64 0)],none,[]⟩] false []) <|
 .block 2 (.loop (.seq (.region [
⟨(some 33),.p (.bin .lss),[.t 32,.t 31],none,[]⟩] false []) <|
 .seq (.cond (.t 33) (.skip) (.exit 2)) <|
 .seq (.block 3 (.seq (.region [
⟨(some 34),.p .mv,[.t 32],none,[]⟩,
⟨(some 35),.p (.ia 3),[.t 30,.t 32],none,[]⟩,
⟨(some 36),.r (.ld 3 true),[.t 35],none,[]⟩,
⟨(some 6),.w .box,[.c (.agg [(.bool false),(.bool false),(.int .i64 0)])],none,[]⟩,
⟨(some 5),.p .mv,[.t 34],none,[]⟩,
⟨none,.w (.st 3),[.t 6,.t 36],none,[]⟩] false []) <|
 .seq (.region [
⟨(some 37),.p (.fa 0),[.t 6],none,[]⟩,
⟨(some 38),.r (.ld 1 false),[.t 37],none,[]⟩,
⟨(some 39),.p .mv,[.t 38],none,[]⟩,
⟨(some 40),.p (.fa 1),[.t 6],(some (39,true)),[]⟩,
⟨(some 41),.r (.ld 1 false),[.t 40],(some (39,true)),[]⟩,
⟨(some 42),.p .pick,[.t 39,.t 41,.c (.bool false)],none,[]⟩,
⟨(some 43),.p .mv,[.t 42],none,[]⟩,
⟨(some 44),.p (.fa 2),[.t 6],(some (43,true)),[]⟩,
⟨(some 45),.r (.ld 1 false),[.t 44],(some (43,true)),[]⟩,
⟨(some 46),.p .mv,[.t 1],(some (43,true)),[]⟩,
⟨(some 47),.p (.bin .eql),[.t 45,.t 46],(some (43,true)),[]⟩,
⟨(some 48),.p .pick,[.t 43,.t 47,.c (.bool false)],none,[]⟩] false []) <|
 .cond (.t 48) (.region [
⟨(some 49),.p .mv,[.t 0],none,[]⟩,
⟨(some 50),.p .nilC,[.t 49],none,[]⟩,
⟨(some 51),.p (.fa 2),[.t 50],none,[]⟩,
⟨(some 52),.r (.ld 1 false),[.t 51],none,[]⟩,
⟨(some 53),.p .mv,[.t 4],none,[]⟩,
⟨(some 54),.p (.ia 5),[.t 52,.t 53],none,[]⟩,
⟨(some 55),.p (.fa 0),[.t 54],none,[]⟩,
⟨(some 56),.r (.ld 1 false),[.t 55],none,[]⟩,
⟨(some 57),.p .mv,[.t 5],none,[]⟩,
⟨(some 58),.p (.bld [(.bool false),(.bool false),(.int .i64 0)] []),[],none,[]⟩,
⟨(some 59),.p (.ia 3),[.t 56,.t 57],none,[]⟩,
⟨none,.w (.st 3),[.t 59,.t 58],none,[]⟩] false []) (.skip))) <|
 .region [
⟨(some 60),.p (.bin .add),[.t 32,.c (.int .i64 1)],none,[]⟩,
⟨(some 32),.p .mv,[.t 60],none,[]⟩] false [])))) <|
 .region [
⟨(some 61),.p (.bin .add),[.t 20,.c (.int .i64 1)],none,[]⟩,
⟨(some 20),.p .mv,[.t 61],none,[]⟩] false []))) <|
 .seq (.region [
⟨(some 62),.p .mv,[.t 0],none,[]⟩,
⟨(some 63),.p .nilC,[.t 62],none,[]⟩,
⟨(some 64),.p (.fa 2),[.t 63],none,[]⟩,
⟨(some 65),.r (.ld 1 false),[.t 64],none,[]⟩,
⟨(some 66),.p .mv,[.t 1],none,[]⟩,
⟨(some 67),.p (.ia 5),[.t 65,.t 66],none,[]⟩,
⟨(some 68),.p (.fa 0),[.t 67],none,[]⟩,
⟨(some 69),.r (.ld 1 false),[.t 68],none,[]⟩,
⟨(some 70),.p .len,[.t 69],none,[]⟩,
⟨(some 71),.p .mv,[.c (.int .i64 0)],none,[]⟩] false []) <|
 .block 4 (.loop (.seq (.region [
⟨(some 72),.p (.bin .lss),[.t 71,.t 70],none,[]⟩] false []) <|
 .seq (.cond (.t 72) (.skip) (.exit 4)) <|
 .seq (.block 5 (.seq (.region [
⟨(some 73),.p .mv,[.t 71],none,[]⟩,
⟨(some 7),.p .mv,[.t 73],none,[]⟩] false []) <|
 .region [
⟨(some 74),.p .mv,[.t 0],none,[]⟩,
⟨(some 75),.p .mv,[.t 1],none,[]⟩,
⟨(some 76),.p .mv,[.t 7],none,[]⟩,
⟨(some 77),.w .call,[.c (.fn 374 [] []),.t 74,.t 75,.t 76],none,[]⟩] false [])) <|
 .region [
⟨(some 78),.p (.bin .add),[.t 71,.c (.int .i64 1)],none,[]⟩,
⟨(some 71),.p .mv,[.t 78],none,[]⟩] false [])), []⟩
structure D382 (T : Tab) : Prop where
  fn : T.fn 382 = some ir382
  pr : T.prim 382 = none
  d374 : D374 T
/-- (*motley/heap.Heap).next -/
def ir358 : AFunc := ⟨.seq (.region [
⟨(some 2),.p .mv,[.c (.int .i64 0)],none,[]⟩,
⟨(some 3),.p .mv,[.c (.bool false)],none,[]⟩] false []) <|
 .seq (.block 0 (.loop (.seq (.seq (.region [
⟨(some 6),.p .mv,[.t 0],none,[]⟩,
⟨(some 7),.p .nilC,[.t 6],none,[]⟩,
⟨(some 8),.p (.fa 4),[.t 7],none,[]⟩,
⟨(some 9),.r (.ld 1 false),[.t 8],none,[]⟩,
⟨(some 10),.p .len,[.t 9],none,[]⟩,
⟨(some 11),.p (.bin .gtr),[.t 10,.c (.int .i64 0)],none,[]⟩] false []) <|
 .cond (.t 11) (.skip) (.exit 0)) <|
 .block 1 (.seq (.region [
⟨(some 12),.p .mv,[.t 0],none,[]⟩,
⟨(some 13),.p .nilC,[.t 12],none,[]⟩,
⟨(some 14),.p (.fa 4),[.t 13],none,[]⟩,
⟨(some 15),.r (.ld 1 false),[.t 14],none,[]⟩,
⟨(some 16),.p (.ia 1),[.t 15,.c (.int .i64 0)],none,[]⟩,
⟨(some 17),.r (.ld 1 false),[.t 16],none,[]⟩,
⟨(some 4),.p .mv,[.t 17],none,[]⟩] false []) <|
 .seq (.region [
⟨(some 18),.p .mv,[.t 0],none,[]⟩,
⟨(some 19),.p .mv,[.t 0],none,[]⟩,
⟨(some 20),.p .nilC,[.t 19],none,[]⟩,
⟨(some 21),.p (.fa 4),[.t 20],none,[]⟩,
⟨(some 22),.r (.ld 1 false),[.t 21],none,[]⟩,
⟨(some 23),.p (.sl 1 true false false),[.t 22,.c (.int .i64 1)],none,[]⟩,
⟨(some 24),.p .nilC,[.t 18],none,[]⟩,
⟨(some 25),.p (.fa 4),[.t 24],none,[]⟩,
⟨none,.w (.st 1),[.t 25,.t 23],none,[]⟩] false []) <|
 .seq (.region [
⟨(some 26),.p .mv,[.t 0],none,[]⟩,
⟨(some 27),.p .nilC,[.t 26],none,[]⟩,
⟨(some 28),.p (.fa 2),[.t 27],none,[]⟩,
⟨(some 29),.r (.ld 1 false),[.t 28],none,[]⟩,
⟨(some 30),.p .mv,[.t 4],none,[]⟩,
⟨(some 31),.p (.ia 5),[.t 29,.t 30],none,[]⟩,
⟨(some 5),.p .mv,[.t 31],none,[]⟩] false []) <|
 .block 2 (.seq (.region [
⟨(some 36),.p .mv,[.t 5],none,[]⟩,
⟨(some 37),.p .nilC,[.t 36],none,[]⟩,
⟨(some 38),.p (.fa 4),[.t 37],none,[]⟩,
⟨(some 39),.r (.ld 1 false),[.t 38],none,[]⟩,
⟨(some 40),.p (.bin .gtr),[.t 39,.c (.int .i64 0)],none,[]⟩,
⟨(some 41),.p .mv,[.t 40],none,[]⟩,
⟨(some 42),.p .mv,[.t 5],(some (41,false)),[]⟩,
⟨(some 43),.p .nilC,[.t 42],(some (41,false)),[]⟩,
⟨(some 44),.p (.fa 3),[.t 43],(some (41,false)),[]⟩,
⟨(some 45),.r (.ld 1 false),[.t 44],(some (41,false)),[]⟩,
⟨(some 46),.p .pick,[.t 41,.c (.bool true),.t 45],none,[]⟩,
⟨(some 35),.p .mv,[.t 46],none,[]⟩] false []) <|
 .cond (.t 35) (.skip) (.seq (.region [
⟨(some 48),.p .mv,[.t 5],none,[]⟩,
⟨(some 49),.p .nilC,[.t 48],none,[]⟩,
⟨(some 50),.p (.fa 1),[.t 49],none,[]⟩,
⟨(some 51),.r (.ld 1 false),[.t 50],none,[]⟩,
⟨(some 52),.p .mv,[.t 51],none,[]⟩,
⟨(some 53),.p .mv,[.t 5],(some (52,true)),[]⟩,
⟨(some 54),.p .nilC,[.t 53],(some (52,true)),[]⟩,
⟨(some 55),.p (.fa 2),[.t 54],(some (52,true)),[]⟩,
⟨(some 56),.r (.ld 1 false),[.t 55],(some (52,true)),[]⟩,
⟨(some 57),.p (.un .not),[.t 56],(some (52,true)),[]⟩,
⟨(some 58),.p .pick,[.t 52,.t 57,.c (.bool false)],none,[]⟩,
⟨(some 47),.p .mv,[.t 58],none,[]⟩] false []) <|
 .cond (.t 47) (.seq (.region [
⟨(some 59),.p .mv,[.t 5],none,[]⟩,
⟨(some 60),.p .nilC,[.t 59],none,[]⟩,
⟨(some 61),.p (.fa 2),[.t 60],none,[]⟩,
⟨none,.w (.st 1),[.t 61,.c (.bool true)],none,[]⟩] false []) <|
 .seq (.region [
⟨(some 62),.p .mv,[.t 0],none,[]⟩,
⟨(some 63),.p .mv,[.t 4],none,[]⟩,
⟨(some 64),.w .call,[.c (.fn 360 [] []),.t 62,.t 63],none,[]⟩] false []) <|
 .seq (.region [
⟨(some 65),.p .mv,[.t 4],none,[]⟩,
⟨(some 2),.p .mv,[.t 65],none,[]⟩,
⟨(some 3),.p .mv,[.c (.bool true)],none,[]⟩] false []) <|
 .ret) (.region [
⟨(some 32),.p .mv,[.t 0],none,[]⟩,
⟨(some 33),.p .mv,[.t 4],none,[]⟩,
⟨(some 34),.w .call,[.c (.fn 382 [] []),.t 32,.t 33],none,[]⟩] false []))))))) <|
 .seq (.region [
⟨(some 2),.p .mv,[.c (.int .i64 0)],none,[]⟩,
⟨(some 3),.p .mv,[.c (.bool false)],none,[]⟩] false []) <|
 .ret, [.tmp 2,.tmp 3]⟩
structure D358 (T : Tab) : Prop where
  fn : T.fn 358 = some ir358
  pr : T.prim 358 = none
  d360 : D360 T
  d382 : D382 T
/-- (*motley/heap.Heap).Settle -/
def ir339 : AFunc := ⟨.seq (.region [
⟨(some 2),.p .mv,[.c (.slc none 0 0 none)],none,[]⟩] false []) <|
 .seq (.seq (.region [
⟨(some 6),.p .mv,[.t 0],none,[]⟩,
⟨(some 7),.p (.isNil .ptr false),[.t 6],none,[]⟩] false []) <|
 .cond (.t 7) (.seq (.region [
⟨(some 2),.p .mv,[.c (.slc none 0 0 none)],none,[]⟩] false []) <|
 .ret) (.skip)) <|
 .seq (.region [
⟨(some 8),.p .mv,[.t 0],none,[]⟩,
⟨(some 9),.w .call,[.c (.fn 357 [] []),.t 8],none,[]⟩,
⟨(some 1048576),.p .dfr,[.t 1048576,.t 9],none,[]⟩] false []) <|
 .seq (.region [
⟨(some 3),.p .mv,[.c (.slc none 0 0 none)],none,[]⟩] false []) <|
 .block 0 (.loop (.block 1 (.seq (.region [
⟨(some 11),.p .mv,[.t 0],none,[]⟩,
⟨(some 12),.w .call,[.c (.fn 358 [] []),.t 11],none,[]⟩,
⟨(some 10),.p .mv,[.t 12],none,[]⟩,
⟨(some 13),.p (.ext 0),[.t 10],none,[]⟩,
⟨(some 14),.p (.ext 1),[.t 10],none,[]⟩,
⟨(some 4),.p .mv,[.t 13],none,[]⟩,
⟨(some 5),.p .mv,[.t 14],none,[]⟩] false []) <|
 .seq (.seq (.region [
⟨(some 15),.p .mv,[.t 5],none,[]⟩,
⟨(some 16),.p (.un .not),[.t 15],none,[]⟩] false []) <|
 .cond (.t 16) (.seq (.region [
⟨(some 17),.p .mv,[.t 3],none,[]⟩,
⟨(some 2),.p .mv,[.t 17],none,[]⟩] false []) <|
 .ret) (.skip)) <|
 .seq (.region [
⟨(some 18),.p .mv,[.t 3],none,[]⟩,
⟨(some 19),.p .mv,[.t 4],none,[]⟩,
⟨(some 20),.w (.bsl 1 1 [(.int .i64 0)] [(0,1)]),[.t 19],none,[]⟩,
⟨(some 21),.w (.app 1 8),[.t 18,.t 20],none,[]⟩,
⟨(some 3),.p .mv,[.t 21],none,[]⟩] false []) <|
 .region [
⟨(some 22),.p .mv,[.t 0],none,[]⟩,
⟨(some 23),.p .mv,[.t 4],none,[]⟩,
⟨(some 24),.w .call,[.c (.fn 361 [] []),.t 22,.t 23],none,[]⟩] false []))), [.tmp 2]⟩
structure D339 (T : Tab) : Prop where
  fn : T.fn 339 = some ir339
  pr : T.prim 339 = none
  d357 : D357 T
  d358 : D358 T
  d361 : D361 T
/-- (*motley/heap.Heap).State -/
def ir340 : AFunc := ⟨.seq (.region [
⟨(some 4),.p .mv,[.c (.int .i64 0)],none,[]⟩,
⟨(some 5),.p .mv,[.c (.int .i64 0)],none,[]⟩] false []) <|
 .seq (.seq (.region [
⟨(some 8),.p .mv,[.t 0],none,[]⟩,
⟨(some 9),.p (.isNil .ptr false),[.t 8],none,[]⟩] false []) <|
 .cond (.t 9) (.seq (.region [
⟨(some 4),.p .mv,[.c (.int .i64 0)],none,[]⟩,
⟨(some 5),.p .mv,[.c (.int .i64 9)],none,[]⟩] false []) <|
 .ret) (.skip)) <|
 .seq (.region [
⟨(some 10),.p .mv,[.t 0],none,[]⟩,
⟨(some 11),.w .call,[.c (.fn 357 [] []),.t 10],none,[]⟩,
⟨(some 1048576),.p .dfr,[.t 1048576,.t 11],none,[]⟩] false []) <|
 .seq (.seq (.region [
⟨(some 12),.p .mv,[.t 0],none,[]⟩,
⟨(some 13),.p .mv,[.t 1],none,[]⟩,
⟨(some 14),.w .call,[.c (.fn 359 [] []),.t 12,.t 13,.c (.bool false)],none,[]⟩,
⟨(some 6),.p .mv,[.t 14],none,[]⟩] false []) <|
 .seq (.region [
⟨(some 15),.p .mv,[.t 6],none,[]⟩,
⟨(some 16),.p (.bin .neq),[.t 15,.c (.int .i64 0)],none,[]⟩] false []) <|
 .cond (.t 16) (.seq (.region [
⟨(some 17),.p .mv,[.t 6],none,[]⟩,
⟨(some 4),.p .mv,[.c (.int .i64 0)],none,[]⟩,
⟨(some 5),.p .mv,[.t 17],none,[]⟩] false []) <|
 .ret) (.skip)) <|
 .seq (.seq (.region [
⟨(some 18),.p .mv,[.t 0],none,[]⟩,
⟨(some 19),.p .nilC,[.t 18],none,[]⟩,
⟨(some 20),.p (.fa 2),[.t 19],none,[]⟩,
⟨(some 21),.r (.ld 1 false),[.t 20],none,[]⟩,
⟨(some 22),.p .mv,[.t 1],none,[]⟩,
⟨(some 23),.p (.ia 5),[.t 21,.t 22],none,[]⟩,
⟨(some 24),.r (.ld 5 true),[.t 23],none,[]⟩,
⟨(some 7),.w .box,[.c (.agg [(.slc none 0 0 none),(.bool false),(.bool false),(.bool false),(.int .i64 0)])],none,[]⟩,
⟨none,.w (.st 5),[.t 7,.t 24],none,[]⟩] false []) <|
 .block 0 (.seq (.region [
⟨(some 26),.p (.fa 3),[.t 7],none,[]⟩,
⟨(some 27),.r (.ld 1 false),[.t 26],none,[]⟩,
⟨(some 25),.p .mv,[.t 27],none,[]⟩] false []) <|
 .cond (.t 25) (.seq (.region [
⟨(some 4),.p .mv,[.c (.int .i64 2)],none,[]⟩,
⟨(some 5),.p .mv,[.c (.int .i64 0)],none,[]⟩] false []) <|
 .ret) (.seq (.region [
⟨(some 29),.p (.fa 2),[.t 7],none,[]⟩,
⟨(some 30),.r (.ld 1 false),[.t 29],none,[]⟩,
⟨(some 28),.p .mv,[.t 30],none,[]⟩] false []) <|
 .cond (.t 28) (.seq (.region [
⟨(some 4),.p .mv,[.c (.int .i64 1)],none,[]⟩,
⟨(some 5),.p .mv,[.c (.int .i64 0)],none,[]⟩] false []) <|
 .ret) (.skip)))) <|
 .seq (.region [
⟨(some 4),.p .mv,[.c (.int .i64 0)],none,[]⟩,
⟨(some 5),.p .mv,[.c (.int .i64 0)],none,[]⟩] false []) <|
 .ret, [.tmp 4,.tmp 5]⟩
structure D340 (T : Tab) : Prop where
  fn : T.fn 340 = some ir340
  pr : T.prim 340 = none
  d357 : D357 T
  d359 : D359 T
/-- (*motley/heap.Heap).Clear -/
def ir346 : AFunc := ⟨.seq (.region [
⟨(some 6),.p .mv,[.c (.int .i64 0)],none,[]⟩] false []) <|
 .seq (.seq (.region [
⟨(some 8),.p .mv,[.t 0],none,[]⟩,
⟨(some 9),.p (.isNil .ptr false),[.t 8],none,[]⟩] false []) <|
 .cond (.t 9) (.seq (.region [
⟨(some 6),.p .mv,[.c (.int .i64 9)],none,[]⟩] false []) <|
 .ret) (.skip)) <|
 .seq (.region [
⟨(some 10),.p .mv,[.t 0],none,[]⟩,
⟨(some 11),.w .call,[.c (.fn 357 [] []),.t 10],none,[]⟩,
⟨(some 1048576),.p .dfr,[.t 1048576,.t 11],none,[]⟩] false []) <|
 .seq (.seq (.region [
⟨(some 12),.p .mv,[.t 0],none,[]⟩,
⟨(some 13),.p .mv,[.t 1],none,[]⟩,
⟨(some 14),.p .mv,[.t 2],none,[]⟩,
⟨(some 15),.w .call,[.c (.fn 373 [] []),.t 12,.t 13,.t 14],none,[]⟩,
⟨(some 7),.p .mv,[.t 15],none,[]⟩] false []) <|
 .seq (.region [
⟨(some 16),.p .mv,[.t 7],none,[]⟩,
⟨(some 17),.p (.bin .neq),[.t 16,.c (.int .i64 0)],none,[]⟩] false []) <|
 .cond (.t 17) (.seq (.region [
⟨(some 18),.p .mv,[.t 7],none,[]⟩,
⟨(some 6),.p .mv,[.t 18],none,[]⟩] false []) <|
 .ret) (.skip)) <|
 .seq (.region [
⟨(some 19),.p .mv,[.t 0],none,[]⟩,
⟨(some 20),.p .mv,[.t 1],none,[]⟩,
⟨(some 21),.p .mv,[.t 2],none,[]⟩,
⟨(some 22),.w .call,[.c (.fn 374 [] []),.t 19,.t 20,.t 21],none,[]⟩] false []) <|
 .seq (.region [
⟨(some 6),.p .mv,[.c (.int .i64 0)],none,[]⟩] false []) <|
 .ret, [.tmp 6]⟩
structure D346 (T : Tab) : Prop where
  fn : T.fn 346 = some ir346
  pr : T.prim 346 = none
  d357 : D357 T
  d373 : D373 T
  d374 : D374 T
/-- (*motley/heap.Heap).Next -/
def ir323 : AFunc := ⟨.seq (.region [
⟨(some 2),.p .mv,[.c (.int .i64 0)],none,[]⟩,
⟨(some 3),.p .mv,[.c (.bool false)],none,[]⟩] false []) <|
 .seq (.seq (.region [
⟨(some 4),.p .mv,[.t 0],none,[]⟩,
⟨(some 5),.p (.isNil .ptr false),[.t 4],none,[]⟩] false []) <|
 .cond (.t 5) (.seq (.region [
⟨(some 2),.p .mv,[.c (.int .i64 0)],none,[]⟩,
⟨(some 3),.p .mv,[.c (.bool false)],none,[]⟩] false []) <|
 .ret) (.skip)) <|
 .seq (.region [
⟨(some 6),.p .mv,[.t 0],none,[]⟩,
⟨(some 7),.w .call,[.c (.fn 357 [] []),.t 6],none,[]⟩,
⟨(some 1048576),.p .dfr,[.t 1048576,.t 7],none,[]⟩] false []) <|
 .seq (.region [
⟨(some 8),.p .mv,[.t 0],none,[]⟩,
⟨(some 9),.w .call,[.c (.fn 358 [] []),.t 8],none,[]⟩,
⟨(some 10),.p (.ext 0),[.t 9],none,[]⟩,
⟨(some 11),.p (.ext 1),[.t 9],none,[]⟩,
⟨(some 2),.p .mv,[.t 10],none,[]⟩,
⟨(some 3),.p .mv,[.t 11],none,[]⟩] false []) <|
 .ret, [.tmp 2,.tmp 3]⟩
structure D323 (T : Tab) : Prop where
  fn : T.fn 323 = some ir323
  pr : T.prim 323 = none
  d357 : D357 T
  d358 : D358 T
/-- (*motley/heap.Heap).Count -/
def ir341 : AFunc := ⟨.seq (.region [
⟨(some 4),.p .mv,[.c (.int .i64 0)],none,[]⟩,
⟨(some 5),.p .mv,[.c (.int .i64 0)],none,[]⟩] false []) <|
 .seq (.seq (.region [
⟨(some 7),.p .mv,[.t 0],none,[]⟩,
⟨(some 8),.p (.isNil .ptr false),[.t 7],none,[]⟩] false []) <|
 .cond (.t 8) (.seq (.region [
⟨(some 4),.p .mv,[.c (.int .i64 0)],none,[]⟩,
⟨(some 5),.p .mv,[.c (.int .i64 9)],none,[]⟩] false []) <|
 .ret) (.skip)) <|
 .seq (.region [
⟨(some 9),.p .mv,[.t 0],none,[]⟩,
⟨(some 10),.w .call,[.c (.fn 357 [] []),.t 9],none,[]⟩,
⟨(some 1048576),.p .dfr,[.t 1048576,.t 10],none,[]⟩] false []) <|
 .seq (.seq (.region [
⟨(some 11),.p .mv,[.t 0],none,[]⟩,
⟨(some 12),.p .mv,[.t 1],none,[]⟩,
⟨(some 13),.w .call,[.c (.fn 359 [] []),.t 11,.t 12,.c (.bool false)],none,[]⟩,
⟨(some 6),.p .mv,[.t 13],none,[]⟩] false []) <|
 .seq (.region [
⟨(some 14),.p .mv,[.t 6],none,[]⟩,
⟨(some 15),.p (.bin .neq),[.t 14,.c (.int .i64 0)],none,[]⟩] false []) <|
 .cond (.t 15) (.seq (.region [
⟨(some 16),.p .mv,[.t 6],none,[]⟩,
⟨(some 4),.p .mv,[.c (.int .i64 0)],none,[]⟩,
⟨(some 5),.p .mv,[.t 16],none,[]⟩] false []) <|
 .ret) (.skip)) <|
 .seq (.region [
⟨(some 17),.p .mv,[.t 0],none,[]⟩,
⟨(some 18),.p .nilC,[.t 17],none,[]⟩,
⟨(some 19),.p (.fa 2),[.t 18],none,[]⟩,
⟨(some 20),.r (.ld 1 false),[.t 19],none,[]⟩,
⟨(some 21),.p .mv,[.t 1],none,[]⟩,
⟨(some 22),.p (.ia 5),[.t 20,.t 21],none,[]⟩,
⟨(some 23),.p (.fa 4),[.t 22],none,[]⟩,
⟨(some 24),.r (.ld 1 false),[.t 23],none,[]⟩,
⟨(some 4),.p .mv,[.t 24],none,[]⟩,
⟨(some 5),.p .mv,[.c (.int .i64 0)],none,[]⟩] false []) <|
 .ret, [.tmp 4,.tmp 5]⟩
structure D341 (T : Tab) : Prop where
  fn : T.fn 341 = some ir341
  pr : T.prim 341 = none
  d357 : D357 T
  d359 : D359 T
/-- (*motley/heap.Heap).Get -/
def ir344 : AFunc := ⟨.seq (.region [
⟨(some 6),.p .mv,[.c (.int .i64 0)],none,[]⟩,
⟨(some 7),.p .mv,[.c (.bool false)],none,[]⟩,
⟨(some 8),.p .mv,[.c (.bool false)],none,[]⟩,
⟨(some 9),.p .mv,[.c (.int .i64 0)],none,[]⟩] false []) <|
 .seq (.seq (.region [
⟨(some 12),.p .mv,[.t 0],none,[]⟩,
⟨(some 13),.p (.isNil .ptr false),[.t 12],none,[]⟩] false []) <|
 .cond (.t 13) (.seq (.region [
⟨(some 6),.p .mv,[.c (.int .i64 0)],none,[]⟩,
⟨(some 7),.p .mv,[.c (.bool false)],none,[]⟩,
⟨(some 8),.p .mv,[.c (.bool false)],none,[]⟩,
⟨(some 9),.p .mv,[.c (.int .i64 9)],none,[]⟩] false []) <|
 .ret) (.skip)) <|
 .seq (.region [
⟨(some 14),.p .mv,[.t 0],none,[]⟩,
⟨(some 15),.w .call,[.c (.fn 357 [] []),.t 14],none,[]⟩,
⟨(some 1048576),.p .dfr,[.t 1048576,.t 15],none,[]⟩] false []) <|
 .seq (.seq (.region [
⟨(some 16),.p .mv,[.t 0],none,[]⟩,
⟨(some 17),.p .mv,[.t 1],none,[]⟩,
⟨(some 18),.p .mv,[.t 2],none,[]⟩,
⟨(some 19),.w .call,[.c (.fn 373 [] []),.t 16,.t 17,.t 18],none,[]⟩,
⟨(some 10),.p .mv,[.t 19],none,[]⟩] false []) <|
 .seq (.region [
⟨(some 20),.p .mv,[.t 10],none,[]⟩,
⟨(some 21),.p (.bin .neq),[.t 20,.c (.int .i64 0)],none,[]⟩] false []) <|
 .cond (.t 21) (.seq (.region [
⟨(some 22),.p .mv,[.t 10],none,[]⟩,
⟨(some 6),.p .mv,[.c (.int .i64 0)],none,[]⟩,
⟨(some 7),.p .mv,[.c (.bool false)],none,[]⟩,
⟨(some 8),.p .mv,[.c (.bool false)],none,[]⟩,
⟨(some 9),.p .mv,[.t 22],none,[]⟩] false []) <|
 .ret) (.skip)) <|
 .seq (.region [
⟨(some 23),.p .mv,[.t 0],none,[]⟩,
⟨(some 24),.p .nilC,[.t 23],none,[]⟩,
⟨(some 25),.p (.fa 2),[.t 24],none,[]⟩,
⟨(some 26),.r (.ld 1 false),[.t 25],none,[]⟩,
⟨(some 27),.p .mv,[.t 1],none,[]⟩,
⟨(some 28),.p (.ia 5),[.t 26,.t 27],none,[]⟩,
⟨(some 29),.p (.fa 0),[.t 28],none,[]⟩,
⟨(some 30),.r (.ld 1 false),[.t 29],none,[]⟩,
⟨(some 31),.p .mv,[.t 2],none,[]⟩,
⟨(some 32),.p (.ia 3),[.t 30,.t 31],none,[]⟩,
⟨(some 33),.r (.ld 3 true),[.t 32],none,[]⟩,
⟨(some 11),.w .box,[.c (.agg [(.bool false),(.bool false),(.int .i64 0)])],none,[]⟩,
⟨none,.w (.st 3),[.t 11,.t 33],none,[]⟩] false []) <|
 .seq (.region [
⟨(some 34),.p (.fa 2),[.t 11],none,[]⟩,
⟨(some 35),.r (.ld 1 false),[.t 34],none,[]⟩,
⟨(some 36),.p (.fa 0),[.t 11],none,[]⟩,
⟨(some 37),.r (.ld 1 false),[.t 36],none,[]⟩,
⟨(some 38),.p (.fa 1),[.t 11],none,[]⟩,
⟨(some 39),.r (.ld 1 false),[.t 38],none,[]⟩,
⟨(some 6),.p .mv,[.t 35],none,[]⟩,
⟨(some 7),.p .mv,[.t 37],none,[]⟩,
⟨(some 8),.p .mv,[.t 39],none,[]⟩,
⟨(some 9),.p .mv,[.c (.int .i64 0)],none,[]⟩] true []) <|
 .ret, [.tmp 6,.tmp 7,.tmp 8,.tmp 9]⟩
structure D344 (T : Tab) : Prop where
  fn : T.fn 344 = some ir344
  pr : T.prim 344 = none
  d357 : D357 T
  d373 : D373 T
/-- slices.Clone[[]int,int] -/
def ir173 : AFunc := ⟨.seq (.region [
⟨(some 2),.p .mv,[.c (.slc none 0 0 none)],none,[]⟩] false []) <|
 .seq (.seq (.region [
⟨(some 3),.p .mv,[.t 0],none,[]⟩,
⟨(some 4),.p (.isNil .slc false),[.t 3],none,[]⟩] false []) <|
 .cond (.t 4) (.seq (.region [
⟨(some 2),.p .mv,[.c (.slc none 0 0 none)],none,[]⟩] false []) <|
 .ret) (.skip)) <|
 .seq (.region [
⟨(some 5),.w (.bsl 1 0 [] []),[],none,[]⟩,
⟨(some 6),.p .mv,[.t 0],none,[]⟩,
⟨(some 7),.w (.app 1 8),[.t 5,.t 6],none,[]⟩,
⟨(some 2),.p .mv,[.t 7],none,[]⟩] false []) <|
 .ret, [.tmp 2]⟩
structure D173 (T : Tab) : Prop where
  fn : T.fn 173 = some ir173
  pr : T.prim 173 = none
/-- (*motley/heap.Heap).strong -/
def ir371 : AFunc := ⟨.seq (.region [
⟨(some 4),.p .mv,[.c (.slc none 0 0 none)],none,[]⟩] false []) <|
 .seq (.region [
⟨(some 5),.p .mv,[.c (.slc none 0 0 none)],none,[]⟩] false []) <|
 .seq (.seq (.region [
⟨(some 8),.p .mv,[.t 0],none,[]⟩,
⟨(some 9),.p .nilC,[.t 8],none,[]⟩,
⟨(some 10),.p (.fa 2),[.t 9],none,[]⟩,
⟨(some 11),.r (.ld 1 false),[.t 10],none,[]⟩,
⟨(some 12),.p .mv,[.t 1],none,[]⟩,
⟨(some 13),.p (.ia 5),[.t 11,.t 12],none,[]⟩,
⟨(some 14),.p (.fa 0),[.t 13],none,[]⟩,
⟨(some 15),.r (.ld 1 false),[.t 14],none,[]⟩,
⟨(some 16),.p .len,[.t 15],none,[]⟩,
⟨(some 17),.p .mv,[.c (.int .i64 0)],none,[]⟩] false []) <|
 .block 0 (.loop (.seq (.region [
⟨(some 18),.p (.bin .lss),[.t 17,.t 16],none,[]⟩] false []) <|
 .seq (.cond (.t 18) (.skip) (.exit 0)) <|
 .seq (.block 1 (.seq (.region [
⟨(some 19),.p (.ia 3),[.t 15,.t 17],none,[]⟩,
⟨(some 20),.r (.ld 3 true),[.t 19],none,[]⟩,
⟨(some 7),.w .box,[.c (.agg [(.bool false),(.bool false),(.int .i64 0)])],none,[]⟩,
⟨none,.w (.st 3),[.t 7,.t 20],none,[]⟩] false []) <|
 .seq (.region [
⟨(some 21),.p (.fa 0),[.t 7],none,[]⟩,
⟨(some 22),.r (.ld 1 false),[.t 21],none,[]⟩,
⟨(some 23),.p .mv,[.t 22],none,[]⟩,
⟨(some 24),.p (.fa 1),[.t 7],(some (23,true)),[]⟩,
⟨(some 25),.r (.ld 1 false),[.t 24],(some (23,true)),[]⟩,
⟨(some 26),.p (.un .not),[.t 25],(some (23,true)),[]⟩,
⟨(some 27),.p .pick,[.t 23,.t 26,.c (.bool false)],none,[]⟩] false []) <|
 .cond (.t 27) (.region [
⟨(some 28),.p .mv,[.t 5],none,[]⟩,
⟨(some 29),.p (.fa 2),[.t 7],none,[]⟩,
⟨(some 30),.r (.ld 1 false),[.t 29],none,[]⟩,
⟨(some 31),.w (.bsl 1 1 [(.int .i64 0)] [(0,1)]),[.t 30],none,[]⟩,
⟨(some 32),.w (.app 1 8),[.t 28,.t 31],none,[]⟩,
⟨(some 5),.p .mv,[.t 32],none,[]⟩] false []) (.skip))) <|
 .region [
⟨(some 33),.p (.bin .add),[.t 17,.c (.int .i64 1)],none,[]⟩,
⟨(some 17),.p .mv,[.t 33],none,[]⟩] false []))) <|
 .seq (.region [
⟨(some 34),.p .mv,[.t 5],none,[]⟩,
⟨(some 4),.p .mv,[.t 34],none,[]⟩] false []) <|
 .ret, [.tmp 4]⟩
structure D371 (T : Tab) : Prop where
  fn : T.fn 371 = some ir371
  pr : T.prim 371 = none
/-- (*motley/heap.Heap).from -/
def ir370 : AFunc := ⟨.seq (.region [
⟨(some 4),.p .mv,[.c (.slc none 0 0 none)],none,[]⟩] false []) <|
 .seq (.region [
⟨(some 8),.p .mv,[.t 0],none,[]⟩,
⟨(some 9),.p .nilC,[.t 8],none,[]⟩,
⟨(some 10),.p (.fa 2),[.t 9],none,[]⟩,
⟨(some 11),.r (.ld 1 false),[.t 10],none,[]⟩,
⟨(some 12),.p .len,[.t 11],none,[]⟩,
⟨(some 13),.w (.mks 1 [(.bool false)]),[.t 12,.t 12],none,[]⟩,
⟨(some 5),.p .mv,[.t 13],none,[]⟩] false []) <|
 .seq (.region [
⟨(some 14),.p .mv,[.t 1],none,[]⟩,
⟨(some 15),.w .call,[.c (.fn 173 [] []),.t 14],none,[]⟩,
⟨(some 6),.p .mv,[.t 15],none,[]⟩] false []) <|
 .seq (.block 0 (.loop (.seq (.seq (.region [
⟨(some 16),.p .mv,[.t 6],none,[]⟩,
⟨(some 17),.p .len,[.t 16],none,[]⟩,
⟨(some 18),.p (.bin .gtr),[.t 17,.c (.int .i64 0)],none,[]⟩] false []) <|
 .cond (.t 18) (.skip) (.exit 0)) <|
 .block 1 (.seq (.region [
⟨(some 19),.p .mv,[.t 6],none,[]⟩,
⟨(some 20),.p .mv,[.t 6],none,[]⟩,
⟨(some 21),.p .len,[.t 20],none,[]⟩,
⟨(some 22),.p (.bin .sub),[.t 21,.c (.int .i64 1)],none,[]⟩,
⟨(some 23),.p (.ia 1),[.t 19,.t 22],none,[]⟩,
⟨(some 24),.r (.ld 1 false),[.t 23],none,[]⟩,
⟨(some 7),.p .mv,[.t 24],none,[]⟩] false []) <|
 .seq (.region [
⟨(some 25),.p .mv,[.t 6],none,[]⟩,
⟨(some 26),.p .mv,[.t 6],none,[]⟩,
⟨(some 27),.p .len,[.t 26],none,[]⟩,
⟨(some 28),.p (.bin .sub),[.t 27,.c (.int .i64 1)],none,[]⟩,
⟨(some 29),.p (.sl 1 false true false),[.t 25,.t 28],none,[]⟩,
⟨(some 6),.p .mv,[.t 29],none,[]⟩] false []) <|
 .seq (.region [
⟨(some 30),.p .mv,[.t 5],none,[]⟩,
⟨(some 31),.p .mv,[.t 7],none,[]⟩,
⟨(some 32),.p (.ia 1),[.t 30,.t 31],none,[]⟩,
⟨(some 33),.r (.ld 1 false),[.t 32],none,[]⟩,
⟨(some 34),.p (.un .not),[.t 33],none,[]⟩] false []) <|
 .cond (.t 34) (.seq (.region [
⟨(some 35),.p .mv,[.t 5],none,[]⟩,
⟨(some 36),.p .mv,[.t 7],none,[]⟩,
⟨(some 37),.p (.ia 1),[.t 35,.t 36],none,[]⟩,
⟨none,.w (.st 1),[.t 37,.c (.bool true)],none,[]⟩] false []) <|
 .region [
⟨(some 38),.p .mv,[.t 6],none,[]⟩,
⟨(some 39),.p .mv,[.t 0],none,[]⟩,
⟨(some 40),.p .mv,[.t 7],none,[]⟩,
⟨(some 41),.w .call,[.c (.fn 371 [] []),.t 39,.t 40],none,[]⟩,
⟨(some 42),.w (.app 1 8),[.t 38,.t 41],none,[]⟩,
⟨(some 6),.p .mv,[.t 42],none,[]⟩] false []) (.skip))))) <|
 .seq (.region [
⟨(some 43),.p .mv,[.t 5],none,[]⟩,
⟨(some 4),.p .mv,[.t 43],none,[]⟩] false []) <|
 .ret, [.tmp 4]⟩
structure D370 (T : Tab) : Prop where
  fn : T.fn 370 = some ir370
  pr : T.prim 370 = none
  d173 : D173 T
  d371 : D371 T
/-- (*motley/heap.Heap).reached -/
def ir367 : AFunc := ⟨.seq (.region [
⟨(some 2),.p .mv,[.c (.slc none 0 0 none)],none,[]⟩] false []) <|
 .seq (.region [
⟨(some 3),.p .mv,[.c (.slc none 0 0 none)],none,[]⟩] false []) <|
 .seq (.seq (.region [
⟨(some 5),.p .mv,[.t 0],none,[]⟩,
⟨(some 6),.p .nilC,[.t 5],none,[]⟩,
⟨(some 7),.p (.fa 3),[.t 6],none,[]⟩,
⟨(some 8),.r (.ld 1 false),[.t 7],none,[]⟩,
⟨(some 9),.w .call,[.c (.fn 999998 [] []),.t 8],none,[]⟩] false []) <|
 .block 0 (.loop (.seq (.region [
⟨(some 10),.w .call,[.c (.fn 999999 [] []),.t 9],none,[]⟩,
⟨(some 11),.p (.ext 0),[.t 10],none,[]⟩] false []) <|
 .seq (.cond (.t 11) (.skip) (.exit 0)) <|
 .block 1 (.seq (.region [
⟨(some 12),.r .ent,[.t 9],none,[]⟩,
⟨(some 13),.p (.ext 0),[.t 12],none,[]⟩,
⟨(some 4),.p .mv,[.t 13],none,[]⟩] false []) <|
 .region [
⟨(some 14),.p .mv,[.t 3],none,[]⟩,
⟨(some 15),.p .mv,[.t 4],none,[]⟩,
⟨(some 16),.w (.bsl 1 1 [(.int .i64 0)] [(0,1)]),[.t 15],none,[]⟩,
⟨(some 17),.w (.app 1 8),[.t 14,.t 16],none,[]⟩,
⟨(some 3),.p .mv,[.t 17],none,[]⟩] false [])))) <|
 .seq (.region [
⟨(some 18),.p .mv,[.t 0],none,[]⟩,
⟨(some 19),.p .mv,[.t 3],none,[]⟩,
⟨(some 20),.w .call,[.c (.fn 370 [] []),.t 18,.t 19],none,[]⟩,
⟨(some 2),.p .mv,[.t 20],none,[]⟩] false []) <|
 .ret, [.tmp 2]⟩
structure D367 (T : Tab) : Prop where
  fn : T.fn 367 = some ir367
  pr : T.prim 367 = none
  rng : T.prim 999998 = some rngPrim
  nxt : ∃ ω, T.prim 999999 = some (nxtPrim ω)
  d370 : D370 T
/-- motley/heap.numbers -/
def ir366 : AFunc := ⟨.seq (.region [
⟨(some 2),.p .mv,[.c (.slc none 0 0 none)],none,[]⟩] false []) <|
 .seq (.region [
⟨(some 3),.p .mv,[.c (.slc none 0 0 none)],none,[]⟩] false []) <|
 .seq (.seq (.region [
⟨(some 6),.p .mv,[.t 0],none,[]⟩,
⟨(some 7),.p .len,[.t 6],none,[]⟩,
⟨(some 8),.p .mv,[.c (.int .i64 0)],none,[]⟩] false []) <|
 .block 0 (.loop (.seq (.region [
⟨(some 9),.p (.bin .lss),[.t 8,.t 7],none,[]⟩] false []) <|
 .seq (.cond (.t 9) (.skip) (.exit 0)) <|
 .seq (.block 1 (.seq (.region [
⟨(some 10),.p .mv,[.t 8],none,[]⟩,
⟨(some 11),.p (.ia 1),[.t 6,.t 8],none,[]⟩,
⟨(some 12),.r (.ld 1 false),[.t 11],none,[]⟩,
⟨(some 4),.p .mv,[.t 10],none,[]⟩,
⟨(some 5),.p .mv,[.t 12],none,[]⟩] false []) <|
 .seq (.region [
⟨(some 13),.p .mv,[.t 5],none,[]⟩] false []) <|
 .cond (.t 13) (.region [
⟨(some 14),.p .mv,[.t 3],none,[]⟩,
⟨(some 15),.p .mv,[.t 4],none,[]⟩,
⟨(some 16),.w (.bsl 1 1 [(.int .i64 0)] [(0,1)]),[.t 15],none,[]⟩,
⟨(some 17),.w (.app 1 8),[.t 14,.t 16],none,[]⟩,
⟨(some 3),.p .mv,[.t 17],none,[]⟩] false []) (.skip))) <|
 .region [
⟨(some 18),.p (.bin .add),[.t 8,.c (.int .i64 1)],none,[]⟩,
⟨(some 8),.p .mv,[.t 18],none,[]⟩] false []))) <|
 .seq (.region [
⟨(some 19),.p .mv,[.t 3],none,[]⟩,
⟨(some 2),.p .mv,[.t 19],none,[]⟩] false []) <|
 .ret, [.tmp 2]⟩
structure D366 (T : Tab) : Prop where
  fn : T.fn 366 = some ir366
  pr : T.prim 366 = none
/-- (*motley/heap.Heap).Lost -/
def ir334 : AFunc := ⟨.seq (.region [
⟨(some 2),.p .mv,[.c (.slc none 0 0 none)],none,[]⟩] false []) <|
 .seq (.seq (.region [
⟨(some 5),.p .mv,[.t 0],none,[]⟩,
⟨(some 6),.p (.isNil .ptr false),[.t 5],none,[]⟩] false []) <|
 .cond (.t 6) (.seq (.region [
⟨(some 2),.p .mv,[.c (.slc none 0 0 none)],none,[]⟩] false []) <|
 .ret) (.skip)) <|
 .seq (.region [
⟨(some 7),.p .mv,[.t 0],none,[]⟩,
⟨(some 8),.w .call,[.c (.fn 357 [] []),.t 7],none,[]⟩,
⟨(some 1048576),.p .dfr,[.t 1048576,.t 8],none,[]⟩] false []) <|
 .seq (.region [
⟨(some 9),.p .mv,[.t 0],none,[]⟩,
⟨(some 10),.w .call,[.c (.fn 367 [] []),.t 9],none,[]⟩,
⟨(some 3),.p .mv,[.t 10],none,[]⟩] false []) <|
 .seq (.seq (.region [
⟨(some 11),.p .mv,[.t 3],none,[]⟩,
⟨(some 12),.p .len,[.t 11],none,[]⟩,
⟨(some 13),.p .mv,[.c (.int .i64 0)],none,[]⟩] false []) <|
 .block 0 (.loop (.seq (.region [
⟨(some 14),.p (.bin .lss),[.t 13,.t 12],none,[]⟩] false []) <|
 .seq (.cond (.t 14) (.skip) (.exit 0)) <|
 .seq (.block 1 (.seq (.region [
⟨(some 15),.p .mv,[.t 13],none,[]⟩,
⟨(some 4),.p .mv,[.t 15],none,[]⟩] false []) <|
 .region [
⟨(some 16),.p .mv,[.t 3],none,[]⟩,
⟨(some 17),.p .mv,[.t 4],none,[]⟩,
⟨(some 18),.p .mv,[.t 3],none,[]⟩,
⟨(some 19),.p .mv,[.t 4],none,[]⟩,
⟨(some 20),.p (.ia 1),[.t 18,.t 19],none,[]⟩,
⟨(some 21),.r (.ld 1 false),[.t 20],none,[]⟩,
⟨(some 22),.p (.un .not),[.t 21],none,[]⟩,
⟨(some 23),.p .mv,[.t 22],none,[]⟩,
⟨(some 24),.p .mv,[.t 0],(some (23,true)),[]⟩,
⟨(some 25),.p .nilC,[.t 24],(some (23,true)),[]⟩,
⟨(some 26),.p (.fa 2),[.t 25],(some (23,true)),[]⟩,
⟨(some 27),.r (.ld 1 false),[.t 26],(some (23,true)),[]⟩,
⟨(some 28),.p .mv,[.t 4],(some (23,true)),[]⟩,
⟨(some 29),.p (.ia 5),[.t 27,.t 28],(some (23,true)),[]⟩,
⟨(some 30),.p (.fa 3),[.t 29],(some (23,true)),[]⟩,
⟨(some 31),.r (.ld 1 false),[.t 30],(some (23,true)),[]⟩,
⟨(some 32),.p (.un .not),[.t 31],(some (23,true)),[]⟩,
⟨(some 33),.p .pick,[.t 23,.t 32,.c (.bool false)],none,[]⟩,
⟨(some 34),.p (.ia 1),[.t 16,.t 17],none,[]⟩,
⟨none,.w (.st 1),[.t 34,.t 33],none,[]⟩] false [])) <|
 .region [
⟨(some 35),.p (.bin .add),[.t 13,.c (.int .i64 1)],none,[]⟩,
⟨(some 13),.p .mv,[.t 35],none,[]⟩] false []))) <|
 .seq (.region [
⟨(some 36),.p .mv,[.t 3],none,[]⟩,
⟨(some 37),.w .call,[.c (.fn 366 [] []),.t 36],none,[]⟩,
⟨(some 2),.p .mv,[.t 37],none,[]⟩] false []) <|
 .ret, [.tmp 2]⟩
structure D334 (T : Tab) : Prop where
  fn : T.fn 334 = some ir334
  pr : T.prim 334 = none
  d357 : D357 T
  d367 : D367 T
  d366 : D366 T
/-- (*motley/heap.Heap).Cycles -/
def ir337 : AFunc := ⟨.seq (.region [
⟨(some 2),.p .mv,[.c (.slc none 0 0 none)],none,[]⟩] false []) <|
 .seq (.seq (.region [
⟨(some 10),.p .mv,[.t 0],none,[]⟩,
⟨(some 11),.p (.isNil .ptr false),[.t 10],none,[]⟩] false []) <|
 .cond (.t 11) (.seq (.region [
⟨(some 2),.p .mv,[.c (.slc none 0 0 none)],none,[]⟩] false []) <|
 .ret) (.skip)) <|
 .seq (.region [
⟨(some 12),.p .mv,[.t 0],none,[]⟩,
⟨(some 13),.w .call,[.c (.fn 357 [] []),.t 12],none,[]⟩,
⟨(some 1048576),.p .dfr,[.t 1048576,.t 13],none,[]⟩] false []) <|
 .seq (.region [
⟨(some 3),.p .mv,[.c (.slc none 0 0 none)],none,[]⟩] false []) <|
 .seq (.seq (.region [
⟨(some 14),.p .mv,[.t 0],none,[]⟩,
⟨(some 15),.p .nilC,[.t 14],none,[]⟩,
⟨(some 16),.p (.fa 2),[.t 15],none,[]⟩,
⟨(some 17),.r (.ld 1 false),[.t 16],none,[]⟩,
⟨(some 18),.p .len,[.t 17],none,[]⟩,
⟨(some 19),.p .mv,[.c (.int .i64 0)],none,[]⟩] false []) <|
 .block 0 (.loop (.seq (.region [
⟨(some 20),.p (.bin .lss),[.t 19,.t 18],none,[]⟩] false []) <|
 .seq (.cond (.t 20) (.skip) (.exit 0)) <|
 .seq (.block 1 (.seq (.region [
⟨(some 21),.p .mv,[.t 19],none,[]⟩,
⟨(some 4),.p .mv,[.t 21],none,[]⟩] false []) <|
 .region [
⟨(some 22),.p .mv,[.t 3],none,[]⟩,
⟨(some 23),.p .mv,[.t 0],none,[]⟩,
⟨(some 24),.p .mv,[.t 0],none,[]⟩,
⟨(some 25),.p .mv,[.t 4],none,[]⟩,
⟨(some 26),.w .call,[.c (.fn 371 [] []),.t 24,.t 25],none,[]⟩,
⟨(some 27),.w .call,[.c (.fn 370 [] []),.t 23,.t 26],none,[]⟩,
⟨(some 28),.w (.bsl 1 1 [(.slc none 0 0 none)] [(0,1)]),[.t 27],none,[]⟩,
⟨(some 29),.w (.app 1 24),[.t 22,.t 28],none,[]⟩,
⟨(some 3),.p .mv,[.t 29],none,[]⟩] false [])) <|
 .region [
⟨(some 30),.p (.bin .add),[.t 19,.c (.int .i64 1)],none,[]⟩,
⟨(some 19),.p .mv,[.t 30],none,[]⟩] false []))) <|
 .seq (.region [
⟨(some 5),.p .mv,[.c (.slc none 0 0 none)],none,[]⟩] false []) <|
 .seq (.region [
⟨(some 31),.p .mv,[.t 0],none,[]⟩,
⟨(some 32),.p .nilC,[.t 31],none,[]⟩,
⟨(some 33),.p (.fa 2),[.t 32],none,[]⟩,
⟨(some 34),.r (.ld 1 false),[.t 33],none,[]⟩,
⟨(some 35),.p .len,[.t 34],none,[]⟩,
⟨(some 36),.w (.mks 1 [(.bool false)]),[.t 35,.t 35],none,[]⟩,
⟨(some 6),.p .mv,[.t 36],none,[]⟩] false []) <|
 .seq (.seq (.region [
⟨(some 37),.p .mv,[.t 0],none,[]⟩,
⟨(some 38),.p .nilC,[.t 37],none,[]⟩,
⟨(some 39),.p (.fa 2),[.t 38],none,[]⟩,
⟨(some 40),.r (.ld 1 false),[.t 39],none,[]⟩,
⟨(some 41),.p .len,[.t 40],none,[]⟩,
⟨(some 42),.p .mv,[.c (.int .i64 0)],none,[]⟩] false []) <|
 .block 2 (.loop (.seq (.region [
⟨(some 43),.p (.bin .lss),[.t 42,.t 41],none,[]⟩] false []) <|
 .seq (.cond (.t 43) (.skip) (.exit 2)) <|
 .seq (.block 3 (.seq (.region [
⟨(some 44),.p .mv,[.t 42],none,[]⟩,
⟨(some 7),.p .mv,[.t 44],none,[]⟩] false []) <|
 .seq (.seq (.region [
⟨(some 45),.p .mv,[.t 6],none,[]⟩,
⟨(some 46),.p .mv,[.t 7],none,[]⟩,
⟨(some 47),.p (.ia 1),[.t 45,.t 46],none,[]⟩,
⟨(some 48),.r (.ld 1 false),[.t 47],none,[]⟩,
⟨(some 49),.p .mv,[.t 48],none,[]⟩,
⟨(some 50),.p .mv,[.t 3],(some (49,false)),[]⟩,
⟨(some 51),.p .mv,[.t 7],(some (49,false)),[]⟩,
⟨(some 52),.p (.ia 1),[.t 50,.t 51],(some (49,false)),[]⟩,
⟨(some 53),.r (.ld 1 false),[.t 52],(some (49,false)),[]⟩,
⟨(some 54),.p .mv,[.t 7],(some (49,false)),[]⟩,
⟨(some 55),.p (.ia 1),[.t 53,.t 54],(some (49,false)),[]⟩,
⟨(some 56),.r (.ld 1 false),[.t 55],(some (49,false)),[]⟩,
⟨(some 57),.p (.un .not),[.t 56],(some (49,false)),[]⟩,
⟨(some 58),.p .pick,[.t 49,.c (.bool true),.t 57],none,[]⟩] false []) <|
 .cond (.t 58) (.exit 3) (.skip)) <|
 .seq (.region [
⟨(some 8),.p .mv,[.c (.slc none 0 0 none)],none,[]⟩] false []) <|
 .seq (.seq (.region [
⟨(some 59),.p .mv,[.t 0],none,[]⟩,
⟨(some 60),.p .nilC,[.t 59],none,[]⟩,
⟨(some 61),.p (.fa 2),[.t 60],none,[]⟩,
⟨(some 62),.r (.ld 1 false),[.t 61],none,[]⟩,
⟨(some 63),.p .len,[.t 62],none,[]⟩,
⟨(some 64),.p .mv,[.c (.int .i64 0)],none,[]⟩] false []) <|
 .block 4 (.loop (.seq (.region [
⟨(some 65),.p (.bin .lss),[.t 64,.t 63],none,[]⟩] false []) <|
 .seq (.cond (.t 65) (.skip) (.exit 4)) <|
 .seq (.block 5 (.seq (.region [
⟨(some 66),.p .mv,[.t 64],none,[]⟩,
⟨(some 9),.p .mv,[.t 66],none,[]⟩] false []) <|
 .seq (.region [
⟨(some 67),.p .mv,[.t 3],none,[]⟩,
⟨(some 68),.p .mv,[.t 7],none,[]⟩,
⟨(some 69),.p (.ia 1),[.t 67,.t 68],none,[]⟩,
⟨(some 70),.r (.ld 1 false),[.t 69],none,[]⟩,
⟨(some 71),.p .mv,[.t 9],none,[]⟩,
⟨(some 72),.p (.ia 1),[.t 70,.t 71],none,[]⟩,
⟨(some 73),.r (.ld 1 false),[.t 72],none,[]⟩,
⟨(some 74),.p .mv,[.t 73],none,[]⟩,
⟨(some 75),.p .mv,[.t 3],(some (74,true)),[]⟩,
⟨(some 76),.p .mv,[.t 9],(some (74,true)),[]⟩,
⟨(some 77),.p (.ia 1),[.t 75,.t 76],(some (74,true)),[]⟩,
⟨(some 78),.r (.ld 1 false),[.t 77],(some (74,true)),[]⟩,
⟨(some 79),.p .mv,[.t 7],(some (74,true)),[]⟩,
⟨(some 80),.p (.ia 1),[.t 78,.t 79],(some (74,true)),[]⟩,
⟨(some 81),.r (.ld 1 false),[.t 80],(some (74,true)),[]⟩,
⟨(some 82),.p .pick,[.t 74,.t 81,.c (.bool false)],none,[]⟩] false []) <|
 .cond (.t 82) (.seq (.region [
⟨(some 83),.p .mv,[.t 8],none,[]⟩,
⟨(some 84),.p .mv,[.t 9],none,[]⟩,
⟨(some 85),.w (.bsl 1 1 [(.int .i64 0)] [(0,1)]),[.t 84],none,[]⟩,
⟨(some 86),.w (.app 1 8),[.t 83,.t 85],none,[]⟩,
⟨(some 8),.p .mv,[.t 86],none,[]⟩] false []) <|
 .region [
⟨(some 87),.p .mv,[.t 6],none,[]⟩,
⟨(some 88),.p .mv,[.t 9],none,[]⟩,
⟨(some 89),.p (.ia 1),[.t 87,.t 88],none,[]⟩,
⟨none,.w (.st 1),[.t 89,.c (.bool true)],none,[]⟩] false []) (.skip))) <|
 .region [
⟨(some 90),.p (.bin .add),[.t 64,.c (.int .i64 1)],none,[]⟩,
⟨(some 64),.p .mv,[.t 90],none,[]⟩] false []))) <|
 .region [
⟨(some 91),.p .mv,[.t 5],none,[]⟩,
⟨(some 92),.p .mv,[.t 8],none,[]⟩,
⟨(some 93),.w (.bsl 1 1 [(.slc none 0 0 none)] [(0,1)]),[.t 92],none,[]⟩,
⟨(some 94),.w (.app 1 24),[.t 91,.t 93],none,[]⟩,
⟨(some 5),.p .mv,[.t 94],none,[]⟩] false [])) <|
 .region [
⟨(some 95),.p (.bin .add),[.t 42,.c (.int .i64 1)],none,[]⟩,
⟨(some 42),.p .mv,[.t 95],none,[]⟩] false []))) <|
 .seq (.region [
⟨(some 96),.p .mv,[.t 5],none,[]⟩,
⟨(some 2),.p .mv,[.t 96],none,[]⟩] false []) <|
 .ret, [.tmp 2]⟩
structure D337 (T : Tab) : Prop where
  fn : T.fn 337 = some ir337
  pr : T.prim 337 = none
  d357 : D357 T
  d371 : D371 T
  d370 : D370 T
end Go.Am
