/- Texts of functions for the small machine, printed by mkir2.py out of the compiled functions, and for each what a table has to hold. -/
import Derived.Test.YtdgkaachkodimaaDoorAmPrimBD
set_option linter.unusedVariables false
namespace Go.Am
/-- motley/motleylaw26.isLong -/
def ir411 : AFunc := ⟨.seq (.region [
⟨(some 2),.p .mv,[.c (.bool false)],none,[]⟩] false []) <|
 .seq (.region [
⟨(some 3),.p .mv,[.t 0],none,[]⟩,
⟨(some 4),.p .lenS,[.t 3],none,[]⟩,
⟨(some 5),.p (.bin .gtr),[.t 4,.c (.int .i64 5000)],none,[]⟩,
⟨(some 2),.p .mv,[.t 5],none,[]⟩] false []) <|
 .ret, [.tmp 2]⟩
structure D411 (T : Tab) : Prop where
  fn : T.fn 411 = some ir411
  pr : T.prim 411 = none
/-- slices.IndexFunc[[]string,string] -/
def ir501 : AFunc := ⟨.seq (.region [
⟨(some 4),.p .mv,[.c (.int .i64 0)],none,[]⟩] false []) <|
 .seq (.seq (.region [
⟨(some 6),.p .mv,[.t 0],none,[]⟩,
⟨(some 7),.p .len,[.t 6],none,[]⟩,
⟨(some 8),.p .mv,[.c (.int .i64 0)],none,[]⟩] false []) <|
 .block 0 (.loop (.seq (.region [
⟨(some 9),.p (.bin .lss),[.t 8,.t 7],none,[]⟩] false []) <|
 .seq (.cond (.t 9) (.skip) (.exit 0)) <|
 .seq (.block 1 (.seq (.region [
⟨(some 10),.p .mv,[.t 8],none,[]⟩,
⟨(some 5),.p .mv,[.t 10],none,[]⟩] false []) <|
 .seq (.region [
⟨(some 11),.p .mv,[.t 1],none,[]⟩,
⟨(some 12),.p .mv,[.t 0],none,[]⟩,
⟨(some 13),.p .mv,[.t 5],none,[]⟩,
⟨(some 14),.p (.ia 1),[.t 12,.t 13],none,[]⟩,
⟨(some 15),.r (.ld 1 false),[.t 14],none,[]⟩,
⟨(some 16),.w .call,[.t 11,.t 15],none,[]⟩] false []) <|
 .cond (.t 16) (.seq (.region [
⟨(some 17),.p .mv,[.t 5],none,[]⟩,
⟨(some 4),.p .mv,[.t 17],none,[]⟩] false []) <|
 .ret) (.skip))) <|
 .region [
⟨(some 18),.p (.bin .add),[.t 8,.c (.int .i64 1)],none,[]⟩,
⟨(some 8),.p .mv,[.t 18],none,[]⟩] false []))) <|
 .seq (.region [
⟨(some 4),.p .mv,[.c (.int .i64 (-1))],none,[]⟩] false []) <|
 .ret, [.tmp 4]⟩
structure D501 (T : Tab) : Prop where
  fn : T.fn 501 = some ir501
  pr : T.prim 501 = none
/-- slices.ContainsFunc[[]string,string] -/
def ir490 : AFunc := ⟨.seq (.region [
⟨(some 4),.p .mv,[.c (.bool false)],none,[]⟩] false []) <|
 .seq (.region [
⟨(some 5),.p .mv,[.t 0],none,[]⟩,
⟨(some 6),.p .mv,[.t 1],none,[]⟩,
⟨(some 7),.w .call,[.c (.fn 501 [] []),.t 5,.t 6],none,[]⟩,
⟨(some 8),.p (.bin .geq),[.t 7,.c (.int .i64 0)],none,[]⟩,
⟨(some 4),.p .mv,[.t 8],none,[]⟩] false []) <|
 .ret, [.tmp 4]⟩
structure D490 (T : Tab) : Prop where
  fn : T.fn 490 = some ir490
  pr : T.prim 490 = none
  d501 : D501 T
/-- motley/big.numbers$1 -/
def ir491 : AFunc := ⟨.seq (.region [
⟨(some 2),.p .mv,[.c (.bool false)],none,[]⟩] false []) <|
 .seq (.region [
⟨(some 3),.p .mv,[.t 0],none,[]⟩,
⟨(some 4),.p .lenS,[.t 3],none,[]⟩,
⟨(some 5),.p (.bin .gtr),[.t 4,.c (.int .i64 401)],none,[]⟩,
⟨(some 2),.p .mv,[.t 5],none,[]⟩] false []) <|
 .ret, [.tmp 2]⟩
structure D491 (T : Tab) : Prop where
  fn : T.fn 491 = some ir491
  pr : T.prim 491 = none
/-- internal/stringslite.HasPrefix -/
def ir256 : AFunc := ⟨.seq (.region [
⟨(some 4),.p .mv,[.c (.bool false)],none,[]⟩] false []) <|
 .seq (.region [
⟨(some 5),.p .mv,[.t 0],none,[]⟩,
⟨(some 6),.p .lenS,[.t 5],none,[]⟩,
⟨(some 7),.p .mv,[.t 1],none,[]⟩,
⟨(some 8),.p .lenS,[.t 7],none,[]⟩,
⟨(some 9),.p (.bin .geq),[.t 6,.t 8],none,[]⟩,
⟨(some 10),.p .mv,[.t 9],none,[]⟩,
⟨(some 11),.p .mv,[.t 0],(some (10,true)),[]⟩,
⟨(some 12),.p .mv,[.t 1],(some (10,true)),[]⟩,
⟨(some 13),.p .lenS,[.t 12],(some (10,true)),[]⟩,
⟨(some 14),.p (.slS false true),[.t 11,.t 13],(some (10,true)),[]⟩,
⟨(some 15),.p .mv,[.t 1],(some (10,true)),[]⟩,
⟨(some 16),.p (.bin .eql),[.t 14,.t 15],(some (10,true)),[]⟩,
⟨(some 17),.p .pick,[.t 10,.t 16,.c (.bool false)],none,[]⟩,
⟨(some 4),.p .mv,[.t 17],none,[]⟩] false []) <|
 .ret, [.tmp 4]⟩
structure D256 (T : Tab) : Prop where
  fn : T.fn 256 = some ir256
  pr : T.prim 256 = none
/-- internal/stringslite.CutPrefix -/
def ir504 : AFunc := ⟨.seq (.region [
⟨(some 4),.p .mv,[.c (.str [])],none,[]⟩,
⟨(some 5),.p .mv,[.c (.bool false)],none,[]⟩] false []) <|
 .seq (.seq (.region [
⟨(some 6),.p .mv,[.t 0],none,[]⟩,
⟨(some 7),.p .mv,[.t 1],none,[]⟩,
⟨(some 8),.w .call,[.c (.fn 256 [] []),.t 6,.t 7],none,[]⟩,
⟨(some 9),.p (.un .not),[.t 8],none,[]⟩] false []) <|
 .cond (.t 9) (.seq (.region [
⟨(some 10),.p .mv,[.t 0],none,[]⟩,
⟨(some 4),.p .mv,[.t 10],none,[]⟩,
⟨(some 5),.p .mv,[.c (.bool false)],none,[]⟩] false []) <|
 .ret) (.skip)) <|
 .seq (.region [
⟨(some 11),.p .mv,[.t 0],none,[]⟩,
⟨(some 12),.p .mv,[.t 1],none,[]⟩,
⟨(some 13),.p .lenS,[.t 12],none,[]⟩,
⟨(some 14),.p (.slS true false),[.t 11,.t 13],none,[]⟩,
⟨(some 4),.p .mv,[.t 14],none,[]⟩,
⟨(some 5),.p .mv,[.c (.bool true)],none,[]⟩] false []) <|
 .ret, [.tmp 4,.tmp 5]⟩
structure D504 (T : Tab) : Prop where
  fn : T.fn 504 = some ir504
  pr : T.prim 504 = none
  d256 : D256 T
/-- strings.CutPrefix -/
def ir498 : AFunc := ⟨.seq (.region [
⟨(some 4),.p .mv,[.c (.str [])],none,[]⟩,
⟨(some 5),.p .mv,[.c (.bool false)],none,[]⟩] false []) <|
 .seq (.region [
⟨(some 6),.p .mv,[.t 0],none,[]⟩,
⟨(some 7),.p .mv,[.t 1],none,[]⟩,
⟨(some 8),.w .call,[.c (.fn 504 [] []),.t 6,.t 7],none,[]⟩,
⟨(some 9),.p (.ext 0),[.t 8],none,[]⟩,
⟨(some 10),.p (.ext 1),[.t 8],none,[]⟩,
⟨(some 4),.p .mv,[.t 9],none,[]⟩,
⟨(some 5),.p .mv,[.t 10],none,[]⟩] false []) <|
 .ret, [.tmp 4,.tmp 5]⟩
structure D498 (T : Tab) : Prop where
  fn : T.fn 498 = some ir498
  pr : T.prim 498 = none
  d504 : D504 T
/-- strings.trimRightByte -/
def ir506 : AFunc := ⟨.seq (.region [
⟨(some 4),.p .mv,[.c (.str [])],none,[]⟩] false []) <|
 .seq (.block 0 (.loop (.seq (.seq (.region [
⟨(some 5),.p .mv,[.t 0],none,[]⟩,
⟨(some 6),.p .lenS,[.t 5],none,[]⟩,
⟨(some 7),.p (.bin .gtr),[.t 6,.c (.int .i64 0)],none,[]⟩,
⟨(some 8),.p .mv,[.t 7],none,[]⟩,
⟨(some 9),.p .mv,[.t 0],(some (8,true)),[]⟩,
⟨(some 10),.p .mv,[.t 0],(some (8,true)),[]⟩,
⟨(some 11),.p .lenS,[.t 10],(some (8,true)),[]⟩,
⟨(some 12),.p (.bin .sub),[.t 11,.c (.int .i64 1)],(some (8,true)),[]⟩,
⟨(some 13),.p .idxS,[.t 9,.t 12],(some (8,true)),[]⟩,
⟨(some 14),.p .mv,[.t 1],(some (8,true)),[]⟩,
⟨(some 15),.p (.bin .eql),[.t 13,.t 14],(some (8,true)),[]⟩,
⟨(some 16),.p .pick,[.t 8,.t 15,.c (.bool false)],none,[]⟩] false []) <|
 .cond (.t 16) (.skip) (.exit 0)) <|
 .block 1 (.region [
⟨(some 17),.p .mv,[.t 0],none,[]⟩,
⟨(some 18),.p .mv,[.t 0],none,[]⟩,
⟨(some 19),.p .lenS,[.t 18],none,[]⟩,
⟨(some 20),.p (.bin .sub),[.t 19,.c (.int .i64 1)],none,[]⟩,
⟨(some 21),.p (.slS false true),[.t 17,.t 20],none,[]⟩,
⟨(some 0),.p .mv,[.t 21],none,[]⟩] false [])))) <|
 .seq (.region [
⟨(some 22),.p .mv,[.t 0],none,[]⟩,
⟨(some 4),.p .mv,[.t 22],none,[]⟩] false []) <|
 .ret, [.tmp 4]⟩
structure D506 (T : Tab) : Prop where
  fn : T.fn 506 = some ir506
  pr : T.prim 506 = none
/-- strings.trimLeftByte -/
def ir505 : AFunc := ⟨.seq (.region [
⟨(some 4),.p .mv,[.c (.str [])],none,[]⟩] false []) <|
 .seq (.block 0 (.loop (.seq (.seq (.region [
⟨(some 5),.p .mv,[.t 0],none,[]⟩,
⟨(some 6),.p .lenS,[.t 5],none,[]⟩,
⟨(some 7),.p (.bin .gtr),[.t 6,.c (.int .i64 0)],none,[]⟩,
⟨(some 8),.p .mv,[.t 7],none,[]⟩,
⟨(some 9),.p .mv,[.t 0],(some (8,true)),[]⟩,
⟨(some 10),.p .idxS,[.t 9,.c (.int .i64 0)],(some (8,true)),[]⟩,
⟨(some 11),.p .mv,[.t 1],(some (8,true)),[]⟩,
⟨(some 12),.p (.bin .eql),[.t 10,.t 11],(some (8,true)),[]⟩,
⟨(some 13),.p .pick,[.t 8,.t 12,.c (.bool false)],none,[]⟩] false []) <|
 .cond (.t 13) (.skip) (.exit 0)) <|
 .block 1 (.region [
⟨(some 14),.p .mv,[.t 0],none,[]⟩,
⟨(some 15),.p (.slS true false),[.t 14,.c (.int .i64 1)],none,[]⟩,
⟨(some 0),.p .mv,[.t 15],none,[]⟩] false [])))) <|
 .seq (.region [
⟨(some 16),.p .mv,[.t 0],none,[]⟩,
⟨(some 4),.p .mv,[.t 16],none,[]⟩] false []) <|
 .ret, [.tmp 4]⟩
structure D505 (T : Tab) : Prop where
  fn : T.fn 505 = some ir505
  pr : T.prim 505 = none
/-- strings.makeASCIISet -/
def ir507 : AFunc := ⟨.seq (.region [
⟨(some 2),.w .box,[.c (.agg (List.replicate 256 (.bool false)))],none,[]⟩,
⟨(some 3),.p .mv,[.c (.bool false)],none,[]⟩] false []) <|
 .seq (.seq (.region [
⟨(some 4),.p .mv,[.c (.int .i64 0)],none,[]⟩] false []) <|
 .block 0 (.loop (.seq (.seq (.region [
⟨(some 6),.p .mv,[.t 4],none,[]⟩,
⟨(some 7),.p .mv,[.t 0],none,[]⟩,
⟨(some 8),.p .lenS,[.t 7],none,[]⟩,
⟨(some 9),.p (.bin .lss),[.t 6,.t 8],none,[]⟩] false []) <|
 .cond (.t 9) (.skip) (.exit 0)) <|
 .seq (.block 1 (.seq (.region [
⟨(some 12),.p .mv,[.t 0],none,[]⟩,
⟨(some 13),.p .mv,[.t 4],none,[]⟩,
⟨(some 14),.p .idxS,[.t 12,.t 13],none,[]⟩,
⟨(some 5),.p .mv,[.t 14],none,[]⟩] false []) <|
 .seq (.seq (.region [
⟨(some 15),.p .mv,[.t 5],none,[]⟩,
⟨(some 16),.p (.bin .geq),[.t 15,.c (.int .u8 128)],none,[]⟩] false []) <|
 .cond (.t 16) (.seq (.region [
⟨(some 17),.r (.ld 256 true),[.t 2],none,[]⟩,
⟨none,.w (.st 256),[.t 2,.t 17],none,[]⟩,
⟨(some 3),.p .mv,[.c (.bool false)],none,[]⟩] false []) <|
 .ret) (.skip)) <|
 .region [
⟨(some 18),.p .mv,[.t 5],none,[]⟩,
⟨(some 19),.p (.iap 256 1),[.t 2,.t 18],none,[]⟩,
⟨none,.w (.st 1),[.t 19,.c (.bool true)],none,[]⟩] false [])) <|
 .region [
⟨(some 10),.p .mv,[.t 4],none,[]⟩,
⟨(some 11),.p (.bin .add),[.t 10,.c (.int .i64 1)],none,[]⟩,
⟨(some 4),.p .mv,[.t 11],none,[]⟩] false []))) <|
 .seq (.region [
⟨(some 20),.r (.ld 256 true),[.t 2],none,[]⟩,
⟨none,.w (.st 256),[.t 2,.t 20],none,[]⟩,
⟨(some 3),.p .mv,[.c (.bool true)],none,[]⟩] false []) <|
 .ret, [.cell 2 256 true,.tmp 3]⟩
structure D507 (T : Tab) : Prop where
  fn : T.fn 507 = some ir507
  pr : T.prim 507 = none
/-- (*strings.asciiSet).contains -/
def ir512 : AFunc := ⟨.seq (.region [
⟨(some 4),.p .mv,[.c (.bool false)],none,[]⟩] false []) <|
 .seq (.region [
⟨(some 5),.p .mv,[.t 0],none,[]⟩,
⟨(some 6),.p .mv,[.t 1],none,[]⟩,
⟨(some 7),.p .nilC,[.t 5],none,[]⟩,
⟨(some 8),.p (.iap 256 1),[.t 7,.t 6],none,[]⟩,
⟨(some 9),.r (.ld 1 false),[.t 8],none,[]⟩,
⟨(some 4),.p .mv,[.t 9],none,[]⟩] false []) <|
 .ret, [.tmp 4]⟩
structure D512 (T : Tab) : Prop where
  fn : T.fn 512 = some ir512
  pr : T.prim 512 = none
/-- strings.trimRightASCII -/
def ir509 : AFunc := ⟨.seq (.region [
⟨(some 4),.p .mv,[.c (.str [])],none,[]⟩] false []) <|
 .seq (.block 0 (.loop (.seq (.seq (.region [
⟨(some 5),.p .mv,[.t 0],none,[]⟩,
⟨(some 6),.p .lenS,[.t 5],none,[]⟩,
⟨(some 7),.p (.bin .gtr),[.t 6,.c (.int .i64 0)],none,[]⟩] false []) <|
 .cond (.t 7) (.skip) (.exit 0)) <|
 .block 1 (.seq (.seq (.region [
⟨(some 8),.p .mv,[.t 1],none,[]⟩,
⟨(some 9),.p .mv,[.t 0],none,[]⟩,
⟨(some 10),.p .mv,[.t 0],none,[]⟩,
⟨(some 11),.p .lenS,[.t 10],none,[]⟩,
⟨(some 12),.p (.bin .sub),[.t 11,.c (.int .i64 1)],none,[]⟩,
⟨(some 13),.p .idxS,[.t 9,.t 12],none,[]⟩,
⟨(some 14),.w .call,[.c (.fn 512 [] []),.t 8,.t 13],none,[]⟩,
⟨(some 15),.p (.un .not),[.t 14],none,[]⟩] false []) <|
 .cond (.t 15) (.exit 0) (.skip)) <|
 .region [
⟨(some 16),.p .mv,[.t 0],none,[]⟩,
⟨(some 17),.p .mv,[.t 0],none,[]⟩,
⟨(some 18),.p .lenS,[.t 17],none,[]⟩,
⟨(some 19),.p (.bin .sub),[.t 18,.c (.int .i64 1)],none,[]⟩,
⟨(some 20),.p (.slS false true),[.t 16,.t 19],none,[]⟩,
⟨(some 0),.p .mv,[.t 20],none,[]⟩] false [])))) <|
 .seq (.region [
⟨(some 21),.p .mv,[.t 0],none,[]⟩,
⟨(some 4),.p .mv,[.t 21],none,[]⟩] false []) <|
 .ret, [.tmp 4]⟩
structure D509 (T : Tab) : Prop where
  fn : T.fn 509 = some ir509
  pr : T.prim 509 = none
  d512 : D512 T
/-- strings.trimLeftASCII -/
def ir508 : AFunc := ⟨.seq (.region [
⟨(some 4),.p .mv,[.c (.str [])],none,[]⟩] false []) <|
 .seq (.block 0 (.loop (.seq (.seq (.region [
⟨(some 5),.p .mv,[.t 0],none,[]⟩,
⟨(some 6),.p .lenS,[.t 5],none,[]⟩,
⟨(some 7),.p (.bin .gtr),[.t 6,.c (.int .i64 0)],none,[]⟩] false []) <|
 .cond (.t 7) (.skip) (.exit 0)) <|
 .block 1 (.seq (.seq (.region [
⟨(some 8),.p .mv,[.t 1],none,[]⟩,
⟨(some 9),.p .mv,[.t 0],none,[]⟩,
⟨(some 10),.p .idxS,[.t 9,.c (.int .i64 0)],none,[]⟩,
⟨(some 11),.w .call,[.c (.fn 512 [] []),.t 8,.t 10],none,[]⟩,
⟨(some 12),.p (.un .not),[.t 11],none,[]⟩] false []) <|
 .cond (.t 12) (.exit 0) (.skip)) <|
 .region [
⟨(some 13),.p .mv,[.t 0],none,[]⟩,
⟨(some 14),.p (.slS true false),[.t 13,.c (.int .i64 1)],none,[]⟩,
⟨(some 0),.p .mv,[.t 14],none,[]⟩] false [])))) <|
 .seq (.region [
⟨(some 15),.p .mv,[.t 0],none,[]⟩,
⟨(some 4),.p .mv,[.t 15],none,[]⟩] false []) <|
 .ret, [.tmp 4]⟩
structure D508 (T : Tab) : Prop where
  fn : T.fn 508 = some ir508
  pr : T.prim 508 = none
  d512 : D512 T
/-- strings.Trim -/
def ir499 : AFunc := ⟨.seq (.region [
⟨(some 4),.p .mv,[.c (.str [])],none,[]⟩] false []) <|
 .seq (.seq (.region [
⟨(some 7),.p .mv,[.t 0],none,[]⟩,
⟨(some 8),.p (.bin .eql),[.t 7,.c (.str [])],none,[]⟩,
⟨(some 9),.p .mv,[.t 8],none,[]⟩,
⟨(some 10),.p .mv,[.t 1],(some (9,false)),[]⟩,
⟨(some 11),.p (.bin .eql),[.t 10,.c (.str [])],(some (9,false)),[]⟩,
⟨(some 12),.p .pick,[.t 9,.c (.bool true),.t 11],none,[]⟩] false []) <|
 .cond (.t 12) (.seq (.region [
⟨(some 13),.p .mv,[.t 0],none,[]⟩,
⟨(some 4),.p .mv,[.t 13],none,[]⟩] false []) <|
 .ret) (.skip)) <|
 .seq (.seq (.region [
⟨(some 14),.p .mv,[.t 1],none,[]⟩,
⟨(some 15),.p .lenS,[.t 14],none,[]⟩,
⟨(some 16),.p (.bin .eql),[.t 15,.c (.int .i64 1)],none,[]⟩,
⟨(some 17),.p .mv,[.t 16],none,[]⟩,
⟨(some 18),.p .mv,[.t 1],(some (17,true)),[]⟩,
⟨(some 19),.p .idxS,[.t 18,.c (.int .i64 0)],(some (17,true)),[]⟩,
⟨(some 20),.p (.bin .lss),[.t 19,.c (.int .u8 128)],(some (17,true)),[]⟩,
⟨(some 21),.p .pick,[.t 17,.t 20,.c (.bool false)],none,[]⟩] false []) <|
 .cond (.t 21) (.seq (.region [
⟨(some 22),.p .mv,[.t 0],none,[]⟩,
⟨(some 23),.p .mv,[.t 1],none,[]⟩,
⟨(some 24),.p .idxS,[.t 23,.c (.int .i64 0)],none,[]⟩,
⟨(some 25),.w .call,[.c (.fn 506 [] []),.t 22,.t 24],none,[]⟩,
⟨(some 26),.p .mv,[.t 1],none,[]⟩,
⟨(some 27),.p .idxS,[.t 26,.c (.int .i64 0)],none,[]⟩,
⟨(some 28),.w .call,[.c (.fn 505 [] []),.t 25,.t 27],none,[]⟩,
⟨(some 4),.p .mv,[.t 28],none,[]⟩] true []) <|
 .ret) (.skip)) <|
 .seq (.seq (.region [
⟨(some 30),.p .mv,[.t 1],none,[]⟩,
⟨(some 31),.w .call,[.c (.fn 507 [] []),.t 30],none,[]⟩,
⟨(some 29),.p .mv,[.t 31],none,[]⟩,
⟨(some 32),.p (.ext 0),[.t 29],none,[]⟩,
⟨(some 33),.p (.ext 1),[.t 29],none,[]⟩,
⟨(some 5),.w .box,[.c (.agg (List.replicate 256 (.bool false)))],none,[]⟩,
⟨none,.w (.st 256),[.t 5,.t 32],none,[]⟩,
⟨(some 6),.p .mv,[.t 33],none,[]⟩] false []) <|
 .seq (.region [
⟨(some 34),.p .mv,[.t 6],none,[]⟩] false []) <|
 .cond (.t 34) (.seq (.region [
⟨(some 35),.p .mv,[.t 0],none,[]⟩,
⟨(some 36),.w .call,[.c (.fn 509 [] []),.t 35,.t 5],none,[]⟩,
⟨(some 37),.w .call,[.c (.fn 508 [] []),.t 36,.t 5],none,[]⟩,
⟨(some 4),.p .mv,[.t 37],none,[]⟩] false []) <|
 .ret) (.skip)) <|
 .seq (.region [
⟨(some 38),.p .mv,[.t 0],none,[]⟩,
⟨(some 39),.p .mv,[.t 1],none,[]⟩,
⟨(some 40),.w .call,[.c (.fn 511 [] []),.t 38,.t 39],none,[]⟩,
⟨(some 41),.p .mv,[.t 1],none,[]⟩,
⟨(some 42),.w .call,[.c (.fn 510 [] []),.t 40,.t 41],none,[]⟩,
⟨(some 4),.p .mv,[.t 42],none,[]⟩] false []) <|
 .ret, [.tmp 4]⟩
structure D499 (T : Tab) : Prop where
  fn : T.fn 499 = some ir499
  pr : T.prim 499 = none
  d506 : D506 T
  d505 : D505 T
  d507 : D507 T
  d509 : D509 T
  d508 : D508 T
/-- motley/big.read -/
def ir482 : AFunc := ⟨.seq (.region [
⟨(some 2),.w .box,[.c (.agg [(.bool false),(.slc none 0 0 none)])],none,[]⟩,
⟨(some 3),.p .mv,[.c (.bool false)],none,[]⟩] false []) <|
 .seq (.region [
⟨(some 10),.p .mv,[.t 0],none,[]⟩,
⟨(some 11),.w .call,[.c (.fn 498 [] []),.t 10,.c (.str [45])],none,[]⟩,
⟨(some 9),.p .mv,[.t 11],none,[]⟩,
⟨(some 12),.p (.ext 0),[.t 9],none,[]⟩,
⟨(some 13),.p (.ext 1),[.t 9],none,[]⟩,
⟨(some 4),.p .mv,[.t 12],none,[]⟩,
⟨(some 5),.p .mv,[.t 13],none,[]⟩] false []) <|
 .seq (.seq (.region [
⟨(some 14),.p .mv,[.t 4],none,[]⟩,
⟨(some 15),.p (.bin .eql),[.t 14,.c (.str [48])],none,[]⟩,
⟨(some 16),.p .mv,[.t 15],none,[]⟩,
⟨(some 17),.p .mv,[.t 5],(some (16,true)),[]⟩,
⟨(some 18),.p (.un .not),[.t 17],(some (16,true)),[]⟩,
⟨(some 19),.p .pick,[.t 16,.t 18,.c (.bool false)],none,[]⟩] false []) <|
 .cond (.t 19) (.seq (.region [
⟨(some 20),.p (.bld [(.bool false),(.slc none 0 0 none)] []),[],none,[]⟩,
⟨none,.w (.st 2),[.t 2,.t 20],none,[]⟩,
⟨(some 3),.p .mv,[.c (.bool true)],none,[]⟩] false []) <|
 .ret) (.skip)) <|
 .seq (.seq (.region [
⟨(some 21),.p .mv,[.t 4],none,[]⟩,
⟨(some 22),.p (.bin .eql),[.t 21,.c (.str [])],none,[]⟩,
⟨(some 23),.p .mv,[.t 22],none,[]⟩,
⟨(some 24),.p .mv,[.t 4],(some (23,false)),[]⟩,
⟨(some 25),.p .idxS,[.t 24,.c (.int .i64 0)],(some (23,false)),[]⟩,
⟨(some 26),.p (.bin .eql),[.t 25,.c (.int .u8 48)],(some (23,false)),[]⟩,
⟨(some 27),.p .pick,[.t 23,.c (.bool true),.t 26],none,[]⟩,
⟨(some 28),.p .mv,[.t 27],none,[]⟩,
⟨(some 29),.p .mv,[.t 4],(some (28,false)),[]⟩,
⟨(some 30),.p .lenS,[.t 29],(some (28,false)),[]⟩,
⟨(some 31),.p (.bin .gtr),[.t 30,.c (.int .i64 400)],(some (28,false)),[]⟩,
⟨(some 32),.p .pick,[.t 28,.c (.bool true),.t 31],none,[]⟩,
⟨(some 33),.p .mv,[.t 32],none,[]⟩,
⟨(some 34),.p .mv,[.t 4],(some (33,false)),[]⟩,
⟨(some 35),.w .call,[.c (.fn 499 [] []),.t 34,.c (.str [48,49,50,51,52,53,54,55,56,57])],(some (33,false)),[]⟩,
⟨(some 36),.p (.bin .neq),[.t 35,.c (.str [])],(some (33,false)),[]⟩,
⟨(some 37),.p .pick,[.t 33,.c (.bool true),.t 36],none,[]⟩] false []) <|
 .cond (.t 37) (.seq (.region [
⟨(some 38),.p (.bld [(.bool false),(.slc none 0 0 none)] []),[],none,[]⟩,
⟨none,.w (.st 2),[.t 2,.t 38],none,[]⟩,
⟨(some 3),.p .mv,[.c (.bool false)],none,[]⟩] false []) <|
 .ret) (.skip)) <|
 .seq (.region [
⟨(some 6),.p .mv,[.c (.slc none 0 0 none)],none,[]⟩] false []) <|
 .seq (.seq (.region [
⟨(some 39),.p .mv,[.t 4],none,[]⟩,
⟨(some 40),.w .s2b,[.t 39],none,[]⟩,
⟨(some 41),.p .len,[.t 40],none,[]⟩,
⟨(some 42),.p .mv,[.c (.int .i64 0)],none,[]⟩] false []) <|
 .block 0 (.loop (.seq (.region [
⟨(some 43),.p (.bin .lss),[.t 42,.t 41],none,[]⟩] false []) <|
 .seq (.cond (.t 43) (.skip) (.exit 0)) <|
 .seq (.block 1 (.seq (.region [
⟨(some 44),.p (.ia 1),[.t 40,.t 42],none,[]⟩,
⟨(some 45),.r (.ld 1 false),[.t 44],none,[]⟩,
⟨(some 8),.p .mv,[.t 45],none,[]⟩] false []) <|
 .region [
⟨(some 46),.p .mv,[.t 6],none,[]⟩,
⟨(some 47),.p .mv,[.t 8],none,[]⟩,
⟨(some 48),.p (.bin .sub),[.t 47,.c (.int .u8 48)],none,[]⟩,
⟨(some 49),.p (.conv .i64),[.t 48],none,[]⟩,
⟨(some 50),.w (.bsl 1 1 [(.int .i64 0)] [(0,1)]),[.t 49],none,[]⟩,
⟨(some 51),.w (.app 1 8),[.t 46,.t 50],none,[]⟩,
⟨(some 6),.p .mv,[.t 51],none,[]⟩] false [])) <|
 .region [
⟨(some 52),.p (.bin .add),[.t 42,.c (.int .i64 1)],none,[]⟩,
⟨(some 42),.p .mv,[.t 52],none,[]⟩] false []))) <|
 .seq (.region [
⟨(some 53),.p .mv,[.t 5],none,[]⟩,
⟨(some 54),.p .mv,[.t 6],none,[]⟩,
⟨(some 55),.p (.bld [(.bool false),(.slc none 0 0 none)] [(0,1),(1,1)]),[.t 53,.t 54],none,[]⟩,
⟨none,.w (.st 2),[.t 2,.t 55],none,[]⟩,
⟨(some 3),.p .mv,[.c (.bool true)],none,[]⟩] false []) <|
 .ret, [.cell 2 2 true,.tmp 3]⟩
structure D482 (T : Tab) : Prop where
  fn : T.fn 482 = some ir482
  pr : T.prim 482 = none
  d498 : D498 T
  d499 : D499 T
/-- motley/big.numbers -/
def ir456 : AFunc := ⟨.seq (.region [
⟨(some 2),.p .mv,[.c (.slc none 0 0 none)],none,[]⟩,
⟨(some 3),.p .mv,[.c (.int .i64 0)],none,[]⟩] false []) <|
 .seq (.seq (.region [
⟨(some 9),.p .mv,[.t 0],none,[]⟩,
⟨(some 10),.w .call,[.c (.fn 490 [] []),.t 9,.c (.fn 491 [] [])],none,[]⟩] false []) <|
 .cond (.t 10) (.seq (.region [
⟨(some 2),.p .mv,[.c (.slc none 0 0 none)],none,[]⟩,
⟨(some 3),.p .mv,[.c (.int .i64 3)],none,[]⟩] false []) <|
 .ret) (.skip)) <|
 .seq (.region [
⟨(some 4),.p .mv,[.c (.slc none 0 0 none)],none,[]⟩] false []) <|
 .seq (.seq (.region [
⟨(some 11),.p .mv,[.t 0],none,[]⟩,
⟨(some 12),.p .len,[.t 11],none,[]⟩,
⟨(some 13),.p .mv,[.c (.int .i64 0)],none,[]⟩] false []) <|
 .block 0 (.loop (.seq (.region [
⟨(some 14),.p (.bin .lss),[.t 13,.t 12],none,[]⟩] false []) <|
 .seq (.cond (.t 14) (.skip) (.exit 0)) <|
 .seq (.block 1 (.seq (.region [
⟨(some 15),.p (.ia 1),[.t 11,.t 13],none,[]⟩,
⟨(some 16),.r (.ld 1 false),[.t 15],none,[]⟩,
⟨(some 6),.p .mv,[.t 16],none,[]⟩] false []) <|
 .seq (.region [
⟨(some 18),.p .mv,[.t 6],none,[]⟩,
⟨(some 19),.w .call,[.c (.fn 482 [] []),.t 18],none,[]⟩,
⟨(some 17),.p .mv,[.t 19],none,[]⟩,
⟨(some 20),.p (.ext 0),[.t 17],none,[]⟩,
⟨(some 21),.p (.ext 1),[.t 17],none,[]⟩,
⟨(some 7),.w .box,[.c (.agg [(.bool false),(.slc none 0 0 none)])],none,[]⟩,
⟨none,.w (.st 2),[.t 7,.t 20],none,[]⟩,
⟨(some 8),.p .mv,[.t 21],none,[]⟩] false []) <|
 .seq (.seq (.region [
⟨(some 22),.p .mv,[.t 8],none,[]⟩,
⟨(some 23),.p (.un .not),[.t 22],none,[]⟩] false []) <|
 .cond (.t 23) (.seq (.region [
⟨(some 2),.p .mv,[.c (.slc none 0 0 none)],none,[]⟩,
⟨(some 3),.p .mv,[.c (.int .i64 2)],none,[]⟩] false []) <|
 .ret) (.skip)) <|
 .region [
⟨(some 24),.p .mv,[.t 4],none,[]⟩,
⟨(some 25),.r (.ld 2 true),[.t 7],none,[]⟩,
⟨(some 26),.w (.bsl 2 1 [(.bool false),(.slc none 0 0 none)] [(0,2)]),[.t 25],none,[]⟩,
⟨(some 27),.w (.app 2 32),[.t 24,.t 26],none,[]⟩,
⟨(some 4),.p .mv,[.t 27],none,[]⟩] false [])) <|
 .region [
⟨(some 28),.p (.bin .add),[.t 13,.c (.int .i64 1)],none,[]⟩,
⟨(some 13),.p .mv,[.t 28],none,[]⟩] false []))) <|
 .seq (.region [
⟨(some 29),.p .mv,[.t 4],none,[]⟩,
⟨(some 2),.p .mv,[.t 29],none,[]⟩,
⟨(some 3),.p .mv,[.c (.int .i64 0)],none,[]⟩] false []) <|
 .ret, [.tmp 2,.tmp 3]⟩
structure D456 (T : Tab) : Prop where
  fn : T.fn 456 = some ir456
  pr : T.prim 456 = none
  d490 : D490 T
  d491 : D491 T
  d482 : D482 T
/-- slices.Clip[motley/big.nat,int] -/
def ir457 : AFunc := ⟨.seq (.region [
⟨(some 2),.p .mv,[.c (.slc none 0 0 none)],none,[]⟩] false []) <|
 .seq (.region [
⟨(some 3),.p .mv,[.t 0],none,[]⟩,
⟨(some 4),.p .mv,[.t 0],none,[]⟩,
⟨(some 5),.p .len,[.t 4],none,[]⟩,
⟨(some 6),.p .mv,[.t 0],none,[]⟩,
⟨(some 7),.p .len,[.t 6],none,[]⟩,
⟨(some 8),.p (.sl 1 false true true),[.t 3,.t 5,.t 7],none,[]⟩,
⟨(some 2),.p .mv,[.t 8],none,[]⟩] false []) <|
 .ret, [.tmp 2]⟩
structure D457 (T : Tab) : Prop where
  fn : T.fn 457 = some ir457
  pr : T.prim 457 = none
/-- motley/big.trimmed -/
def ir458 : AFunc := ⟨.seq (.region [
⟨(some 2),.p .mv,[.c (.slc none 0 0 none)],none,[]⟩] false []) <|
 .seq (.block 0 (.loop (.seq (.seq (.region [
⟨(some 3),.p .mv,[.t 0],none,[]⟩,
⟨(some 4),.p .len,[.t 3],none,[]⟩,
⟨(some 5),.p (.bin .gtr),[.t 4,.c (.int .i64 0)],none,[]⟩,
⟨(some 6),.p .mv,[.t 5],none,[]⟩,
⟨(some 7),.p .mv,[.t 0],(some (6,true)),[]⟩,
⟨(some 8),.p (.ia 1),[.t 7,.c (.int .i64 0)],(some (6,true)),[]⟩,
⟨(some 9),.r (.ld 1 false),[.t 8],(some (6,true)),[]⟩,
⟨(some 10),.p (.bin .eql),[.t 9,.c (.int .i64 0)],(some (6,true)),[]⟩,
⟨(some 11),.p .pick,[.t 6,.t 10,.c (.bool false)],none,[]⟩] false []) <|
 .cond (.t 11) (.skip) (.exit 0)) <|
 .block 1 (.region [
⟨(some 12),.p .mv,[.t 0],none,[]⟩,
⟨(some 13),.p (.sl 1 true false false),[.t 12,.c (.int .i64 1)],none,[]⟩,
⟨(some 0),.p .mv,[.t 13],none,[]⟩] false [])))) <|
 .seq (.region [
⟨(some 14),.p .mv,[.t 0],none,[]⟩,
⟨(some 2),.p .mv,[.t 14],none,[]⟩] false []) <|
 .ret, [.tmp 2]⟩
structure D458 (T : Tab) : Prop where
  fn : T.fn 458 = some ir458
  pr : T.prim 458 = none
/-- cmp.isNaN[int] -/
def ir192 : AFunc := ⟨.seq (.region [
⟨(some 2),.p .mv,[.c (.bool false)],none,[]⟩] false []) <|
 .seq (.region [
⟨(some 3),.p .mv,[.t 0],none,[]⟩,
⟨(some 4),.p .mv,[.t 0],none,[]⟩,
⟨(some 5),.p (.bin .neq),[.t 3,.t 4],none,[]⟩,
⟨(some 2),.p .mv,[.t 5],none,[]⟩] false []) <|
 .ret, [.tmp 2]⟩
structure D192 (T : Tab) : Prop where
  fn : T.fn 192 = some ir192
  pr : T.prim 192 = none
/-- cmp.Compare[int] -/
def ir178 : AFunc := ⟨.seq (.region [
⟨(some 4),.p .mv,[.c (.int .i64 0)],none,[]⟩] false []) <|
 .seq (.region [
⟨(some 7),.p .mv,[.t 0],none,[]⟩,
⟨(some 8),.w .call,[.c (.fn 192 [] []),.t 7],none,[]⟩,
⟨(some 5),.p .mv,[.t 8],none,[]⟩] false []) <|
 .seq (.region [
⟨(some 9),.p .mv,[.t 1],none,[]⟩,
⟨(some 10),.w .call,[.c (.fn 192 [] []),.t 9],none,[]⟩,
⟨(some 6),.p .mv,[.t 10],none,[]⟩] false []) <|
 .seq (.seq (.region [
⟨(some 11),.p .mv,[.t 5],none,[]⟩] false []) <|
 .cond (.t 11) (.seq (.seq (.region [
⟨(some 12),.p .mv,[.t 6],none,[]⟩] false []) <|
 .cond (.t 12) (.seq (.region [
⟨(some 4),.p .mv,[.c (.int .i64 0)],none,[]⟩] false []) <|
 .ret) (.skip)) <|
 .seq (.region [
⟨(some 4),.p .mv,[.c (.int .i64 (-1))],none,[]⟩] false []) <|
 .ret) (.skip)) <|
 .seq (.seq (.region [
⟨(some 13),.p .mv,[.t 6],none,[]⟩] false []) <|
 .cond (.t 13) (.seq (.region [
⟨(some 4),.p .mv,[.c (.int .i64 1)],none,[]⟩] false []) <|
 .ret) (.skip)) <|
 .seq (.seq (.region [
⟨(some 14),.p .mv,[.t 0],none,[]⟩,
⟨(some 15),.p .mv,[.t 1],none,[]⟩,
⟨(some 16),.p (.bin .lss),[.t 14,.t 15],none,[]⟩] false []) <|
 .cond (.t 16) (.seq (.region [
⟨(some 4),.p .mv,[.c (.int .i64 (-1))],none,[]⟩] false []) <|
 .ret) (.skip)) <|
 .seq (.seq (.region [
⟨(some 17),.p .mv,[.t 0],none,[]⟩,
⟨(some 18),.p .mv,[.t 1],none,[]⟩,
⟨(some 19),.p (.bin .gtr),[.t 17,.t 18],none,[]⟩] false []) <|
 .cond (.t 19) (.seq (.region [
⟨(some 4),.p .mv,[.c (.int .i64 1)],none,[]⟩] false []) <|
 .ret) (.skip)) <|
 .seq (.region [
⟨(some 4),.p .mv,[.c (.int .i64 0)],none,[]⟩] false []) <|
 .ret, [.tmp 4]⟩
structure D178 (T : Tab) : Prop where
  fn : T.fn 178 = some ir178
  pr : T.prim 178 = none
  d192 : D192 T
/-- slices.Compare[motley/big.nat,int] -/
def ir494 : AFunc := ⟨.seq (.region [
⟨(some 4),.p .mv,[.c (.int .i64 0)],none,[]⟩] false []) <|
 .seq (.seq (.region [
⟨(some 9),.p .mv,[.t 0],none,[]⟩,
⟨(some 10),.p .len,[.t 9],none,[]⟩,
⟨(some 11),.p .mv,[.c (.int .i64 0)],none,[]⟩] false []) <|
 .block 0 (.loop (.seq (.region [
⟨(some 12),.p (.bin .lss),[.t 11,.t 10],none,[]⟩] false []) <|
 .seq (.cond (.t 12) (.skip) (.exit 0)) <|
 .seq (.block 1 (.seq (.region [
⟨(some 13),.p .mv,[.t 11],none,[]⟩,
⟨(some 14),.p (.ia 1),[.t 9,.t 11],none,[]⟩,
⟨(some 15),.r (.ld 1 false),[.t 14],none,[]⟩,
⟨(some 5),.p .mv,[.t 13],none,[]⟩,
⟨(some 6),.p .mv,[.t 15],none,[]⟩] false []) <|
 .seq (.seq (.region [
⟨(some 16),.p .mv,[.t 5],none,[]⟩,
⟨(some 17),.p .mv,[.t 1],none,[]⟩,
⟨(some 18),.p .len,[.t 17],none,[]⟩,
⟨(some 19),.p (.bin .geq),[.t 16,.t 18],none,[]⟩] false []) <|
 .cond (.t 19) (.seq (.region [
⟨(some 4),.p .mv,[.c (.int .i64 1)],none,[]⟩] false []) <|
 .ret) (.skip)) <|
 .seq (.region [
⟨(some 20),.p .mv,[.t 1],none,[]⟩,
⟨(some 21),.p .mv,[.t 5],none,[]⟩,
⟨(some 22),.p (.ia 1),[.t 20,.t 21],none,[]⟩,
⟨(some 23),.r (.ld 1 false),[.t 22],none,[]⟩,
⟨(some 7),.p .mv,[.t 23],none,[]⟩] false []) <|
 .seq (.region [
⟨(some 24),.p .mv,[.t 6],none,[]⟩,
⟨(some 25),.p .mv,[.t 7],none,[]⟩,
⟨(some 26),.w .call,[.c (.fn 178 [] []),.t 24,.t 25],none,[]⟩,
⟨(some 8),.p .mv,[.t 26],none,[]⟩] false []) <|
 .seq (.region [
⟨(some 27),.p .mv,[.t 8],none,[]⟩,
⟨(some 28),.p (.bin .neq),[.t 27,.c (.int .i64 0)],none,[]⟩] false []) <|
 .cond (.t 28) (.seq (.region [
⟨(some 29),.p .mv,[.t 8],none,[]⟩,
⟨(some 4),.p .mv,[.t 29],none,[]⟩] false []) <|
 .ret) (.skip))) <|
 .region [
⟨(some 30),.p (.bin .add),[.t 11,.c (.int .i64 1)],none,[]⟩,
⟨(some 11),.p .mv,[.t 30],none,[]⟩] false []))) <|
 .seq (.seq (.region [
⟨(some 31),.p .mv,[.t 0],none,[]⟩,
⟨(some 32),.p .len,[.t 31],none,[]⟩,
⟨(some 33),.p .mv,[.t 1],none,[]⟩,
⟨(some 34),.p .len,[.t 33],none,[]⟩,
⟨(some 35),.p (.bin .lss),[.t 32,.t 34],none,[]⟩] false []) <|
 .cond (.t 35) (.seq (.region [
⟨(some 4),.p .mv,[.c (.int .i64 (-1))],none,[]⟩] false []) <|
 .ret) (.skip)) <|
 .seq (.region [
⟨(some 4),.p .mv,[.c (.int .i64 0)],none,[]⟩] false []) <|
 .ret, [.tmp 4]⟩
structure D494 (T : Tab) : Prop where
  fn : T.fn 494 = some ir494
  pr : T.prim 494 = none
  d178 : D178 T
/-- (motley/big.nat).cmp -/
def ir461 : AFunc := ⟨.seq (.region [
⟨(some 4),.p .mv,[.c (.int .i64 0)],none,[]⟩] false []) <|
 .seq (.seq (.region [
⟨(some 5),.p .mv,[.t 0],none,[]⟩,
⟨(some 6),.p .len,[.t 5],none,[]⟩,
⟨(some 7),.p .mv,[.t 1],none,[]⟩,
⟨(some 8),.p .len,[.t 7],none,[]⟩,
⟨(some 9),.p (.bin .neq),[.t 6,.t 8],none,[]⟩] false []) <|
 .cond (.t 9) (.seq (.region [
⟨(some 10),.p .mv,[.t 0],none,[]⟩,
⟨(some 11),.p .len,[.t 10],none,[]⟩,
⟨(some 12),.p .mv,[.t 1],none,[]⟩,
⟨(some 13),.p .len,[.t 12],none,[]⟩,
⟨(some 14),.p (.bin .sub),[.t 11,.t 13],none,[]⟩,
⟨(some 4),.p .mv,[.t 14],none,[]⟩] false []) <|
 .ret) (.skip)) <|
 .seq (.region [
⟨(some 15),.p .mv,[.t 0],none,[]⟩,
⟨(some 16),.p .mv,[.t 1],none,[]⟩,
⟨(some 17),.w .call,[.c (.fn 494 [] []),.t 15,.t 16],none,[]⟩,
⟨(some 4),.p .mv,[.t 17],none,[]⟩] false []) <|
 .ret, [.tmp 4]⟩
structure D461 (T : Tab) : Prop where
  fn : T.fn 461 = some ir461
  pr : T.prim 461 = none
  d494 : D494 T
/-- slices.Backward[motley/big.nat,int]$1 -/
def ir502 : AFunc := ⟨.seq (.region [
⟨(some 4),.r (.ld 1 false),[.t 1],none,[]⟩,
⟨(some 5),.p .len,[.t 4],none,[]⟩,
⟨(some 6),.p (.bin .sub),[.t 5,.c (.int .i64 1)],none,[]⟩,
⟨(some 3),.p .mv,[.t 6],none,[]⟩] false []) <|
 .block 0 (.loop (.seq (.seq (.region [
⟨(some 7),.p .mv,[.t 3],none,[]⟩,
⟨(some 8),.p (.bin .geq),[.t 7,.c (.int .i64 0)],none,[]⟩] false []) <|
 .cond (.t 8) (.skip) (.exit 0)) <|
 .seq (.block 1 (.seq (.region [
⟨(some 11),.p .mv,[.t 0],none,[]⟩,
⟨(some 12),.p .mv,[.t 3],none,[]⟩,
⟨(some 13),.r (.ld 1 false),[.t 1],none,[]⟩,
⟨(some 14),.p .mv,[.t 3],none,[]⟩,
⟨(some 15),.p (.ia 1),[.t 13,.t 14],none,[]⟩,
⟨(some 16),.r (.ld 1 false),[.t 15],none,[]⟩,
⟨(some 17),.w .call,[.t 11,.t 12,.t 16],none,[]⟩,
⟨(some 18),.p (.un .not),[.t 17],none,[]⟩] false []) <|
 .cond (.t 18) (.ret) (.skip))) <|
 .region [
⟨(some 9),.p .mv,[.t 3],none,[]⟩,
⟨(some 10),.p (.bin .sub),[.t 9,.c (.int .i64 1)],none,[]⟩,
⟨(some 3),.p .mv,[.t 10],none,[]⟩] false [])), []⟩
structure D502 (T : Tab) : Prop where
  fn : T.fn 502 = some ir502
  pr : T.prim 502 = none
/-- slices.Backward[motley/big.nat,int] -/
def ir492 : AFunc := ⟨.seq (.region [
⟨(some 1),.w .box,[.t 0],none,[]⟩,
⟨(some 2),.p .mv,[.c .nilFn],none,[]⟩] false []) <|
 .seq (.region [
⟨(some 3),.p (.mkF 502 0),[.t 1],none,[]⟩,
⟨(some 2),.p .mv,[.t 3],none,[]⟩] false []) <|
 .ret, [.tmp 2]⟩
structure D492 (T : Tab) : Prop where
  fn : T.fn 492 = some ir492
  pr : T.prim 492 = none
  d502 : D502 T
/-- (motley/big.nat).at -/
def ir493 : AFunc := ⟨.seq (.region [
⟨(some 4),.p .mv,[.c (.int .i64 0)],none,[]⟩] false []) <|
 .seq (.seq (.region [
⟨(some 5),.p .mv,[.t 1],none,[]⟩,
⟨(some 6),.p .mv,[.t 0],none,[]⟩,
⟨(some 7),.p .len,[.t 6],none,[]⟩,
⟨(some 8),.p (.bin .geq),[.t 5,.t 7],none,[]⟩] false []) <|
 .cond (.t 8) (.seq (.region [
⟨(some 4),.p .mv,[.c (.int .i64 0)],none,[]⟩] false []) <|
 .ret) (.skip)) <|
 .seq (.region [
⟨(some 9),.p .mv,[.t 0],none,[]⟩,
⟨(some 10),.p .mv,[.t 0],none,[]⟩,
⟨(some 11),.p .len,[.t 10],none,[]⟩,
⟨(some 12),.p (.bin .sub),[.t 11,.c (.int .i64 1)],none,[]⟩,
⟨(some 13),.p .mv,[.t 1],none,[]⟩,
⟨(some 14),.p (.bin .sub),[.t 12,.t 13],none,[]⟩,
⟨(some 15),.p (.ia 1),[.t 9,.t 14],none,[]⟩,
⟨(some 16),.r (.ld 1 false),[.t 15],none,[]⟩,
⟨(some 4),.p .mv,[.t 16],none,[]⟩] false []) <|
 .ret, [.tmp 4]⟩
structure D493 (T : Tab) : Prop where
  fn : T.fn 493 = some ir493
  pr : T.prim 493 = none
/-- (motley/big.nat).sub -/
def ir477 : AFunc := ⟨.seq (.region [
⟨(some 2),.w .box,[.t 0],none,[]⟩,
⟨(some 3),.w .box,[.t 1],none,[]⟩,
⟨(some 4),.p .mv,[.c (.slc none 0 0 none)],none,[]⟩] false []) <|
 .seq (.region [
⟨(some 10),.r (.ld 1 false),[.t 2],none,[]⟩,
⟨(some 11),.p .len,[.t 10],none,[]⟩,
⟨(some 12),.w (.mks 8 [(.int .i64 0)]),[.t 11,.t 11],none,[]⟩,
⟨(some 5),.w .box,[.c (.slc none 0 0 none)],none,[]⟩,
⟨none,.w (.st 1),[.t 5,.t 12],none,[]⟩] false []) <|
 .seq (.region [
⟨(some 6),.w .box,[.c (.int .i64 0)],none,[]⟩,
⟨none,.w (.st 1),[.t 6,.c (.int .i64 0)],none,[]⟩] false []) <|
 .seq (.seq (.region [
⟨(some 13),.r (.ld 1 false),[.t 5],none,[]⟩,
⟨(some 14),.w .call,[.c (.fn 492 [] []),.t 13],none,[]⟩] false []) <|
 .block 0 (.rngf (.t 14) [15,16] (.region [
⟨(some 7),.p .mv,[.t 15],none,[]⟩] false []) (.block 1 (.seq (.region [
⟨(some 17),.r (.ld 1 false),[.t 5],none,[]⟩,
⟨(some 18),.p .len,[.t 17],none,[]⟩,
⟨(some 19),.p (.bin .sub),[.t 18,.c (.int .i64 1)],none,[]⟩,
⟨(some 20),.p .mv,[.t 7],none,[]⟩,
⟨(some 21),.p (.bin .sub),[.t 19,.t 20],none,[]⟩,
⟨(some 8),.p .mv,[.t 21],none,[]⟩] false []) <|
 .seq (.region [
⟨(some 22),.r (.ld 1 false),[.t 2],none,[]⟩,
⟨(some 23),.p .mv,[.t 8],none,[]⟩,
⟨(some 24),.w .call,[.c (.fn 493 [] []),.t 22,.t 23],none,[]⟩,
⟨(some 25),.r (.ld 1 false),[.t 3],none,[]⟩,
⟨(some 26),.p .mv,[.t 8],none,[]⟩,
⟨(some 27),.w .call,[.c (.fn 493 [] []),.t 25,.t 26],none,[]⟩,
⟨(some 28),.p (.bin .sub),[.t 24,.t 27],none,[]⟩,
⟨(some 29),.r (.ld 1 false),[.t 6],none,[]⟩,
⟨(some 30),.p (.bin .sub),[.t 28,.t 29],none,[]⟩,
⟨(some 9),.p .mv,[.t 30],none,[]⟩] true [(3,2),(7,2),(7,5)]) <|
 .seq (.region [
⟨none,.w (.st 1),[.t 6,.c (.int .i64 0)],none,[]⟩] false []) <|
 .seq (.seq (.region [
⟨(some 31),.p .mv,[.t 9],none,[]⟩,
⟨(some 32),.p (.bin .lss),[.t 31,.c (.int .i64 0)],none,[]⟩] false []) <|
 .cond (.t 32) (.seq (.region [
⟨(some 33),.p .mv,[.t 9],none,[]⟩,
⟨(some 34),.p (.bin .add),[.t 33,.c (.int .i64 10)],none,[]⟩,
⟨(some 9),.p .mv,[.t 34],none,[]⟩] false []) <|
 .region [
⟨none,.w (.st 1),[.t 6,.c (.int .i64 1)],none,[]⟩] false []) (.skip)) <|
 .region [
⟨(some 35),.r (.ld 1 false),[.t 5],none,[]⟩,
⟨(some 36),.p .mv,[.t 7],none,[]⟩,
⟨(some 37),.p .mv,[.t 9],none,[]⟩,
⟨(some 38),.p (.ia 1),[.t 35,.t 36],none,[]⟩,
⟨none,.w (.st 1),[.t 38,.t 37],none,[]⟩] false [])))) <|
 .seq (.region [
⟨(some 39),.r (.ld 1 false),[.t 5],none,[]⟩,
⟨(some 40),.w .call,[.c (.fn 458 [] []),.t 39],none,[]⟩,
⟨(some 4),.p .mv,[.t 40],none,[]⟩] false []) <|
 .ret, [.tmp 4]⟩
structure D477 (T : Tab) : Prop where
  fn : T.fn 477 = some ir477
  pr : T.prim 477 = none
  d492 : D492 T
  d493 : D493 T
  d458 : D458 T
/-- (motley/big.nat).div -/
def ir459 : AFunc := ⟨.seq (.region [
⟨(some 4),.p .mv,[.c (.slc none 0 0 none)],none,[]⟩,
⟨(some 5),.p .mv,[.c (.slc none 0 0 none)],none,[]⟩] false []) <|
 .seq (.region [
⟨(some 6),.p .mv,[.c (.slc none 0 0 none)],none,[]⟩,
⟨(some 7),.p .mv,[.c (.slc none 0 0 none)],none,[]⟩] false []) <|
 .seq (.seq (.region [
⟨(some 11),.p .mv,[.t 0],none,[]⟩,
⟨(some 12),.p .len,[.t 11],none,[]⟩,
⟨(some 13),.p .mv,[.c (.int .i64 0)],none,[]⟩] false []) <|
 .block 0 (.loop (.seq (.region [
⟨(some 14),.p (.bin .lss),[.t 13,.t 12],none,[]⟩] false []) <|
 .seq (.cond (.t 14) (.skip) (.exit 0)) <|
 .seq (.block 1 (.seq (.region [
⟨(some 15),.p (.ia 1),[.t 11,.t 13],none,[]⟩,
⟨(some 16),.r (.ld 1 false),[.t 15],none,[]⟩,
⟨(some 9),.p .mv,[.t 16],none,[]⟩] false []) <|
 .seq (.region [
⟨(some 17),.p .mv,[.t 7],none,[]⟩,
⟨(some 18),.w .call,[.c (.fn 457 [] []),.t 17],none,[]⟩,
⟨(some 19),.p .mv,[.t 9],none,[]⟩,
⟨(some 20),.w (.bsl 1 1 [(.int .i64 0)] [(0,1)]),[.t 19],none,[]⟩,
⟨(some 21),.w (.app 1 8),[.t 18,.t 20],none,[]⟩,
⟨(some 22),.w .call,[.c (.fn 458 [] []),.t 21],none,[]⟩,
⟨(some 7),.p .mv,[.t 22],none,[]⟩] false []) <|
 .seq (.region [
⟨(some 10),.p .mv,[.c (.int .i64 0)],none,[]⟩] false []) <|
 .seq (.block 2 (.loop (.seq (.seq (.region [
⟨(some 23),.p .mv,[.t 7],none,[]⟩,
⟨(some 24),.p .mv,[.t 1],none,[]⟩,
⟨(some 25),.w .call,[.c (.fn 461 [] []),.t 23,.t 24],none,[]⟩,
⟨(some 26),.p (.bin .geq),[.t 25,.c (.int .i64 0)],none,[]⟩] false []) <|
 .cond (.t 26) (.skip) (.exit 2)) <|
 .block 3 (.seq (.region [
⟨(some 27),.p .mv,[.t 7],none,[]⟩,
⟨(some 28),.p .mv,[.t 1],none,[]⟩,
⟨(some 29),.w .call,[.c (.fn 477 [] []),.t 27,.t 28],none,[]⟩,
⟨(some 7),.p .mv,[.t 29],none,[]⟩] false []) <|
 .region [
⟨(some 30),.p .mv,[.t 10],none,[]⟩,
⟨(some 31),.p (.bin .add),[.t 30,.c (.int .i64 1)],none,[]⟩,
⟨(some 10),.p .mv,[.t 31],none,[]⟩] false [])))) <|
 .region [
⟨(some 32),.p .mv,[.t 6],none,[]⟩,
⟨(some 33),.p .mv,[.t 10],none,[]⟩,
⟨(some 34),.w (.bsl 1 1 [(.int .i64 0)] [(0,1)]),[.t 33],none,[]⟩,
⟨(some 35),.w (.app 1 8),[.t 32,.t 34],none,[]⟩,
⟨(some 6),.p .mv,[.t 35],none,[]⟩] false [])) <|
 .region [
⟨(some 36),.p (.bin .add),[.t 13,.c (.int .i64 1)],none,[]⟩,
⟨(some 13),.p .mv,[.t 36],none,[]⟩] false []))) <|
 .seq (.region [
⟨(some 37),.p .mv,[.t 6],none,[]⟩,
⟨(some 38),.w .call,[.c (.fn 458 [] []),.t 37],none,[]⟩,
⟨(some 39),.p .mv,[.t 7],none,[]⟩,
⟨(some 4),.p .mv,[.t 38],none,[]⟩,
⟨(some 5),.p .mv,[.t 39],none,[]⟩] false []) <|
 .ret, [.tmp 4,.tmp 5]⟩
structure D459 (T : Tab) : Prop where
  fn : T.fn 459 = some ir459
  pr : T.prim 459 = none
  d457 : D457 T
  d458 : D458 T
  d461 : D461 T
  d477 : D477 T
/-- motley/big.signed -/
def ir473 : AFunc := ⟨.seq (.region [
⟨(some 4),.w .box,[.c (.agg [(.bool false),(.slc none 0 0 none)])],none,[]⟩] false []) <|
 .seq (.region [
⟨(some 5),.p .mv,[.t 0],none,[]⟩,
⟨(some 6),.p .mv,[.t 5],none,[]⟩,
⟨(some 7),.p .mv,[.t 1],(some (6,true)),[]⟩,
⟨(some 8),.p .len,[.t 7],(some (6,true)),[]⟩,
⟨(some 9),.p (.bin .gtr),[.t 8,.c (.int .i64 0)],(some (6,true)),[]⟩,
⟨(some 10),.p .pick,[.t 6,.t 9,.c (.bool false)],none,[]⟩,
⟨(some 11),.p .mv,[.t 1],none,[]⟩,
⟨(some 12),.p (.bld [(.bool false),(.slc none 0 0 none)] [(0,1),(1,1)]),[.t 10,.t 11],none,[]⟩,
⟨none,.w (.st 2),[.t 4,.t 12],none,[]⟩] false []) <|
 .ret, [.cell 4 2 true]⟩
structure D473 (T : Tab) : Prop where
  fn : T.fn 473 = some ir473
  pr : T.prim 473 = none
/-- slices.Reverse[motley/big.nat,int] -/
def ir495 : AFunc := ⟨.seq (.region [
⟨(some 4),.p .mv,[.t 0],none,[]⟩,
⟨(some 5),.p .len,[.t 4],none,[]⟩,
⟨(some 6),.p (.bin .sub),[.t 5,.c (.int .i64 1)],none,[]⟩,
⟨(some 2),.p .mv,[.c (.int .i64 0)],none,[]⟩,
⟨(some 3),.p .mv,[.t 6],none,[]⟩] false []) <|
 .block 0 (.loop (.seq (.seq (.region [
⟨(some 7),.p .mv,[.t 2],none,[]⟩,
⟨(some 8),.p .mv,[.t 3],none,[]⟩,
⟨(some 9),.p (.bin .lss),[.t 7,.t 8],none,[]⟩] false []) <|
 .cond (.t 9) (.skip) (.exit 0)) <|
 .seq (.block 1 (.region [
⟨(some 14),.p .mv,[.t 0],none,[]⟩,
⟨(some 15),.p .mv,[.t 2],none,[]⟩,
⟨(some 16),.p .mv,[.t 0],none,[]⟩,
⟨(some 17),.p .mv,[.t 3],none,[]⟩,
⟨(some 18),.p .mv,[.t 0],none,[]⟩,
⟨(some 19),.p .mv,[.t 3],none,[]⟩,
⟨(some 20),.p (.ia 1),[.t 18,.t 19],none,[]⟩,
⟨(some 21),.r (.ld 1 false),[.t 20],none,[]⟩,
⟨(some 22),.p .mv,[.t 0],none,[]⟩,
⟨(some 23),.p .mv,[.t 2],none,[]⟩,
⟨(some 24),.p (.ia 1),[.t 22,.t 23],none,[]⟩,
⟨(some 25),.r (.ld 1 false),[.t 24],none,[]⟩,
⟨(some 26),.p (.ia 1),[.t 14,.t 15],none,[]⟩,
⟨none,.w (.st 1),[.t 26,.t 21],none,[]⟩,
⟨(some 27),.p (.ia 1),[.t 16,.t 17],none,[]⟩,
⟨none,.w (.st 1),[.t 27,.t 25],none,[]⟩] true [])) <|
 .region [
⟨(some 10),.p .mv,[.t 2],none,[]⟩,
⟨(some 11),.p (.bin .add),[.t 10,.c (.int .i64 1)],none,[]⟩,
⟨(some 12),.p .mv,[.t 3],none,[]⟩,
⟨(some 13),.p (.bin .sub),[.t 12,.c (.int .i64 1)],none,[]⟩,
⟨(some 2),.p .mv,[.t 11],none,[]⟩,
⟨(some 3),.p .mv,[.t 13],none,[]⟩] false [])), []⟩
structure D495 (T : Tab) : Prop where
  fn : T.fn 495 = some ir495
  pr : T.prim 495 = none
/-- motley/big.small -/
def ir462 : AFunc := ⟨.seq (.region [
⟨(some 2),.p .mv,[.c (.slc none 0 0 none)],none,[]⟩] false []) <|
 .seq (.region [
⟨(some 3),.p .mv,[.c (.slc none 0 0 none)],none,[]⟩] false []) <|
 .seq (.block 0 (.loop (.seq (.seq (.region [
⟨(some 4),.p .mv,[.t 0],none,[]⟩,
⟨(some 5),.p (.bin .gtr),[.t 4,.c (.int .i64 0)],none,[]⟩] false []) <|
 .cond (.t 5) (.skip) (.exit 0)) <|
 .seq (.block 1 (.region [
⟨(some 8),.p .mv,[.t 3],none,[]⟩,
⟨(some 9),.p .mv,[.t 0],none,[]⟩,
⟨(some 10),.p (.bin .rem),[.t 9,.c (.int .i64 10)],none,[]⟩,
⟨(some 11),.w (.bsl 1 1 [(.int .i64 0)] [(0,1)]),[.t 10],none,[]⟩,
⟨(some 12),.w (.app 1 8),[.t 8,.t 11],none,[]⟩,
⟨(some 3),.p .mv,[.t 12],none,[]⟩] false [])) <|
 .region [
⟨(some 6),.p .mv,[.t 0],none,[]⟩,
⟨(some 7),.p (.bin .quo),[.t 6,.c (.int .i64 10)],none,[]⟩,
⟨(some 0),.p .mv,[.t 7],none,[]⟩] false []))) <|
 .seq (.region [
⟨(some 13),.p .mv,[.t 3],none,[]⟩,
⟨(some 14),.w .call,[.c (.fn 495 [] []),.t 13],none,[]⟩] false []) <|
 .seq (.region [
⟨(some 15),.p .mv,[.t 3],none,[]⟩,
⟨(some 2),.p .mv,[.t 15],none,[]⟩] false []) <|
 .ret, [.tmp 2]⟩
structure D462 (T : Tab) : Prop where
  fn : T.fn 462 = some ir462
  pr : T.prim 462 = none
  d495 : D495 T
/-- motley/big.whole -/
def ir487 : AFunc := ⟨.seq (.region [
⟨(some 2),.w .box,[.c (.agg [(.bool false),(.slc none 0 0 none)])],none,[]⟩] false []) <|
 .seq (.region [
⟨(some 3),.p .mv,[.t 0],none,[]⟩,
⟨(some 4),.p (.bin .lss),[.t 3,.c (.int .i64 0)],none,[]⟩,
⟨(some 5),.p .mv,[.t 0],none,[]⟩,
⟨(some 6),.p .mv,[.t 0],none,[]⟩,
⟨(some 7),.p (.un .neg),[.t 6],none,[]⟩,
⟨(some 8),.p .max,[.t 5,.t 7],none,[]⟩,
⟨(some 9),.w .call,[.c (.fn 462 [] []),.t 8],none,[]⟩,
⟨(some 10),.w .call,[.c (.fn 473 [] []),.t 4,.t 9],none,[]⟩,
⟨none,.w (.st 2),[.t 2,.t 10],none,[]⟩] false []) <|
 .ret, [.cell 2 2 true]⟩
structure D487 (T : Tab) : Prop where
  fn : T.fn 487 = some ir487
  pr : T.prim 487 = none
  d462 : D462 T
  d473 : D473 T
/-- (motley/big.nat).add -/
def ir460 : AFunc := ⟨.seq (.region [
⟨(some 2),.w .box,[.t 0],none,[]⟩,
⟨(some 3),.w .box,[.t 1],none,[]⟩,
⟨(some 4),.p .mv,[.c (.slc none 0 0 none)],none,[]⟩] false []) <|
 .seq (.region [
⟨(some 10),.r (.ld 1 false),[.t 2],none,[]⟩,
⟨(some 11),.p .len,[.t 10],none,[]⟩,
⟨(some 12),.r (.ld 1 false),[.t 3],none,[]⟩,
⟨(some 13),.p .len,[.t 12],none,[]⟩,
⟨(some 14),.p .max,[.t 11,.t 13],none,[]⟩,
⟨(some 15),.p (.bin .add),[.t 14,.c (.int .i64 1)],none,[]⟩,
⟨(some 16),.w (.mks 8 [(.int .i64 0)]),[.t 15,.t 15],none,[]⟩,
⟨(some 5),.w .box,[.c (.slc none 0 0 none)],none,[]⟩,
⟨none,.w (.st 1),[.t 5,.t 16],none,[]⟩] false []) <|
 .seq (.region [
⟨(some 6),.w .box,[.c (.int .i64 0)],none,[]⟩,
⟨none,.w (.st 1),[.t 6,.c (.int .i64 0)],none,[]⟩] false []) <|
 .seq (.seq (.region [
⟨(some 17),.r (.ld 1 false),[.t 5],none,[]⟩,
⟨(some 18),.w .call,[.c (.fn 492 [] []),.t 17],none,[]⟩] false []) <|
 .block 0 (.rngf (.t 18) [19,20] (.region [
⟨(some 7),.p .mv,[.t 19],none,[]⟩] false []) (.block 1 (.seq (.region [
⟨(some 21),.r (.ld 1 false),[.t 5],none,[]⟩,
⟨(some 22),.p .len,[.t 21],none,[]⟩,
⟨(some 23),.p (.bin .sub),[.t 22,.c (.int .i64 1)],none,[]⟩,
⟨(some 24),.p .mv,[.t 7],none,[]⟩,
⟨(some 25),.p (.bin .sub),[.t 23,.t 24],none,[]⟩,
⟨(some 8),.p .mv,[.t 25],none,[]⟩] false []) <|
 .seq (.region [
⟨(some 26),.r (.ld 1 false),[.t 2],none,[]⟩,
⟨(some 27),.p .mv,[.t 8],none,[]⟩,
⟨(some 28),.w .call,[.c (.fn 493 [] []),.t 26,.t 27],none,[]⟩,
⟨(some 29),.r (.ld 1 false),[.t 3],none,[]⟩,
⟨(some 30),.p .mv,[.t 8],none,[]⟩,
⟨(some 31),.w .call,[.c (.fn 493 [] []),.t 29,.t 30],none,[]⟩,
⟨(some 32),.p (.bin .add),[.t 28,.t 31],none,[]⟩,
⟨(some 33),.r (.ld 1 false),[.t 6],none,[]⟩,
⟨(some 34),.p (.bin .add),[.t 32,.t 33],none,[]⟩,
⟨(some 9),.p .mv,[.t 34],none,[]⟩] true [(3,2),(7,2),(7,5)]) <|
 .region [
⟨(some 35),.r (.ld 1 false),[.t 5],none,[]⟩,
⟨(some 36),.p .mv,[.t 7],none,[]⟩,
⟨(some 37),.p .mv,[.t 9],none,[]⟩,
⟨(some 38),.p (.bin .rem),[.t 37,.c (.int .i64 10)],none,[]⟩,
⟨(some 39),.p .mv,[.t 9],none,[]⟩,
⟨(some 40),.p (.bin .quo),[.t 39,.c (.int .i64 10)],none,[]⟩,
⟨(some 41),.p (.ia 1),[.t 35,.t 36],none,[]⟩,
⟨none,.w (.st 1),[.t 41,.t 38],none,[]⟩,
⟨none,.w (.st 1),[.t 6,.t 40],none,[]⟩] false [])))) <|
 .seq (.region [
⟨(some 42),.r (.ld 1 false),[.t 5],none,[]⟩,
⟨(some 43),.w .call,[.c (.fn 458 [] []),.t 42],none,[]⟩,
⟨(some 4),.p .mv,[.t 43],none,[]⟩] false []) <|
 .ret, [.tmp 4]⟩
structure D460 (T : Tab) : Prop where
  fn : T.fn 460 = some ir460
  pr : T.prim 460 = none
  d492 : D492 T
  d493 : D493 T
  d458 : D458 T
/-- (motley/big.integer).plus -/
def ir470 : AFunc := ⟨.seq (.region [
⟨(some 2),.w .box,[.t 0],none,[]⟩,
⟨(some 3),.w .box,[.t 1],none,[]⟩,
⟨(some 4),.w .box,[.c (.agg [(.bool false),(.slc none 0 0 none)])],none,[]⟩] false []) <|
 .seq (.seq (.region [
⟨(some 5),.p (.fa 0),[.t 2],none,[]⟩,
⟨(some 6),.r (.ld 1 false),[.t 5],none,[]⟩,
⟨(some 7),.p (.fa 0),[.t 3],none,[]⟩,
⟨(some 8),.r (.ld 1 false),[.t 7],none,[]⟩,
⟨(some 9),.p (.eqB false),[.t 6,.t 8],none,[]⟩] false []) <|
 .cond (.t 9) (.seq (.region [
⟨(some 10),.p (.fa 0),[.t 2],none,[]⟩,
⟨(some 11),.r (.ld 1 false),[.t 10],none,[]⟩,
⟨(some 12),.p (.fa 1),[.t 2],none,[]⟩,
⟨(some 13),.r (.ld 1 false),[.t 12],none,[]⟩,
⟨(some 14),.p (.fa 1),[.t 3],none,[]⟩,
⟨(some 15),.r (.ld 1 false),[.t 14],none,[]⟩,
⟨(some 16),.w .call,[.c (.fn 460 [] []),.t 13,.t 15],none,[]⟩,
⟨(some 17),.w .call,[.c (.fn 473 [] []),.t 11,.t 16],none,[]⟩,
⟨none,.w (.st 2),[.t 4,.t 17],none,[]⟩] true [(1,6)]) <|
 .ret) (.skip)) <|
 .seq (.seq (.region [
⟨(some 18),.p (.fa 1),[.t 2],none,[]⟩,
⟨(some 19),.r (.ld 1 false),[.t 18],none,[]⟩,
⟨(some 20),.p (.fa 1),[.t 3],none,[]⟩,
⟨(some 21),.r (.ld 1 false),[.t 20],none,[]⟩,
⟨(some 22),.w .call,[.c (.fn 461 [] []),.t 19,.t 21],none,[]⟩,
⟨(some 23),.p (.bin .geq),[.t 22,.c (.int .i64 0)],none,[]⟩] false []) <|
 .cond (.t 23) (.seq (.region [
⟨(some 24),.p (.fa 0),[.t 2],none,[]⟩,
⟨(some 25),.r (.ld 1 false),[.t 24],none,[]⟩,
⟨(some 26),.p (.fa 1),[.t 2],none,[]⟩,
⟨(some 27),.r (.ld 1 false),[.t 26],none,[]⟩,
⟨(some 28),.p (.fa 1),[.t 3],none,[]⟩,
⟨(some 29),.r (.ld 1 false),[.t 28],none,[]⟩,
⟨(some 30),.w .call,[.c (.fn 477 [] []),.t 27,.t 29],none,[]⟩,
⟨(some 31),.w .call,[.c (.fn 473 [] []),.t 25,.t 30],none,[]⟩,
⟨none,.w (.st 2),[.t 4,.t 31],none,[]⟩] true [(1,6)]) <|
 .ret) (.skip)) <|
 .seq (.region [
⟨(some 32),.p (.fa 0),[.t 3],none,[]⟩,
⟨(some 33),.r (.ld 1 false),[.t 32],none,[]⟩,
⟨(some 34),.p (.fa 1),[.t 3],none,[]⟩,
⟨(some 35),.r (.ld 1 false),[.t 34],none,[]⟩,
⟨(some 36),.p (.fa 1),[.t 2],none,[]⟩,
⟨(some 37),.r (.ld 1 false),[.t 36],none,[]⟩,
⟨(some 38),.w .call,[.c (.fn 477 [] []),.t 35,.t 37],none,[]⟩,
⟨(some 39),.w .call,[.c (.fn 473 [] []),.t 33,.t 38],none,[]⟩,
⟨none,.w (.st 2),[.t 4,.t 39],none,[]⟩] true [(1,6)]) <|
 .ret, [.cell 4 2 true]⟩
structure D470 (T : Tab) : Prop where
  fn : T.fn 470 = some ir470
  pr : T.prim 470 = none
  d460 : D460 T
  d473 : D473 T
  d461 : D461 T
  d477 : D477 T
/-- (motley/big.integer).over -/
def ir466 : AFunc := ⟨.seq (.region [
⟨(some 2),.w .box,[.t 0],none,[]⟩,
⟨(some 3),.w .box,[.t 1],none,[]⟩,
⟨(some 4),.w .box,[.c (.agg [(.bool false),(.slc none 0 0 none)])],none,[]⟩,
⟨(some 5),.w .box,[.c (.agg [(.bool false),(.slc none 0 0 none)])],none,[]⟩] false []) <|
 .seq (.region [
⟨(some 11),.p (.fa 1),[.t 2],none,[]⟩,
⟨(some 12),.r (.ld 1 false),[.t 11],none,[]⟩,
⟨(some 13),.p (.fa 1),[.t 3],none,[]⟩,
⟨(some 14),.r (.ld 1 false),[.t 13],none,[]⟩,
⟨(some 15),.w .call,[.c (.fn 459 [] []),.t 12,.t 14],none,[]⟩,
⟨(some 10),.p .mv,[.t 15],none,[]⟩,
⟨(some 16),.p (.ext 0),[.t 10],none,[]⟩,
⟨(some 17),.p (.ext 1),[.t 10],none,[]⟩,
⟨(some 6),.p .mv,[.t 16],none,[]⟩,
⟨(some 7),.p .mv,[.t 17],none,[]⟩] false []) <|
 .seq (.region [
⟨(some 18),.p (.fa 0),[.t 2],none,[]⟩,
⟨(some 19),.r (.ld 1 false),[.t 18],none,[]⟩,
⟨(some 20),.p (.fa 0),[.t 3],none,[]⟩,
⟨(some 21),.r (.ld 1 false),[.t 20],none,[]⟩,
⟨(some 22),.p (.eqB true),[.t 19,.t 21],none,[]⟩,
⟨(some 23),.p .mv,[.t 6],none,[]⟩,
⟨(some 24),.w .call,[.c (.fn 473 [] []),.t 22,.t 23],none,[]⟩,
⟨(some 25),.p (.fa 0),[.t 2],none,[]⟩,
⟨(some 26),.r (.ld 1 false),[.t 25],none,[]⟩,
⟨(some 27),.p .mv,[.t 7],none,[]⟩,
⟨(some 28),.w .call,[.c (.fn 473 [] []),.t 26,.t 27],none,[]⟩,
⟨(some 8),.w .box,[.c (.agg [(.bool false),(.slc none 0 0 none)])],none,[]⟩,
⟨(some 9),.w .box,[.c (.agg [(.bool false),(.slc none 0 0 none)])],none,[]⟩,
⟨none,.w (.st 2),[.t 8,.t 24],none,[]⟩,
⟨none,.w (.st 2),[.t 9,.t 28],none,[]⟩] true [(8,6),(1,11),(3,11),(8,11),(1,12),(3,12),(8,12)]) <|
 .seq (.seq (.region [
⟨(some 29),.p .mv,[.t 7],none,[]⟩,
⟨(some 30),.p .len,[.t 29],none,[]⟩,
⟨(some 31),.p (.bin .gtr),[.t 30,.c (.int .i64 0)],none,[]⟩,
⟨(some 32),.p .mv,[.t 31],none,[]⟩,
⟨(some 33),.p (.fa 0),[.t 2],(some (32,true)),[]⟩,
⟨(some 34),.r (.ld 1 false),[.t 33],(some (32,true)),[]⟩,
⟨(some 35),.p (.fa 0),[.t 3],(some (32,true)),[]⟩,
⟨(some 36),.r (.ld 1 false),[.t 35],(some (32,true)),[]⟩,
⟨(some 37),.p (.eqB true),[.t 34,.t 36],(some (32,true)),[]⟩,
⟨(some 38),.p .pick,[.t 32,.t 37,.c (.bool false)],none,[]⟩] false []) <|
 .cond (.t 38) (.region [
⟨(some 39),.r (.ld 2 true),[.t 8],none,[]⟩,
⟨(some 40),.w .call,[.c (.fn 487 [] []),.c (.int .i64 (-1))],none,[]⟩,
⟨(some 41),.w .call,[.c (.fn 470 [] []),.t 39,.t 40],none,[]⟩,
⟨(some 42),.r (.ld 2 true),[.t 9],none,[]⟩,
⟨(some 43),.r (.ld 2 true),[.t 3],none,[]⟩,
⟨(some 44),.w .call,[.c (.fn 470 [] []),.t 42,.t 43],none,[]⟩,
⟨none,.w (.st 2),[.t 8,.t 41],none,[]⟩,
⟨none,.w (.st 2),[.t 9,.t 44],none,[]⟩] true [(0,1),(3,1),(3,2),(4,1),(4,2)]) (.skip)) <|
 .seq (.region [
⟨(some 45),.r (.ld 2 true),[.t 8],none,[]⟩,
⟨(some 46),.r (.ld 2 true),[.t 9],none,[]⟩,
⟨none,.w (.st 2),[.t 4,.t 45],none,[]⟩,
⟨none,.w (.st 2),[.t 5,.t 46],none,[]⟩] true [(1,2)]) <|
 .ret, [.cell 4 2 true,.cell 5 2 true]⟩
structure D466 (T : Tab) : Prop where
  fn : T.fn 466 = some ir466
  pr : T.prim 466 = none
  d459 : D459 T
  d473 : D473 T
  d487 : D487 T
  d470 : D470 T
/-- (*strings.Builder).copyCheck -/
def ir264 : AFunc := ⟨.seq (.region [
⟨(some 2),.p .mv,[.t 0],none,[]⟩,
⟨(some 3),.p .nilC,[.t 2],none,[]⟩,
⟨(some 4),.p (.fa 0),[.t 3],none,[]⟩,
⟨(some 5),.r (.ld 1 false),[.t 4],none,[]⟩,
⟨(some 6),.p (.isNil .ptr false),[.t 5],none,[]⟩] false []) <|
 .cond (.t 6) (.region [
⟨(some 7),.p .mv,[.t 0],none,[]⟩,
⟨(some 8),.p .mv,[.t 0],none,[]⟩,
⟨(some 9),.r .p2u,[.t 8],none,[]⟩,
⟨(some 10),.w .call,[.c (.fn 266 [] []),.t 9],none,[]⟩,
⟨(some 11),.r (.u2p 76 2),[.t 10],none,[]⟩,
⟨(some 12),.p .nilC,[.t 7],none,[]⟩,
⟨(some 13),.p (.fa 0),[.t 12],none,[]⟩,
⟨none,.w (.st 1),[.t 13,.t 11],none,[]⟩] false []) (.seq (.region [
⟨(some 14),.p .mv,[.t 0],none,[]⟩,
⟨(some 15),.p .nilC,[.t 14],none,[]⟩,
⟨(some 16),.p (.fa 0),[.t 15],none,[]⟩,
⟨(some 17),.r (.ld 1 false),[.t 16],none,[]⟩,
⟨(some 18),.p .mv,[.t 0],none,[]⟩,
⟨(some 19),.p (.eqP true),[.t 17,.t 18],none,[]⟩] false []) <|
 .cond (.t 19) (.region [
⟨none,.p .fail,[],none,[]⟩] false []) (.skip)), []⟩
structure D264 (T : Tab) : Prop where
  fn : T.fn 264 = some ir264
  pr : T.prim 264 = none
  p266 : T.prim 266 = some noEscPrim
/-- (*strings.Builder).WriteByte -/
def ir463 : AFunc := ⟨.seq (.region [
⟨(some 4),.p .mv,[.c .nilI],none,[]⟩] false []) <|
 .seq (.region [
⟨(some 5),.p .mv,[.t 0],none,[]⟩,
⟨(some 6),.w .call,[.c (.fn 264 [] []),.t 5],none,[]⟩] false []) <|
 .seq (.region [
⟨(some 7),.p .mv,[.t 0],none,[]⟩,
⟨(some 8),.p .mv,[.t 0],none,[]⟩,
⟨(some 9),.p .nilC,[.t 8],none,[]⟩,
⟨(some 10),.p (.fa 1),[.t 9],none,[]⟩,
⟨(some 11),.r (.ld 1 false),[.t 10],none,[]⟩,
⟨(some 12),.p .mv,[.t 1],none,[]⟩,
⟨(some 13),.w (.bsl 1 1 [(.int .u8 0)] [(0,1)]),[.t 12],none,[]⟩,
⟨(some 14),.w (.appT 5 1 1),[.t 11,.t 13],none,[]⟩,
⟨(some 15),.p .nilC,[.t 7],none,[]⟩,
⟨(some 16),.p (.fa 1),[.t 15],none,[]⟩,
⟨none,.w (.st 1),[.t 16,.t 14],none,[]⟩] false []) <|
 .seq (.region [
⟨(some 4),.p .mv,[.c .nilI],none,[]⟩] false []) <|
 .ret, [.tmp 4]⟩
structure D463 (T : Tab) : Prop where
  fn : T.fn 463 = some ir463
  pr : T.prim 463 = none
  d264 : D264 T
/-- (*strings.Builder).String -/
def ir261 : AFunc := ⟨.seq (.region [
⟨(some 2),.p .mv,[.c (.str [])],none,[]⟩] false []) <|
 .seq (.region [
⟨(some 3),.p .mv,[.t 0],none,[]⟩,
⟨(some 4),.p .nilC,[.t 3],none,[]⟩,
⟨(some 5),.p (.fa 1),[.t 4],none,[]⟩,
⟨(some 6),.r (.ld 1 false),[.t 5],none,[]⟩,
⟨(some 7),.p .sdata,[.t 6],none,[]⟩,
⟨(some 8),.p .mv,[.t 0],none,[]⟩,
⟨(some 9),.p .nilC,[.t 8],none,[]⟩,
⟨(some 10),.p (.fa 1),[.t 9],none,[]⟩,
⟨(some 11),.r (.ld 1 false),[.t 10],none,[]⟩,
⟨(some 12),.p .len,[.t 11],none,[]⟩,
⟨(some 13),.w (.ustr 5),[.t 7,.t 12],none,[]⟩,
⟨(some 2),.p .mv,[.t 13],none,[]⟩] true []) <|
 .ret, [.tmp 2]⟩
structure D261 (T : Tab) : Prop where
  fn : T.fn 261 = some ir261
  pr : T.prim 261 = none
/-- (motley/big.integer).text -/
def ir474 : AFunc := ⟨.seq (.region [
⟨(some 1),.w .box,[.t 0],none,[]⟩,
⟨(some 2),.p .mv,[.c (.str [])],none,[]⟩] false []) <|
 .seq (.seq (.region [
⟨(some 6),.p (.fa 1),[.t 1],none,[]⟩,
⟨(some 7),.r (.ld 1 false),[.t 6],none,[]⟩,
⟨(some 8),.p .len,[.t 7],none,[]⟩,
⟨(some 9),.p (.bin .eql),[.t 8,.c (.int .i64 0)],none,[]⟩] false []) <|
 .cond (.t 9) (.seq (.region [
⟨(some 2),.p .mv,[.c (.str [48])],none,[]⟩] false []) <|
 .ret) (.skip)) <|
 .seq (.region [
⟨(some 3),.w (.boxT 76),[.c (.agg [(.ptr none),(.slc none 0 0 none)])],none,[]⟩] false []) <|
 .seq (.seq (.region [
⟨(some 10),.p (.fa 0),[.t 1],none,[]⟩,
⟨(some 11),.r (.ld 1 false),[.t 10],none,[]⟩] false []) <|
 .cond (.t 11) (.region [
⟨(some 12),.w .call,[.c (.fn 463 [] []),.t 3,.c (.int .u8 45)],none,[]⟩] false []) (.skip)) <|
 .seq (.seq (.region [
⟨(some 13),.p (.fa 1),[.t 1],none,[]⟩,
⟨(some 14),.r (.ld 1 false),[.t 13],none,[]⟩,
⟨(some 15),.p .len,[.t 14],none,[]⟩,
⟨(some 16),.p .mv,[.c (.int .i64 0)],none,[]⟩] false []) <|
 .block 0 (.loop (.seq (.region [
⟨(some 17),.p (.bin .lss),[.t 16,.t 15],none,[]⟩] false []) <|
 .seq (.cond (.t 17) (.skip) (.exit 0)) <|
 .seq (.block 1 (.seq (.region [
⟨(some 18),.p (.ia 1),[.t 14,.t 16],none,[]⟩,
⟨(some 19),.r (.ld 1 false),[.t 18],none,[]⟩,
⟨(some 5),.p .mv,[.t 19],none,[]⟩] false []) <|
 .region [
⟨(some 20),.p .mv,[.t 5],none,[]⟩,
⟨(some 21),.p (.bin .add),[.c (.int .i64 48),.t 20],none,[]⟩,
⟨(some 22),.p (.conv .u8),[.t 21],none,[]⟩,
⟨(some 23),.w .call,[.c (.fn 463 [] []),.t 3,.t 22],none,[]⟩] false [])) <|
 .region [
⟨(some 24),.p (.bin .add),[.t 16,.c (.int .i64 1)],none,[]⟩,
⟨(some 16),.p .mv,[.t 24],none,[]⟩] false []))) <|
 .seq (.region [
⟨(some 25),.w .call,[.c (.fn 261 [] []),.t 3],none,[]⟩,
⟨(some 2),.p .mv,[.t 25],none,[]⟩] false []) <|
 .ret, [.tmp 2]⟩
structure D474 (T : Tab) : Prop where
  fn : T.fn 474 = some ir474
  pr : T.prim 474 = none
  d463 : D463 T
  d261 : D261 T
/-- motley/big.results -/
def ir467 : AFunc := ⟨.seq (.region [
⟨(some 2),.p .mv,[.c (.slc none 0 0 none)],none,[]⟩,
⟨(some 3),.p .mv,[.c (.int .i64 0)],none,[]⟩] false []) <|
 .seq (.region [
⟨(some 4),.p .mv,[.c (.slc none 0 0 none)],none,[]⟩] false []) <|
 .seq (.seq (.region [
⟨(some 7),.p .mv,[.t 0],none,[]⟩,
⟨(some 8),.p .len,[.t 7],none,[]⟩,
⟨(some 9),.p .mv,[.c (.int .i64 0)],none,[]⟩] false []) <|
 .block 0 (.loop (.seq (.region [
⟨(some 10),.p (.bin .lss),[.t 9,.t 8],none,[]⟩] false []) <|
 .seq (.cond (.t 10) (.skip) (.exit 0)) <|
 .seq (.block 1 (.seq (.region [
⟨(some 11),.p (.ia 2),[.t 7,.t 9],none,[]⟩,
⟨(some 12),.r (.ld 2 true),[.t 11],none,[]⟩,
⟨(some 6),.w .box,[.c (.agg [(.bool false),(.slc none 0 0 none)])],none,[]⟩,
⟨none,.w (.st 2),[.t 6,.t 12],none,[]⟩] false []) <|
 .seq (.seq (.region [
⟨(some 13),.p (.fa 1),[.t 6],none,[]⟩,
⟨(some 14),.r (.ld 1 false),[.t 13],none,[]⟩,
⟨(some 15),.p .len,[.t 14],none,[]⟩,
⟨(some 16),.p (.bin .gtr),[.t 15,.c (.int .i64 400)],none,[]⟩] false []) <|
 .cond (.t 16) (.seq (.region [
⟨(some 17),.p .mv,[.t 0],none,[]⟩,
⟨(some 18),.p .len,[.t 17],none,[]⟩,
⟨(some 19),.w (.mks 16 [(.str [])]),[.t 18,.t 18],none,[]⟩,
⟨(some 2),.p .mv,[.t 19],none,[]⟩,
⟨(some 3),.p .mv,[.c (.int .i64 3)],none,[]⟩] false []) <|
 .ret) (.skip)) <|
 .region [
⟨(some 20),.p .mv,[.t 4],none,[]⟩,
⟨(some 21),.r (.ld 2 true),[.t 6],none,[]⟩,
⟨(some 22),.w .call,[.c (.fn 474 [] []),.t 21],none,[]⟩,
⟨(some 23),.w (.bsl 1 1 [(.str [])] [(0,1)]),[.t 22],none,[]⟩,
⟨(some 24),.w (.app 1 16),[.t 20,.t 23],none,[]⟩,
⟨(some 4),.p .mv,[.t 24],none,[]⟩] false [])) <|
 .region [
⟨(some 25),.p (.bin .add),[.t 9,.c (.int .i64 1)],none,[]⟩,
⟨(some 9),.p .mv,[.t 25],none,[]⟩] false []))) <|
 .seq (.region [
⟨(some 26),.p .mv,[.t 4],none,[]⟩,
⟨(some 2),.p .mv,[.t 26],none,[]⟩,
⟨(some 3),.p .mv,[.c (.int .i64 0)],none,[]⟩] false []) <|
 .ret, [.tmp 2,.tmp 3]⟩
structure D467 (T : Tab) : Prop where
  fn : T.fn 467 = some ir467
  pr : T.prim 467 = none
  d474 : D474 T
/-- motley/big.Div -/
def ir416 : AFunc := ⟨.seq (.region [
⟨(some 4),.p .mv,[.c (.str [])],none,[]⟩,
⟨(some 5),.p .mv,[.c (.str [])],none,[]⟩,
⟨(some 6),.p .mv,[.c (.int .i64 0)],none,[]⟩] false []) <|
 .seq (.region [
⟨(some 13),.p .mv,[.t 0],none,[]⟩,
⟨(some 14),.p .mv,[.t 1],none,[]⟩,
⟨(some 15),.w (.bsl 1 2 [(.str []),(.str [])] [(0,1),(1,1)]),[.t 13,.t 14],none,[]⟩,
⟨(some 16),.w .call,[.c (.fn 456 [] []),.t 15],none,[]⟩,
⟨(some 12),.p .mv,[.t 16],none,[]⟩,
⟨(some 17),.p (.ext 0),[.t 12],none,[]⟩,
⟨(some 18),.p (.ext 1),[.t 12],none,[]⟩,
⟨(some 7),.p .mv,[.t 17],none,[]⟩,
⟨(some 8),.p .mv,[.t 18],none,[]⟩] false []) <|
 .seq (.seq (.region [
⟨(some 19),.p .mv,[.t 8],none,[]⟩,
⟨(some 20),.p (.bin .neq),[.t 19,.c (.int .i64 0)],none,[]⟩] false []) <|
 .cond (.t 20) (.seq (.region [
⟨(some 21),.p .mv,[.t 8],none,[]⟩,
⟨(some 4),.p .mv,[.c (.str [])],none,[]⟩,
⟨(some 5),.p .mv,[.c (.str [])],none,[]⟩,
⟨(some 6),.p .mv,[.t 21],none,[]⟩] false []) <|
 .ret) (.skip)) <|
 .seq (.seq (.region [
⟨(some 22),.p .mv,[.t 7],none,[]⟩,
⟨(some 23),.p (.ia 2),[.t 22,.c (.int .i64 1)],none,[]⟩,
⟨(some 24),.p (.fa 1),[.t 23],none,[]⟩,
⟨(some 25),.r (.ld 1 false),[.t 24],none,[]⟩,
⟨(some 26),.p .len,[.t 25],none,[]⟩,
⟨(some 27),.p (.bin .eql),[.t 26,.c (.int .i64 0)],none,[]⟩] false []) <|
 .cond (.t 27) (.seq (.region [
⟨(some 4),.p .mv,[.c (.str [])],none,[]⟩,
⟨(some 5),.p .mv,[.c (.str [])],none,[]⟩,
⟨(some 6),.p .mv,[.c (.int .i64 1)],none,[]⟩] false []) <|
 .ret) (.skip)) <|
 .seq (.region [
⟨(some 29),.p .mv,[.t 7],none,[]⟩,
⟨(some 30),.p (.ia 2),[.t 29,.c (.int .i64 0)],none,[]⟩,
⟨(some 31),.r (.ld 2 true),[.t 30],none,[]⟩,
⟨(some 32),.p .mv,[.t 7],none,[]⟩,
⟨(some 33),.p (.ia 2),[.t 32,.c (.int .i64 1)],none,[]⟩,
⟨(some 34),.r (.ld 2 true),[.t 33],none,[]⟩,
⟨(some 35),.w .call,[.c (.fn 466 [] []),.t 31,.t 34],none,[]⟩,
⟨(some 28),.p .mv,[.t 35],none,[]⟩,
⟨(some 36),.p (.ext 0),[.t 28],none,[]⟩,
⟨(some 37),.p (.ext 1),[.t 28],none,[]⟩,
⟨(some 9),.w .box,[.c (.agg [(.bool false),(.slc none 0 0 none)])],none,[]⟩,
⟨(some 10),.w .box,[.c (.agg [(.bool false),(.slc none 0 0 none)])],none,[]⟩,
⟨none,.w (.st 2),[.t 9,.t 36],none,[]⟩,
⟨none,.w (.st 2),[.t 10,.t 37],none,[]⟩] true [(2,10),(5,10),(2,11),(5,11)]) <|
 .seq (.region [
⟨(some 39),.r (.ld 2 true),[.t 9],none,[]⟩,
⟨(some 40),.r (.ld 2 true),[.t 10],none,[]⟩,
⟨(some 41),.w (.bsl 2 2 [(.bool false),(.slc none 0 0 none),(.bool false),(.slc none 0 0 none)] [(0,2),(2,2)]),[.t 39,.t 40],none,[]⟩,
⟨(some 42),.w .call,[.c (.fn 467 [] []),.t 41],none,[]⟩,
⟨(some 38),.p .mv,[.t 42],none,[]⟩,
⟨(some 43),.p (.ext 0),[.t 38],none,[]⟩,
⟨(some 44),.p (.ext 1),[.t 38],none,[]⟩,
⟨(some 11),.p .mv,[.t 43],none,[]⟩,
⟨(some 8),.p .mv,[.t 44],none,[]⟩] false []) <|
 .seq (.region [
⟨(some 45),.p .mv,[.t 11],none,[]⟩,
⟨(some 46),.p (.ia 1),[.t 45,.c (.int .i64 0)],none,[]⟩,
⟨(some 47),.r (.ld 1 false),[.t 46],none,[]⟩,
⟨(some 48),.p .mv,[.t 11],none,[]⟩,
⟨(some 49),.p (.ia 1),[.t 48,.c (.int .i64 1)],none,[]⟩,
⟨(some 50),.r (.ld 1 false),[.t 49],none,[]⟩,
⟨(some 51),.p .mv,[.t 8],none,[]⟩,
⟨(some 4),.p .mv,[.t 47],none,[]⟩,
⟨(some 5),.p .mv,[.t 50],none,[]⟩,
⟨(some 6),.p .mv,[.t 51],none,[]⟩] true []) <|
 .ret, [.tmp 4,.tmp 5,.tmp 6]⟩
structure D416 (T : Tab) : Prop where
  fn : T.fn 416 = some ir416
  pr : T.prim 416 = none
  d456 : D456 T
  d466 : D466 T
  d467 : D467 T
/-- slices.Backward[[]int,int]$1 -/
def ir503 : AFunc := ⟨.seq (.region [
⟨(some 4),.r (.ld 1 false),[.t 1],none,[]⟩,
⟨(some 5),.p .len,[.t 4],none,[]⟩,
⟨(some 6),.p (.bin .sub),[.t 5,.c (.int .i64 1)],none,[]⟩,
⟨(some 3),.p .mv,[.t 6],none,[]⟩] false []) <|
 .block 0 (.loop (.seq (.seq (.region [
⟨(some 7),.p .mv,[.t 3],none,[]⟩,
⟨(some 8),.p (.bin .geq),[.t 7,.c (.int .i64 0)],none,[]⟩] false []) <|
 .cond (.t 8) (.skip) (.exit 0)) <|
 .seq (.block 1 (.seq (.region [
⟨(some 11),.p .mv,[.t 0],none,[]⟩,
⟨(some 12),.p .mv,[.t 3],none,[]⟩,
⟨(some 13),.r (.ld 1 false),[.t 1],none,[]⟩,
⟨(some 14),.p .mv,[.t 3],none,[]⟩,
⟨(some 15),.p (.ia 1),[.t 13,.t 14],none,[]⟩,
⟨(some 16),.r (.ld 1 false),[.t 15],none,[]⟩,
⟨(some 17),.w .call,[.t 11,.t 12,.t 16],none,[]⟩,
⟨(some 18),.p (.un .not),[.t 17],none,[]⟩] false []) <|
 .cond (.t 18) (.ret) (.skip))) <|
 .region [
⟨(some 9),.p .mv,[.t 3],none,[]⟩,
⟨(some 10),.p (.bin .sub),[.t 9,.c (.int .i64 1)],none,[]⟩,
⟨(some 3),.p .mv,[.t 10],none,[]⟩] false [])), []⟩
structure D503 (T : Tab) : Prop where
  fn : T.fn 503 = some ir503
  pr : T.prim 503 = none
/-- slices.Backward[[]int,int] -/
def ir497 : AFunc := ⟨.seq (.region [
⟨(some 1),.w .box,[.t 0],none,[]⟩,
⟨(some 2),.p .mv,[.c .nilFn],none,[]⟩] false []) <|
 .seq (.region [
⟨(some 3),.p (.mkF 503 0),[.t 1],none,[]⟩,
⟨(some 2),.p .mv,[.t 3],none,[]⟩] false []) <|
 .ret, [.tmp 2]⟩
structure D497 (T : Tab) : Prop where
  fn : T.fn 497 = some ir497
  pr : T.prim 497 = none
  d503 : D503 T
/-- (motley/big.nat).mul -/
def ir478 : AFunc := ⟨.seq (.region [
⟨(some 4),.p .mv,[.c (.slc none 0 0 none)],none,[]⟩] false []) <|
 .seq (.region [
⟨(some 14),.p .mv,[.t 0],none,[]⟩,
⟨(some 15),.p .len,[.t 14],none,[]⟩,
⟨(some 16),.p .mv,[.t 1],none,[]⟩,
⟨(some 17),.p .len,[.t 16],none,[]⟩,
⟨(some 18),.p (.bin .add),[.t 15,.t 17],none,[]⟩,
⟨(some 19),.w (.mks 8 [(.int .i64 0)]),[.t 18,.t 18],none,[]⟩,
⟨(some 5),.w .box,[.c (.slc none 0 0 none)],none,[]⟩,
⟨none,.w (.st 1),[.t 5,.t 19],none,[]⟩] false []) <|
 .seq (.seq (.region [
⟨(some 20),.p .mv,[.t 0],none,[]⟩,
⟨(some 21),.p .len,[.t 20],none,[]⟩,
⟨(some 22),.p .mv,[.c (.int .i64 0)],none,[]⟩] false []) <|
 .block 0 (.loop (.seq (.region [
⟨(some 23),.p (.bin .lss),[.t 22,.t 21],none,[]⟩] false []) <|
 .seq (.cond (.t 23) (.skip) (.exit 0)) <|
 .seq (.block 1 (.seq (.region [
⟨(some 24),.p .mv,[.t 22],none,[]⟩,
⟨(some 25),.p (.ia 1),[.t 20,.t 22],none,[]⟩,
⟨(some 26),.r (.ld 1 false),[.t 25],none,[]⟩,
⟨(some 6),.p .mv,[.t 24],none,[]⟩,
⟨(some 7),.p .mv,[.t 26],none,[]⟩] false []) <|
 .seq (.region [
⟨(some 27),.p .mv,[.t 1],none,[]⟩,
⟨(some 28),.p .len,[.t 27],none,[]⟩,
⟨(some 29),.p .mv,[.c (.int .i64 0)],none,[]⟩] false []) <|
 .block 2 (.loop (.seq (.region [
⟨(some 30),.p (.bin .lss),[.t 29,.t 28],none,[]⟩] false []) <|
 .seq (.cond (.t 30) (.skip) (.exit 2)) <|
 .seq (.block 3 (.seq (.region [
⟨(some 31),.p .mv,[.t 29],none,[]⟩,
⟨(some 32),.p (.ia 1),[.t 27,.t 29],none,[]⟩,
⟨(some 33),.r (.ld 1 false),[.t 32],none,[]⟩,
⟨(some 8),.p .mv,[.t 31],none,[]⟩,
⟨(some 9),.p .mv,[.t 33],none,[]⟩] false []) <|
 .region [
⟨(some 34),.r (.ld 1 false),[.t 5],none,[]⟩,
⟨(some 35),.p .mv,[.t 6],none,[]⟩,
⟨(some 36),.p .mv,[.t 8],none,[]⟩,
⟨(some 37),.p (.bin .add),[.t 35,.t 36],none,[]⟩,
⟨(some 38),.p (.bin .add),[.t 37,.c (.int .i64 1)],none,[]⟩,
⟨(some 39),.p (.ia 1),[.t 34,.t 38],none,[]⟩,
⟨(some 40),.r (.ld 1 false),[.t 39],none,[]⟩,
⟨(some 41),.p .mv,[.t 7],none,[]⟩,
⟨(some 42),.p .mv,[.t 9],none,[]⟩,
⟨(some 43),.p (.bin .mul),[.t 41,.t 42],none,[]⟩,
⟨(some 44),.p (.bin .add),[.t 40,.t 43],none,[]⟩,
⟨(some 45),.p (.ia 1),[.t 34,.t 38],none,[]⟩,
⟨none,.w (.st 1),[.t 45,.t 44],none,[]⟩] false [])) <|
 .region [
⟨(some 46),.p (.bin .add),[.t 29,.c (.int .i64 1)],none,[]⟩,
⟨(some 29),.p .mv,[.t 46],none,[]⟩] false [])))) <|
 .region [
⟨(some 47),.p (.bin .add),[.t 22,.c (.int .i64 1)],none,[]⟩,
⟨(some 22),.p .mv,[.t 47],none,[]⟩] false []))) <|
 .seq (.region [
⟨(some 10),.w .box,[.c (.int .i64 0)],none,[]⟩,
⟨none,.w (.st 1),[.t 10,.c (.int .i64 0)],none,[]⟩] false []) <|
 .seq (.region [
⟨(some 48),.r (.ld 1 false),[.t 5],none,[]⟩,
⟨(some 49),.p .len,[.t 48],none,[]⟩,
⟨(some 50),.w (.mks 8 [(.int .i64 0)]),[.t 49,.t 49],none,[]⟩,
⟨(some 11),.w .box,[.c (.slc none 0 0 none)],none,[]⟩,
⟨none,.w (.st 1),[.t 11,.t 50],none,[]⟩] false []) <|
 .seq (.seq (.region [
⟨(some 51),.r (.ld 1 false),[.t 5],none,[]⟩,
⟨(some 52),.w .call,[.c (.fn 497 [] []),.t 51],none,[]⟩] false []) <|
 .block 4 (.rngf (.t 52) [53,54] (.region [
⟨(some 12),.p .mv,[.t 53],none,[]⟩] false []) (.block 5 (.seq (.region [
⟨(some 55),.r (.ld 1 false),[.t 5],none,[]⟩,
⟨(some 56),.p .mv,[.t 12],none,[]⟩,
⟨(some 57),.p (.ia 1),[.t 55,.t 56],none,[]⟩,
⟨(some 58),.r (.ld 1 false),[.t 57],none,[]⟩,
⟨(some 59),.r (.ld 1 false),[.t 10],none,[]⟩,
⟨(some 60),.p (.bin .add),[.t 58,.t 59],none,[]⟩,
⟨(some 13),.p .mv,[.t 60],none,[]⟩] true []) <|
 .region [
⟨(some 61),.r (.ld 1 false),[.t 11],none,[]⟩,
⟨(some 62),.p .mv,[.t 12],none,[]⟩,
⟨(some 63),.p .mv,[.t 13],none,[]⟩,
⟨(some 64),.p (.bin .rem),[.t 63,.c (.int .i64 10)],none,[]⟩,
⟨(some 65),.p .mv,[.t 13],none,[]⟩,
⟨(some 66),.p (.bin .quo),[.t 65,.c (.int .i64 10)],none,[]⟩,
⟨(some 67),.p (.ia 1),[.t 61,.t 62],none,[]⟩,
⟨none,.w (.st 1),[.t 67,.t 64],none,[]⟩,
⟨none,.w (.st 1),[.t 10,.t 66],none,[]⟩] false [])))) <|
 .seq (.region [
⟨(some 68),.r (.ld 1 false),[.t 11],none,[]⟩,
⟨(some 69),.w .call,[.c (.fn 458 [] []),.t 68],none,[]⟩,
⟨(some 4),.p .mv,[.t 69],none,[]⟩] false []) <|
 .ret, [.tmp 4]⟩
structure D478 (T : Tab) : Prop where
  fn : T.fn 478 = some ir478
  pr : T.prim 478 = none
  d497 : D497 T
  d458 : D458 T
/-- (motley/big.integer).times -/
def ir468 : AFunc := ⟨.seq (.region [
⟨(some 2),.w .box,[.t 0],none,[]⟩,
⟨(some 3),.w .box,[.t 1],none,[]⟩,
⟨(some 4),.w .box,[.c (.agg [(.bool false),(.slc none 0 0 none)])],none,[]⟩] false []) <|
 .seq (.region [
⟨(some 5),.p (.fa 0),[.t 2],none,[]⟩,
⟨(some 6),.r (.ld 1 false),[.t 5],none,[]⟩,
⟨(some 7),.p (.fa 0),[.t 3],none,[]⟩,
⟨(some 8),.r (.ld 1 false),[.t 7],none,[]⟩,
⟨(some 9),.p (.eqB true),[.t 6,.t 8],none,[]⟩,
⟨(some 10),.p (.fa 1),[.t 2],none,[]⟩,
⟨(some 11),.r (.ld 1 false),[.t 10],none,[]⟩,
⟨(some 12),.p (.fa 1),[.t 3],none,[]⟩,
⟨(some 13),.r (.ld 1 false),[.t 12],none,[]⟩,
⟨(some 14),.w .call,[.c (.fn 478 [] []),.t 11,.t 13],none,[]⟩,
⟨(some 15),.w .call,[.c (.fn 473 [] []),.t 9,.t 14],none,[]⟩,
⟨none,.w (.st 2),[.t 4,.t 15],none,[]⟩] true [(1,9),(3,9)]) <|
 .ret, [.cell 4 2 true]⟩
structure D468 (T : Tab) : Prop where
  fn : T.fn 468 = some ir468
  pr : T.prim 468 = none
  d478 : D478 T
  d473 : D473 T
/-- (motley/big.integer).minus -/
def ir481 : AFunc := ⟨.seq (.region [
⟨(some 1),.w .box,[.t 0],none,[]⟩,
⟨(some 2),.w .box,[.c (.agg [(.bool false),(.slc none 0 0 none)])],none,[]⟩] false []) <|
 .seq (.region [
⟨(some 3),.p (.fa 0),[.t 1],none,[]⟩,
⟨(some 4),.r (.ld 1 false),[.t 3],none,[]⟩,
⟨(some 5),.p (.un .not),[.t 4],none,[]⟩,
⟨(some 6),.p (.fa 1),[.t 1],none,[]⟩,
⟨(some 7),.r (.ld 1 false),[.t 6],none,[]⟩,
⟨(some 8),.w .call,[.c (.fn 473 [] []),.t 5,.t 7],none,[]⟩,
⟨none,.w (.st 2),[.t 2,.t 8],none,[]⟩] false []) <|
 .ret, [.cell 2 2 true]⟩
structure D481 (T : Tab) : Prop where
  fn : T.fn 481 = some ir481
  pr : T.prim 481 = none
  d473 : D473 T
/-- (motley/big.pair).next -/
def ir500 : AFunc := ⟨.seq (.region [
⟨(some 2),.w .box,[.t 0],none,[]⟩,
⟨(some 3),.w .box,[.t 1],none,[]⟩,
⟨(some 4),.w .box,[.c (.agg [(.bool false),(.slc none 0 0 none),(.bool false),(.slc none 0 0 none)])],none,[]⟩] false []) <|
 .seq (.region [
⟨(some 5),.p (.fa 2),[.t 2],none,[]⟩,
⟨(some 6),.r (.ld 2 true),[.t 5],none,[]⟩,
⟨(some 7),.p (.fa 0),[.t 2],none,[]⟩,
⟨(some 8),.r (.ld 2 true),[.t 7],none,[]⟩,
⟨(some 9),.r (.ld 2 true),[.t 3],none,[]⟩,
⟨(some 10),.p (.fa 2),[.t 2],none,[]⟩,
⟨(some 11),.r (.ld 2 true),[.t 10],none,[]⟩,
⟨(some 12),.w .call,[.c (.fn 468 [] []),.t 9,.t 11],none,[]⟩,
⟨(some 13),.w .call,[.c (.fn 481 [] []),.t 12],none,[]⟩,
⟨(some 14),.w .call,[.c (.fn 470 [] []),.t 8,.t 13],none,[]⟩,
⟨(some 15),.p (.bld [(.bool false),(.slc none 0 0 none),(.bool false),(.slc none 0 0 none)] [(0,2),(2,2)]),[.t 6,.t 14],none,[]⟩,
⟨none,.w (.st 4),[.t 4,.t 15],none,[]⟩] true [(1,7),(3,7),(1,8),(3,8),(1,9)]) <|
 .ret, [.cell 4 4 true]⟩
structure D500 (T : Tab) : Prop where
  fn : T.fn 500 = some ir500
  pr : T.prim 500 = none
  d468 : D468 T
  d481 : D481 T
  d470 : D470 T
/-- motley/big.gcd -/
def ir486 : AFunc := ⟨.seq (.region [
⟨(some 2),.w .box,[.t 0],none,[]⟩,
⟨(some 3),.w .box,[.t 1],none,[]⟩,
⟨(some 4),.w .box,[.c (.agg [(.bool false),(.slc none 0 0 none)])],none,[]⟩,
⟨(some 5),.w .box,[.c (.agg [(.bool false),(.slc none 0 0 none)])],none,[]⟩,
⟨(some 6),.w .box,[.c (.agg [(.bool false),(.slc none 0 0 none)])],none,[]⟩] false []) <|
 .seq (.region [
⟨(some 12),.r (.ld 2 true),[.t 2],none,[]⟩,
⟨(some 13),.r (.ld 2 true),[.t 3],none,[]⟩,
⟨(some 14),.p (.bld [(.bool false),(.slc none 0 0 none),(.bool false),(.slc none 0 0 none)] [(0,2),(2,2)]),[.t 12,.t 13],none,[]⟩,
⟨(some 15),.w .call,[.c (.fn 487 [] []),.c (.int .i64 1)],none,[]⟩,
⟨(some 16),.w .call,[.c (.fn 487 [] []),.c (.int .i64 0)],none,[]⟩,
⟨(some 17),.p (.bld [(.bool false),(.slc none 0 0 none),(.bool false),(.slc none 0 0 none)] [(0,2),(2,2)]),[.t 15,.t 16],none,[]⟩,
⟨(some 18),.w .call,[.c (.fn 487 [] []),.c (.int .i64 0)],none,[]⟩,
⟨(some 19),.w .call,[.c (.fn 487 [] []),.c (.int .i64 1)],none,[]⟩,
⟨(some 20),.p (.bld [(.bool false),(.slc none 0 0 none),(.bool false),(.slc none 0 0 none)] [(0,2),(2,2)]),[.t 18,.t 19],none,[]⟩,
⟨(some 7),.w .box,[.c (.agg [(.bool false),(.slc none 0 0 none),(.bool false),(.slc none 0 0 none)])],none,[]⟩,
⟨(some 8),.w .box,[.c (.agg [(.bool false),(.slc none 0 0 none),(.bool false),(.slc none 0 0 none)])],none,[]⟩,
⟨(some 9),.w .box,[.c (.agg [(.bool false),(.slc none 0 0 none),(.bool false),(.slc none 0 0 none)])],none,[]⟩,
⟨none,.w (.st 4),[.t 7,.t 14],none,[]⟩,
⟨none,.w (.st 4),[.t 8,.t 17],none,[]⟩,
⟨none,.w (.st 4),[.t 9,.t 20],none,[]⟩] true [(0,3),(1,3),(0,4),(1,4),(0,6),(1,6),(0,7),(1,7),(0,9),(1,9),(0,10),(1,10),(0,11),(1,11)]) <|
 .seq (.block 0 (.loop (.seq (.seq (.region [
⟨(some 21),.p (.fa 2),[.t 7],none,[]⟩,
⟨(some 22),.p (.fa 1),[.t 21],none,[]⟩,
⟨(some 23),.r (.ld 1 false),[.t 22],none,[]⟩,
⟨(some 24),.p .len,[.t 23],none,[]⟩,
⟨(some 25),.p (.bin .gtr),[.t 24,.c (.int .i64 0)],none,[]⟩] false []) <|
 .cond (.t 25) (.skip) (.exit 0)) <|
 .block 1 (.seq (.region [
⟨(some 27),.p (.fa 0),[.t 7],none,[]⟩,
⟨(some 28),.r (.ld 2 true),[.t 27],none,[]⟩,
⟨(some 29),.p (.fa 2),[.t 7],none,[]⟩,
⟨(some 30),.r (.ld 2 true),[.t 29],none,[]⟩,
⟨(some 31),.w .call,[.c (.fn 466 [] []),.t 28,.t 30],none,[]⟩,
⟨(some 26),.p .mv,[.t 31],none,[]⟩,
⟨(some 32),.p (.ext 0),[.t 26],none,[]⟩,
⟨(some 33),.p (.ext 1),[.t 26],none,[]⟩,
⟨(some 10),.w .box,[.c (.agg [(.bool false),(.slc none 0 0 none)])],none,[]⟩,
⟨(some 11),.w .box,[.c (.agg [(.bool false),(.slc none 0 0 none)])],none,[]⟩,
⟨none,.w (.st 2),[.t 10,.t 32],none,[]⟩,
⟨none,.w (.st 2),[.t 11,.t 33],none,[]⟩] false []) <|
 .region [
⟨(some 34),.r (.ld 4 true),[.t 7],none,[]⟩,
⟨(some 35),.r (.ld 2 true),[.t 10],none,[]⟩,
⟨(some 36),.w .call,[.c (.fn 500 [] []),.t 34,.t 35],none,[]⟩,
⟨(some 37),.r (.ld 4 true),[.t 8],none,[]⟩,
⟨(some 38),.r (.ld 2 true),[.t 10],none,[]⟩,
⟨(some 39),.w .call,[.c (.fn 500 [] []),.t 37,.t 38],none,[]⟩,
⟨(some 40),.r (.ld 4 true),[.t 9],none,[]⟩,
⟨(some 41),.r (.ld 2 true),[.t 10],none,[]⟩,
⟨(some 42),.w .call,[.c (.fn 500 [] []),.t 40,.t 41],none,[]⟩,
⟨none,.w (.st 4),[.t 7,.t 36],none,[]⟩,
⟨none,.w (.st 4),[.t 8,.t 39],none,[]⟩,
⟨none,.w (.st 4),[.t 9,.t 42],none,[]⟩] true [(3,2),(4,2),(6,2),(6,5),(7,2),(7,5)])))) <|
 .seq (.seq (.region [
⟨(some 43),.p (.fa 0),[.t 7],none,[]⟩,
⟨(some 44),.p (.fa 0),[.t 43],none,[]⟩,
⟨(some 45),.r (.ld 1 false),[.t 44],none,[]⟩] false []) <|
 .cond (.t 45) (.seq (.region [
⟨(some 46),.p (.fa 0),[.t 7],none,[]⟩,
⟨(some 47),.r (.ld 2 true),[.t 46],none,[]⟩,
⟨(some 48),.w .call,[.c (.fn 481 [] []),.t 47],none,[]⟩,
⟨(some 49),.p (.fa 0),[.t 8],none,[]⟩,
⟨(some 50),.r (.ld 2 true),[.t 49],none,[]⟩,
⟨(some 51),.w .call,[.c (.fn 481 [] []),.t 50],none,[]⟩,
⟨(some 52),.p (.fa 0),[.t 9],none,[]⟩,
⟨(some 53),.r (.ld 2 true),[.t 52],none,[]⟩,
⟨(some 54),.w .call,[.c (.fn 481 [] []),.t 53],none,[]⟩,
⟨none,.w (.st 2),[.t 4,.t 48],none,[]⟩,
⟨none,.w (.st 2),[.t 5,.t 51],none,[]⟩,
⟨none,.w (.st 2),[.t 6,.t 54],none,[]⟩] true [(4,2),(7,2),(7,5)]) <|
 .ret) (.skip)) <|
 .seq (.region [
⟨(some 55),.p (.fa 0),[.t 7],none,[]⟩,
⟨(some 56),.r (.ld 2 true),[.t 55],none,[]⟩,
⟨(some 57),.p (.fa 0),[.t 8],none,[]⟩,
⟨(some 58),.r (.ld 2 true),[.t 57],none,[]⟩,
⟨(some 59),.p (.fa 0),[.t 9],none,[]⟩,
⟨(some 60),.r (.ld 2 true),[.t 59],none,[]⟩,
⟨none,.w (.st 2),[.t 4,.t 56],none,[]⟩,
⟨none,.w (.st 2),[.t 5,.t 58],none,[]⟩,
⟨none,.w (.st 2),[.t 6,.t 60],none,[]⟩] true [(3,6),(5,6),(5,7)]) <|
 .ret, [.cell 4 2 true,.cell 5 2 true,.cell 6 2 true]⟩
structure D486 (T : Tab) : Prop where
  fn : T.fn 486 = some ir486
  pr : T.prim 486 = none
  d487 : D487 T
  d466 : D466 T
  d500 : D500 T
  d481 : D481 T
/-- motley/big.Gcd -/
def ir436 : AFunc := ⟨.seq (.region [
⟨(some 4),.p .mv,[.c (.str [])],none,[]⟩,
⟨(some 5),.p .mv,[.c (.str [])],none,[]⟩,
⟨(some 6),.p .mv,[.c (.str [])],none,[]⟩,
⟨(some 7),.p .mv,[.c (.int .i64 0)],none,[]⟩] false []) <|
 .seq (.region [
⟨(some 12),.p .mv,[.t 0],none,[]⟩,
⟨(some 13),.p .mv,[.t 1],none,[]⟩,
⟨(some 14),.w (.bsl 1 2 [(.str []),(.str [])] [(0,1),(1,1)]),[.t 12,.t 13],none,[]⟩,
⟨(some 15),.w .call,[.c (.fn 456 [] []),.t 14],none,[]⟩,
⟨(some 11),.p .mv,[.t 15],none,[]⟩,
⟨(some 16),.p (.ext 0),[.t 11],none,[]⟩,
⟨(some 17),.p (.ext 1),[.t 11],none,[]⟩,
⟨(some 8),.p .mv,[.t 16],none,[]⟩,
⟨(some 9),.p .mv,[.t 17],none,[]⟩] false []) <|
 .seq (.seq (.region [
⟨(some 18),.p .mv,[.t 9],none,[]⟩,
⟨(some 19),.p (.bin .neq),[.t 18,.c (.int .i64 0)],none,[]⟩] false []) <|
 .cond (.t 19) (.seq (.region [
⟨(some 20),.p .mv,[.t 9],none,[]⟩,
⟨(some 4),.p .mv,[.c (.str [])],none,[]⟩,
⟨(some 5),.p .mv,[.c (.str [])],none,[]⟩,
⟨(some 6),.p .mv,[.c (.str [])],none,[]⟩,
⟨(some 7),.p .mv,[.t 20],none,[]⟩] false []) <|
 .ret) (.skip)) <|
 .seq (.region [
⟨(some 22),.p .mv,[.t 8],none,[]⟩,
⟨(some 23),.p (.ia 2),[.t 22,.c (.int .i64 0)],none,[]⟩,
⟨(some 24),.r (.ld 2 true),[.t 23],none,[]⟩,
⟨(some 25),.p .mv,[.t 8],none,[]⟩,
⟨(some 26),.p (.ia 2),[.t 25,.c (.int .i64 1)],none,[]⟩,
⟨(some 27),.r (.ld 2 true),[.t 26],none,[]⟩,
⟨(some 28),.w .call,[.c (.fn 486 [] []),.t 24,.t 27],none,[]⟩,
⟨(some 29),.p (.ext 0),[.t 28],none,[]⟩,
⟨(some 30),.p (.ext 1),[.t 28],none,[]⟩,
⟨(some 31),.p (.ext 2),[.t 28],none,[]⟩,
⟨(some 32),.w (.bsl 2 3 [(.bool false),(.slc none 0 0 none),(.bool false),(.slc none 0 0 none),(.bool false),(.slc none 0 0 none)] [(0,2),(2,2),(4,2)]),[.t 29,.t 30,.t 31],none,[]⟩,
⟨(some 33),.w .call,[.c (.fn 467 [] []),.t 32],none,[]⟩,
⟨(some 21),.p .mv,[.t 33],none,[]⟩,
⟨(some 34),.p (.ext 0),[.t 21],none,[]⟩,
⟨(some 35),.p (.ext 1),[.t 21],none,[]⟩,
⟨(some 10),.p .mv,[.t 34],none,[]⟩,
⟨(some 9),.p .mv,[.t 35],none,[]⟩] true []) <|
 .seq (.region [
⟨(some 36),.p .mv,[.t 10],none,[]⟩,
⟨(some 37),.p (.ia 1),[.t 36,.c (.int .i64 0)],none,[]⟩,
⟨(some 38),.r (.ld 1 false),[.t 37],none,[]⟩,
⟨(some 39),.p .mv,[.t 10],none,[]⟩,
⟨(some 40),.p (.ia 1),[.t 39,.c (.int .i64 1)],none,[]⟩,
⟨(some 41),.r (.ld 1 false),[.t 40],none,[]⟩,
⟨(some 42),.p .mv,[.t 10],none,[]⟩,
⟨(some 43),.p (.ia 1),[.t 42,.c (.int .i64 2)],none,[]⟩,
⟨(some 44),.r (.ld 1 false),[.t 43],none,[]⟩,
⟨(some 45),.p .mv,[.t 9],none,[]⟩,
⟨(some 4),.p .mv,[.t 38],none,[]⟩,
⟨(some 5),.p .mv,[.t 41],none,[]⟩,
⟨(some 6),.p .mv,[.t 44],none,[]⟩,
⟨(some 7),.p .mv,[.t 45],none,[]⟩] true []) <|
 .ret, [.tmp 4,.tmp 5,.tmp 6,.tmp 7]⟩
structure D436 (T : Tab) : Prop where
  fn : T.fn 436 = some ir436
  pr : T.prim 436 = none
  d456 : D456 T
  d486 : D486 T
  d467 : D467 T
/-- motley/big.Fraction -/
def ir414 : AFunc := ⟨.seq (.region [
⟨(some 6),.p .mv,[.c (.str [])],none,[]⟩,
⟨(some 7),.p .mv,[.c (.int .i64 0)],none,[]⟩] false []) <|
 .seq (.region [
⟨(some 18),.p .mv,[.t 0],none,[]⟩,
⟨(some 19),.p .mv,[.t 1],none,[]⟩,
⟨(some 20),.w (.bsl 1 2 [(.str []),(.str [])] [(0,1),(1,1)]),[.t 18,.t 19],none,[]⟩,
⟨(some 21),.w .call,[.c (.fn 456 [] []),.t 20],none,[]⟩,
⟨(some 17),.p .mv,[.t 21],none,[]⟩,
⟨(some 22),.p (.ext 0),[.t 17],none,[]⟩,
⟨(some 23),.p (.ext 1),[.t 17],none,[]⟩,
⟨(some 8),.p .mv,[.t 22],none,[]⟩,
⟨(some 9),.p .mv,[.t 23],none,[]⟩] false []) <|
 .seq (.seq (.region [
⟨(some 24),.p .mv,[.t 9],none,[]⟩,
⟨(some 25),.p (.bin .neq),[.t 24,.c (.int .i64 0)],none,[]⟩] false []) <|
 .cond (.t 25) (.seq (.region [
⟨(some 26),.p .mv,[.t 9],none,[]⟩,
⟨(some 6),.p .mv,[.c (.str [])],none,[]⟩,
⟨(some 7),.p .mv,[.t 26],none,[]⟩] false []) <|
 .ret) (.skip)) <|
 .seq (.seq (.region [
⟨(some 27),.p .mv,[.t 8],none,[]⟩,
⟨(some 28),.p (.ia 2),[.t 27,.c (.int .i64 1)],none,[]⟩,
⟨(some 29),.p (.fa 1),[.t 28],none,[]⟩,
⟨(some 30),.r (.ld 1 false),[.t 29],none,[]⟩,
⟨(some 31),.p .len,[.t 30],none,[]⟩,
⟨(some 32),.p (.bin .eql),[.t 31,.c (.int .i64 0)],none,[]⟩,
⟨(some 33),.p .mv,[.t 32],none,[]⟩,
⟨(some 34),.p .mv,[.t 2],(some (33,false)),[]⟩,
⟨(some 35),.p (.bin .lss),[.t 34,.c (.int .i64 0)],(some (33,false)),[]⟩,
⟨(some 36),.p .pick,[.t 33,.c (.bool true),.t 35],none,[]⟩,
⟨(some 37),.p .mv,[.t 36],none,[]⟩,
⟨(some 38),.p .mv,[.t 2],(some (37,false)),[]⟩,
⟨(some 39),.p (.bin .gtr),[.t 38,.c (.int .i64 200)],(some (37,false)),[]⟩,
⟨(some 40),.p .pick,[.t 37,.c (.bool true),.t 39],none,[]⟩] false []) <|
 .cond (.t 40) (.seq (.region [
⟨(some 6),.p .mv,[.c (.str [])],none,[]⟩,
⟨(some 7),.p .mv,[.c (.int .i64 1)],none,[]⟩] false []) <|
 .ret) (.skip)) <|
 .seq (.region [
⟨(some 41),.p .mv,[.t 8],none,[]⟩,
⟨(some 42),.p (.ia 2),[.t 41,.c (.int .i64 0)],none,[]⟩,
⟨(some 43),.p (.fa 1),[.t 42],none,[]⟩,
⟨(some 44),.r (.ld 1 false),[.t 43],none,[]⟩,
⟨(some 45),.w .call,[.c (.fn 457 [] []),.t 44],none,[]⟩,
⟨(some 46),.p .mv,[.t 2],none,[]⟩,
⟨(some 47),.w (.grow 1 8 [(.int .i64 0)]),[.t 45,.t 46],none,[]⟩,
⟨(some 10),.p .mv,[.t 47],none,[]⟩] false []) <|
 .seq (.region [
⟨(some 49),.p .mv,[.t 10],none,[]⟩,
⟨(some 50),.w .call,[.c (.fn 458 [] []),.t 49],none,[]⟩,
⟨(some 51),.p .mv,[.t 8],none,[]⟩,
⟨(some 52),.p (.ia 2),[.t 51,.c (.int .i64 1)],none,[]⟩,
⟨(some 53),.p (.fa 1),[.t 52],none,[]⟩,
⟨(some 54),.r (.ld 1 false),[.t 53],none,[]⟩,
⟨(some 55),.w .call,[.c (.fn 459 [] []),.t 50,.t 54],none,[]⟩,
⟨(some 48),.p .mv,[.t 55],none,[]⟩,
⟨(some 56),.p (.ext 0),[.t 48],none,[]⟩,
⟨(some 57),.p (.ext 1),[.t 48],none,[]⟩,
⟨(some 11),.p .mv,[.t 56],none,[]⟩,
⟨(some 12),.p .mv,[.t 57],none,[]⟩] true [(5,1)]) <|
 .seq (.seq (.region [
⟨(some 58),.p .mv,[.t 12],none,[]⟩,
⟨(some 59),.p .mv,[.t 12],none,[]⟩,
⟨(some 60),.w .call,[.c (.fn 460 [] []),.t 58,.t 59],none,[]⟩,
⟨(some 61),.p .mv,[.t 8],none,[]⟩,
⟨(some 62),.p (.ia 2),[.t 61,.c (.int .i64 1)],none,[]⟩,
⟨(some 63),.p (.fa 1),[.t 62],none,[]⟩,
⟨(some 64),.r (.ld 1 false),[.t 63],none,[]⟩,
⟨(some 65),.w .call,[.c (.fn 461 [] []),.t 60,.t 64],none,[]⟩,
⟨(some 66),.p (.bin .geq),[.t 65,.c (.int .i64 0)],none,[]⟩] true [(6,2)]) <|
 .cond (.t 66) (.region [
⟨(some 67),.p .mv,[.t 11],none,[]⟩,
⟨(some 68),.w .call,[.c (.fn 462 [] []),.c (.int .i64 1)],none,[]⟩,
⟨(some 69),.w .call,[.c (.fn 460 [] []),.t 67,.t 68],none,[]⟩,
⟨(some 11),.p .mv,[.t 69],none,[]⟩] false []) (.skip)) <|
 .seq (.region [
⟨(some 70),.p .mv,[.t 2],none,[]⟩,
⟨(some 71),.p (.bin .add),[.t 70,.c (.int .i64 1)],none,[]⟩,
⟨(some 72),.p .mv,[.t 11],none,[]⟩,
⟨(some 73),.p .len,[.t 72],none,[]⟩,
⟨(some 74),.p (.bin .sub),[.t 71,.t 73],none,[]⟩,
⟨(some 75),.p .max,[.c (.int .i64 0),.t 74],none,[]⟩,
⟨(some 76),.w (.mks 8 [(.int .i64 0)]),[.t 75,.t 75],none,[]⟩,
⟨(some 77),.p .mv,[.t 11],none,[]⟩,
⟨(some 78),.w (.app 1 8),[.t 76,.t 77],none,[]⟩,
⟨(some 13),.p .mv,[.t 78],none,[]⟩] false []) <|
 .seq (.region [
⟨(some 14),.w (.boxT 76),[.c (.agg [(.ptr none),(.slc none 0 0 none)])],none,[]⟩] false []) <|
 .seq (.seq (.region [
⟨(some 79),.p .mv,[.t 8],none,[]⟩,
⟨(some 80),.p (.ia 2),[.t 79,.c (.int .i64 0)],none,[]⟩,
⟨(some 81),.p (.fa 0),[.t 80],none,[]⟩,
⟨(some 82),.r (.ld 1 false),[.t 81],none,[]⟩,
⟨(some 83),.p .mv,[.t 8],none,[]⟩,
⟨(some 84),.p (.ia 2),[.t 83,.c (.int .i64 1)],none,[]⟩,
⟨(some 85),.p (.fa 0),[.t 84],none,[]⟩,
⟨(some 86),.r (.ld 1 false),[.t 85],none,[]⟩,
⟨(some 87),.p (.eqB true),[.t 82,.t 86],none,[]⟩,
⟨(some 88),.p .mv,[.t 87],none,[]⟩,
⟨(some 89),.p .mv,[.t 11],(some (88,true)),[]⟩,
⟨(some 90),.p .len,[.t 89],(some (88,true)),[]⟩,
⟨(some 91),.p (.bin .gtr),[.t 90,.c (.int .i64 0)],(some (88,true)),[]⟩,
⟨(some 92),.p .pick,[.t 88,.t 91,.c (.bool false)],none,[]⟩] true []) <|
 .cond (.t 92) (.region [
⟨(some 93),.w .call,[.c (.fn 463 [] []),.t 14,.c (.int .u8 45)],none,[]⟩] false []) (.skip)) <|
 .seq (.seq (.region [
⟨(some 94),.p .mv,[.t 13],none,[]⟩,
⟨(some 95),.p .len,[.t 94],none,[]⟩,
⟨(some 96),.p .mv,[.c (.int .i64 0)],none,[]⟩] false []) <|
 .block 0 (.loop (.seq (.region [
⟨(some 97),.p (.bin .lss),[.t 96,.t 95],none,[]⟩] false []) <|
 .seq (.cond (.t 97) (.skip) (.exit 0)) <|
 .seq (.block 1 (.seq (.region [
⟨(some 98),.p .mv,[.t 96],none,[]⟩,
⟨(some 99),.p (.ia 1),[.t 94,.t 96],none,[]⟩,
⟨(some 100),.r (.ld 1 false),[.t 99],none,[]⟩,
⟨(some 15),.p .mv,[.t 98],none,[]⟩,
⟨(some 16),.p .mv,[.t 100],none,[]⟩] false []) <|
 .seq (.seq (.region [
⟨(some 101),.p .mv,[.t 15],none,[]⟩,
⟨(some 102),.p .mv,[.t 13],none,[]⟩,
⟨(some 103),.p .len,[.t 102],none,[]⟩,
⟨(some 104),.p .mv,[.t 2],none,[]⟩,
⟨(some 105),.p (.bin .sub),[.t 103,.t 104],none,[]⟩,
⟨(some 106),.p (.bin .eql),[.t 101,.t 105],none,[]⟩] false []) <|
 .cond (.t 106) (.region [
⟨(some 107),.w .call,[.c (.fn 463 [] []),.t 14,.c (.int .u8 46)],none,[]⟩] false []) (.skip)) <|
 .region [
⟨(some 108),.p .mv,[.t 16],none,[]⟩,
⟨(some 109),.p (.bin .add),[.c (.int .i64 48),.t 108],none,[]⟩,
⟨(some 110),.p (.conv .u8),[.t 109],none,[]⟩,
⟨(some 111),.w .call,[.c (.fn 463 [] []),.t 14,.t 110],none,[]⟩] false [])) <|
 .region [
⟨(some 112),.p (.bin .add),[.t 96,.c (.int .i64 1)],none,[]⟩,
⟨(some 96),.p .mv,[.t 112],none,[]⟩] false []))) <|
 .seq (.region [
⟨(some 113),.w .call,[.c (.fn 261 [] []),.t 14],none,[]⟩,
⟨(some 6),.p .mv,[.t 113],none,[]⟩,
⟨(some 7),.p .mv,[.c (.int .i64 0)],none,[]⟩] false []) <|
 .ret, [.tmp 6,.tmp 7]⟩
structure D414 (T : Tab) : Prop where
  fn : T.fn 414 = some ir414
  pr : T.prim 414 = none
  d456 : D456 T
  d457 : D457 T
  d458 : D458 T
  d459 : D459 T
  d460 : D460 T
  d461 : D461 T
  d462 : D462 T
  d463 : D463 T
  d261 : D261 T
/-- (motley/big.nat).pow -/
def ir472 : AFunc := ⟨.seq (.region [
⟨(some 6),.p .mv,[.c (.slc none 0 0 none)],none,[]⟩,
⟨(some 7),.p .mv,[.c (.bool false)],none,[]⟩] false []) <|
 .seq (.region [
⟨(some 9),.w .call,[.c (.fn 462 [] []),.c (.int .i64 1)],none,[]⟩,
⟨(some 8),.p .mv,[.t 9],none,[]⟩] false []) <|
 .seq (.seq (.region [
⟨(some 10),.p .mv,[.t 1],none,[]⟩,
⟨(some 11),.p .mv,[.c (.int .i64 0)],none,[]⟩] false []) <|
 .block 0 (.loop (.seq (.region [
⟨(some 12),.p (.bin .lss),[.t 11,.t 10],none,[]⟩] false []) <|
 .seq (.cond (.t 12) (.skip) (.exit 0)) <|
 .seq (.block 1 (.seq (.region [
⟨(some 13),.p .mv,[.t 8],none,[]⟩,
⟨(some 14),.p .mv,[.t 0],none,[]⟩,
⟨(some 15),.w .call,[.c (.fn 478 [] []),.t 13,.t 14],none,[]⟩,
⟨(some 8),.p .mv,[.t 15],none,[]⟩] false []) <|
 .seq (.region [
⟨(some 16),.p .mv,[.t 8],none,[]⟩,
⟨(some 17),.p .len,[.t 16],none,[]⟩,
⟨(some 18),.p .mv,[.t 2],none,[]⟩,
⟨(some 19),.p (.bin .gtr),[.t 17,.t 18],none,[]⟩] false []) <|
 .cond (.t 19) (.seq (.region [
⟨(some 6),.p .mv,[.c (.slc none 0 0 none)],none,[]⟩,
⟨(some 7),.p .mv,[.c (.bool false)],none,[]⟩] false []) <|
 .ret) (.skip))) <|
 .region [
⟨(some 20),.p (.bin .add),[.t 11,.c (.int .i64 1)],none,[]⟩,
⟨(some 11),.p .mv,[.t 20],none,[]⟩] false []))) <|
 .seq (.region [
⟨(some 21),.p .mv,[.t 8],none,[]⟩,
⟨(some 6),.p .mv,[.t 21],none,[]⟩,
⟨(some 7),.p .mv,[.c (.bool true)],none,[]⟩] false []) <|
 .ret, [.tmp 6,.tmp 7]⟩
structure D472 (T : Tab) : Prop where
  fn : T.fn 472 = some ir472
  pr : T.prim 472 = none
  d462 : D462 T
  d478 : D478 T
/-- motley/big.Pow -/
def ir420 : AFunc := ⟨.seq (.region [
⟨(some 4),.p .mv,[.c (.str [])],none,[]⟩,
⟨(some 5),.p .mv,[.c (.int .i64 0)],none,[]⟩] false []) <|
 .seq (.region [
⟨(some 11),.p .mv,[.t 0],none,[]⟩,
⟨(some 12),.w (.bsl 1 1 [(.str [])] [(0,1)]),[.t 11],none,[]⟩,
⟨(some 13),.w .call,[.c (.fn 456 [] []),.t 12],none,[]⟩,
⟨(some 10),.p .mv,[.t 13],none,[]⟩,
⟨(some 14),.p (.ext 0),[.t 10],none,[]⟩,
⟨(some 15),.p (.ext 1),[.t 10],none,[]⟩,
⟨(some 6),.p .mv,[.t 14],none,[]⟩,
⟨(some 7),.p .mv,[.t 15],none,[]⟩] false []) <|
 .seq (.seq (.region [
⟨(some 16),.p .mv,[.t 7],none,[]⟩,
⟨(some 17),.p (.bin .neq),[.t 16,.c (.int .i64 0)],none,[]⟩] false []) <|
 .cond (.t 17) (.seq (.region [
⟨(some 18),.p .mv,[.t 7],none,[]⟩,
⟨(some 4),.p .mv,[.c (.str [])],none,[]⟩,
⟨(some 5),.p .mv,[.t 18],none,[]⟩] false []) <|
 .ret) (.skip)) <|
 .seq (.seq (.region [
⟨(some 19),.p .mv,[.t 1],none,[]⟩,
⟨(some 20),.p (.bin .lss),[.t 19,.c (.int .i64 0)],none,[]⟩,
⟨(some 21),.p .mv,[.t 20],none,[]⟩,
⟨(some 22),.p .mv,[.t 1],(some (21,false)),[]⟩,
⟨(some 23),.p (.bin .gtr),[.t 22,.c (.int .i64 2000)],(some (21,false)),[]⟩,
⟨(some 24),.p .pick,[.t 21,.c (.bool true),.t 23],none,[]⟩] false []) <|
 .cond (.t 24) (.seq (.region [
⟨(some 4),.p .mv,[.c (.str [])],none,[]⟩,
⟨(some 5),.p .mv,[.c (.int .i64 1)],none,[]⟩] false []) <|
 .ret) (.skip)) <|
 .seq (.region [
⟨(some 26),.p .mv,[.t 6],none,[]⟩,
⟨(some 27),.p (.ia 2),[.t 26,.c (.int .i64 0)],none,[]⟩,
⟨(some 28),.p (.fa 1),[.t 27],none,[]⟩,
⟨(some 29),.r (.ld 1 false),[.t 28],none,[]⟩,
⟨(some 30),.p .mv,[.t 1],none,[]⟩,
⟨(some 31),.w .call,[.c (.fn 472 [] []),.t 29,.t 30,.c (.int .i64 400)],none,[]⟩,
⟨(some 25),.p .mv,[.t 31],none,[]⟩,
⟨(some 32),.p (.ext 0),[.t 25],none,[]⟩,
⟨(some 33),.p (.ext 1),[.t 25],none,[]⟩,
⟨(some 8),.p .mv,[.t 32],none,[]⟩,
⟨(some 9),.p .mv,[.t 33],none,[]⟩] false []) <|
 .seq (.seq (.region [
⟨(some 34),.p .mv,[.t 9],none,[]⟩,
⟨(some 35),.p (.un .not),[.t 34],none,[]⟩] false []) <|
 .cond (.t 35) (.seq (.region [
⟨(some 4),.p .mv,[.c (.str [])],none,[]⟩,
⟨(some 5),.p .mv,[.c (.int .i64 3)],none,[]⟩] false []) <|
 .ret) (.skip)) <|
 .seq (.region [
⟨(some 36),.p .mv,[.t 6],none,[]⟩,
⟨(some 37),.p (.ia 2),[.t 36,.c (.int .i64 0)],none,[]⟩,
⟨(some 38),.p (.fa 0),[.t 37],none,[]⟩,
⟨(some 39),.r (.ld 1 false),[.t 38],none,[]⟩,
⟨(some 40),.p .mv,[.t 39],none,[]⟩,
⟨(some 41),.p .mv,[.t 1],(some (40,true)),[]⟩,
⟨(some 42),.p (.bin .rem),[.t 41,.c (.int .i64 2)],(some (40,true)),[]⟩,
⟨(some 43),.p (.bin .eql),[.t 42,.c (.int .i64 1)],(some (40,true)),[]⟩,
⟨(some 44),.p .pick,[.t 40,.t 43,.c (.bool false)],none,[]⟩,
⟨(some 45),.p .mv,[.t 8],none,[]⟩,
⟨(some 46),.w .call,[.c (.fn 473 [] []),.t 44,.t 45],none,[]⟩,
⟨(some 47),.w .call,[.c (.fn 474 [] []),.t 46],none,[]⟩,
⟨(some 4),.p .mv,[.t 47],none,[]⟩,
⟨(some 5),.p .mv,[.c (.int .i64 0)],none,[]⟩] false []) <|
 .ret, [.tmp 4,.tmp 5]⟩
structure D420 (T : Tab) : Prop where
  fn : T.fn 420 = some ir420
  pr : T.prim 420 = none
  d456 : D456 T
  d472 : D472 T
  d473 : D473 T
  d474 : D474 T
/-- motley/motleylaw26.known -/
def ir412 : AFunc := ⟨.seq (.region [
⟨(some 0),.p .mv,[.c (.bool false)],none,[]⟩] false []) <|
 .seq (.region [
⟨(some 13),.w .call,[.c (.fn 416 [] []),.c (.str [45,55]),.c (.str [50])],none,[]⟩,
⟨(some 12),.p .mv,[.t 13],none,[]⟩,
⟨(some 14),.p (.ext 0),[.t 12],none,[]⟩,
⟨(some 15),.p (.ext 1),[.t 12],none,[]⟩,
⟨(some 16),.p (.ext 2),[.t 12],none,[]⟩,
⟨(some 1),.p .mv,[.t 14],none,[]⟩,
⟨(some 2),.p .mv,[.t 15],none,[]⟩,
⟨(some 3),.p .mv,[.t 16],none,[]⟩] false []) <|
 .seq (.region [
⟨(some 18),.w .call,[.c (.fn 436 [] []),.c (.str [50,52,48]),.c (.str [52,54])],none,[]⟩,
⟨(some 17),.p .mv,[.t 18],none,[]⟩,
⟨(some 19),.p (.ext 0),[.t 17],none,[]⟩,
⟨(some 20),.p (.ext 1),[.t 17],none,[]⟩,
⟨(some 21),.p (.ext 2),[.t 17],none,[]⟩,
⟨(some 22),.p (.ext 3),[.t 17],none,[]⟩,
⟨(some 4),.p .mv,[.t 19],none,[]⟩,
⟨(some 5),.p .mv,[.t 20],none,[]⟩,
⟨(some 6),.p .mv,[.t 21],none,[]⟩,
⟨(some 7),.p .mv,[.t 22],none,[]⟩] false []) <|
 .seq (.region [
⟨(some 24),.w .call,[.c (.fn 414 [] []),.c (.str [50]),.c (.str [51]),.c (.int .i64 4)],none,[]⟩,
⟨(some 23),.p .mv,[.t 24],none,[]⟩,
⟨(some 25),.p (.ext 0),[.t 23],none,[]⟩,
⟨(some 26),.p (.ext 1),[.t 23],none,[]⟩,
⟨(some 8),.p .mv,[.t 25],none,[]⟩,
⟨(some 9),.p .mv,[.t 26],none,[]⟩] false []) <|
 .seq (.region [
⟨(some 28),.w .call,[.c (.fn 420 [] []),.c (.str [50]),.c (.int .i64 100)],none,[]⟩,
⟨(some 27),.p .mv,[.t 28],none,[]⟩,
⟨(some 29),.p (.ext 0),[.t 27],none,[]⟩,
⟨(some 30),.p (.ext 1),[.t 27],none,[]⟩,
⟨(some 10),.p .mv,[.t 29],none,[]⟩,
⟨(some 11),.p .mv,[.t 30],none,[]⟩] false []) <|
 .seq (.region [
⟨(some 31),.p .mv,[.t 3],none,[]⟩,
⟨(some 32),.p (.bin .eql),[.t 31,.c (.int .i64 0)],none,[]⟩,
⟨(some 33),.p .mv,[.t 32],none,[]⟩,
⟨(some 34),.p .mv,[.t 1],(some (33,true)),[]⟩,
⟨(some 35),.p (.bin .eql),[.t 34,.c (.str [45,52])],(some (33,true)),[]⟩,
⟨(some 36),.p .pick,[.t 33,.t 35,.c (.bool false)],none,[]⟩,
⟨(some 37),.p .mv,[.t 36],none,[]⟩,
⟨(some 38),.p .mv,[.t 2],(some (37,true)),[]⟩,
⟨(some 39),.p (.bin .eql),[.t 38,.c (.str [49])],(some (37,true)),[]⟩,
⟨(some 40),.p .pick,[.t 37,.t 39,.c (.bool false)],none,[]⟩,
⟨(some 41),.p .mv,[.t 40],none,[]⟩,
⟨(some 42),.p .mv,[.t 7],(some (41,true)),[]⟩,
⟨(some 43),.p (.bin .eql),[.t 42,.c (.int .i64 0)],(some (41,true)),[]⟩,
⟨(some 44),.p .pick,[.t 41,.t 43,.c (.bool false)],none,[]⟩,
⟨(some 45),.p .mv,[.t 44],none,[]⟩,
⟨(some 46),.p .mv,[.t 4],(some (45,true)),[]⟩,
⟨(some 47),.p (.bin .eql),[.t 46,.c (.str [50])],(some (45,true)),[]⟩,
⟨(some 48),.p .pick,[.t 45,.t 47,.c (.bool false)],none,[]⟩,
⟨(some 49),.p .mv,[.t 48],none,[]⟩,
⟨(some 50),.p .mv,[.t 5],(some (49,true)),[]⟩,
⟨(some 51),.p (.bin .eql),[.t 50,.c (.str [45,57])],(some (49,true)),[]⟩,
⟨(some 52),.p .pick,[.t 49,.t 51,.c (.bool false)],none,[]⟩,
⟨(some 53),.p .mv,[.t 52],none,[]⟩,
⟨(some 54),.p .mv,[.t 6],(some (53,true)),[]⟩,
⟨(some 55),.p (.bin .eql),[.t 54,.c (.str [52,55])],(some (53,true)),[]⟩,
⟨(some 56),.p .pick,[.t 53,.t 55,.c (.bool false)],none,[]⟩,
⟨(some 57),.p .mv,[.t 56],none,[]⟩,
⟨(some 58),.p .mv,[.t 9],(some (57,true)),[]⟩,
⟨(some 59),.p (.bin .eql),[.t 58,.c (.int .i64 0)],(some (57,true)),[]⟩,
⟨(some 60),.p .pick,[.t 57,.t 59,.c (.bool false)],none,[]⟩,
⟨(some 61),.p .mv,[.t 60],none,[]⟩,
⟨(some 62),.p .mv,[.t 8],(some (61,true)),[]⟩,
⟨(some 63),.p (.bin .eql),[.t 62,.c (.str [48,46,54,54,54,55])],(some (61,true)),[]⟩,
⟨(some 64),.p .pick,[.t 61,.t 63,.c (.bool false)],none,[]⟩,
⟨(some 65),.p .mv,[.t 64],none,[]⟩,
⟨(some 66),.p .mv,[.t 11],(some (65,true)),[]⟩,
⟨(some 67),.p (.bin .eql),[.t 66,.c (.int .i64 0)],(some (65,true)),[]⟩,
⟨(some 68),.p .pick,[.t 65,.t 67,.c (.bool false)],none,[]⟩,
⟨(some 69),.p .mv,[.t 68],none,[]⟩,
⟨(some 70),.p .mv,[.t 10],(some (69,true)),[]⟩,
⟨(some 71),.p (.bin .eql),[.t 70,.c (.str [49,50,54,55,54,53,48,54,48,48,50,50,56,50,50,57,52,48,49,52,57,54,55,48,51,50,48,53,51,55,54])],(some (69,true)),[]⟩,
⟨(some 72),.p .pick,[.t 69,.t 71,.c (.bool false)],none,[]⟩,
⟨(some 0),.p .mv,[.t 72],none,[]⟩] false []) <|
 .ret, [.tmp 0]⟩
structure D412 (T : Tab) : Prop where
  fn : T.fn 412 = some ir412
  pr : T.prim 412 = none
  d416 : D416 T
  d436 : D436 T
  d414 : D414 T
  d420 : D420 T
/-- motley/motleyref26.Valid -/
def ir421 : AFunc := ⟨.seq (.region [
⟨(some 2),.p .mv,[.c (.bool false)],none,[]⟩] false []) <|
 .seq (.seq (.region [
⟨(some 4),.p .mv,[.t 0],none,[]⟩,
⟨(some 5),.p (.bin .eql),[.t 4,.c (.str [48])],none,[]⟩] false []) <|
 .cond (.t 5) (.seq (.region [
⟨(some 2),.p .mv,[.c (.bool true)],none,[]⟩] false []) <|
 .ret) (.skip)) <|
 .seq (.seq (.region [
⟨(some 6),.p .mv,[.t 0],none,[]⟩,
⟨(some 7),.p .lenS,[.t 6],none,[]⟩,
⟨(some 8),.p (.bin .gtr),[.t 7,.c (.int .i64 0)],none,[]⟩,
⟨(some 9),.p .mv,[.t 8],none,[]⟩,
⟨(some 10),.p .mv,[.t 0],(some (9,true)),[]⟩,
⟨(some 11),.p .idxS,[.t 10,.c (.int .i64 0)],(some (9,true)),[]⟩,
⟨(some 12),.p (.bin .eql),[.t 11,.c (.int .u8 45)],(some (9,true)),[]⟩,
⟨(some 13),.p .pick,[.t 9,.t 12,.c (.bool false)],none,[]⟩] false []) <|
 .cond (.t 13) (.region [
⟨(some 14),.p .mv,[.t 0],none,[]⟩,
⟨(some 15),.p (.slS true false),[.t 14,.c (.int .i64 1)],none,[]⟩,
⟨(some 0),.p .mv,[.t 15],none,[]⟩] false []) (.skip)) <|
 .seq (.seq (.region [
⟨(some 3),.p .mv,[.c (.int .i64 0)],none,[]⟩] false []) <|
 .block 0 (.loop (.seq (.seq (.region [
⟨(some 16),.p .mv,[.t 3],none,[]⟩,
⟨(some 17),.p .mv,[.t 0],none,[]⟩,
⟨(some 18),.p .lenS,[.t 17],none,[]⟩,
⟨(some 19),.p (.bin .lss),[.t 16,.t 18],none,[]⟩] false []) <|
 .cond (.t 19) (.skip) (.exit 0)) <|
 .seq (.block 1 (.seq (.region [
⟨(some 22),.p .mv,[.t 0],none,[]⟩,
⟨(some 23),.p .mv,[.t 3],none,[]⟩,
⟨(some 24),.p .idxS,[.t 22,.t 23],none,[]⟩,
⟨(some 25),.p (.bin .lss),[.t 24,.c (.int .u8 48)],none,[]⟩,
⟨(some 26),.p .mv,[.t 25],none,[]⟩,
⟨(some 27),.p .mv,[.t 0],(some (26,false)),[]⟩,
⟨(some 28),.p .mv,[.t 3],(some (26,false)),[]⟩,
⟨(some 29),.p .idxS,[.t 27,.t 28],(some (26,false)),[]⟩,
⟨(some 30),.p (.bin .gtr),[.t 29,.c (.int .u8 57)],(some (26,false)),[]⟩,
⟨(some 31),.p .pick,[.t 26,.c (.bool true),.t 30],none,[]⟩] false []) <|
 .cond (.t 31) (.seq (.region [
⟨(some 2),.p .mv,[.c (.bool false)],none,[]⟩] false []) <|
 .ret) (.skip))) <|
 .region [
⟨(some 20),.p .mv,[.t 3],none,[]⟩,
⟨(some 21),.p (.bin .add),[.t 20,.c (.int .i64 1)],none,[]⟩,
⟨(some 3),.p .mv,[.t 21],none,[]⟩] false []))) <|
 .seq (.region [
⟨(some 32),.p .mv,[.t 0],none,[]⟩,
⟨(some 33),.p .lenS,[.t 32],none,[]⟩,
⟨(some 34),.p (.bin .gtr),[.t 33,.c (.int .i64 0)],none,[]⟩,
⟨(some 35),.p .mv,[.t 34],none,[]⟩,
⟨(some 36),.p .mv,[.t 0],(some (35,true)),[]⟩,
⟨(some 37),.p .lenS,[.t 36],(some (35,true)),[]⟩,
⟨(some 38),.p (.bin .leq),[.t 37,.c (.int .i64 400)],(some (35,true)),[]⟩,
⟨(some 39),.p .pick,[.t 35,.t 38,.c (.bool false)],none,[]⟩,
⟨(some 40),.p .mv,[.t 39],none,[]⟩,
⟨(some 41),.p .mv,[.t 0],(some (40,true)),[]⟩,
⟨(some 42),.p .idxS,[.t 41,.c (.int .i64 0)],(some (40,true)),[]⟩,
⟨(some 43),.p (.bin .neq),[.t 42,.c (.int .u8 48)],(some (40,true)),[]⟩,
⟨(some 44),.p .pick,[.t 40,.t 43,.c (.bool false)],none,[]⟩,
⟨(some 2),.p .mv,[.t 44],none,[]⟩] false []) <|
 .ret, [.tmp 2]⟩
structure D421 (T : Tab) : Prop where
  fn : T.fn 421 = some ir421
  pr : T.prim 421 = none
/-- motley/motleyref26.checked -/
def ir447 : AFunc := ⟨.seq (.region [
⟨(some 2),.p .mv,[.c (.int .i64 0)],none,[]⟩] false []) <|
 .seq (.seq (.region [
⟨(some 3),.p .mv,[.c (.int .i64 0)],none,[]⟩] false []) <|
 .block 0 (.loop (.seq (.seq (.region [
⟨(some 5),.p .mv,[.t 3],none,[]⟩,
⟨(some 6),.p .mv,[.t 0],none,[]⟩,
⟨(some 7),.p .len,[.t 6],none,[]⟩,
⟨(some 8),.p (.bin .lss),[.t 5,.t 7],none,[]⟩] false []) <|
 .cond (.t 8) (.skip) (.exit 0)) <|
 .seq (.block 1 (.seq (.region [
⟨(some 11),.p .mv,[.t 0],none,[]⟩,
⟨(some 12),.p .mv,[.t 3],none,[]⟩,
⟨(some 13),.p (.ia 1),[.t 11,.t 12],none,[]⟩,
⟨(some 14),.r (.ld 1 false),[.t 13],none,[]⟩,
⟨(some 15),.p .lenS,[.t 14],none,[]⟩,
⟨(some 16),.p (.bin .gtr),[.t 15,.c (.int .i64 401)],none,[]⟩] false []) <|
 .cond (.t 16) (.seq (.region [
⟨(some 2),.p .mv,[.c (.int .i64 3)],none,[]⟩] false []) <|
 .ret) (.skip))) <|
 .region [
⟨(some 9),.p .mv,[.t 3],none,[]⟩,
⟨(some 10),.p (.bin .add),[.t 9,.c (.int .i64 1)],none,[]⟩,
⟨(some 3),.p .mv,[.t 10],none,[]⟩] false []))) <|
 .seq (.seq (.region [
⟨(some 4),.p .mv,[.c (.int .i64 0)],none,[]⟩] false []) <|
 .block 2 (.loop (.seq (.seq (.region [
⟨(some 17),.p .mv,[.t 4],none,[]⟩,
⟨(some 18),.p .mv,[.t 0],none,[]⟩,
⟨(some 19),.p .len,[.t 18],none,[]⟩,
⟨(some 20),.p (.bin .lss),[.t 17,.t 19],none,[]⟩] false []) <|
 .cond (.t 20) (.skip) (.exit 2)) <|
 .seq (.block 3 (.seq (.region [
⟨(some 23),.p .mv,[.t 0],none,[]⟩,
⟨(some 24),.p .mv,[.t 4],none,[]⟩,
⟨(some 25),.p (.ia 1),[.t 23,.t 24],none,[]⟩,
⟨(some 26),.r (.ld 1 false),[.t 25],none,[]⟩,
⟨(some 27),.w .call,[.c (.fn 421 [] []),.t 26],none,[]⟩,
⟨(some 28),.p (.un .not),[.t 27],none,[]⟩] false []) <|
 .cond (.t 28) (.seq (.region [
⟨(some 2),.p .mv,[.c (.int .i64 2)],none,[]⟩] false []) <|
 .ret) (.skip))) <|
 .region [
⟨(some 21),.p .mv,[.t 4],none,[]⟩,
⟨(some 22),.p (.bin .add),[.t 21,.c (.int .i64 1)],none,[]⟩,
⟨(some 4),.p .mv,[.t 22],none,[]⟩] false []))) <|
 .seq (.region [
⟨(some 2),.p .mv,[.c (.int .i64 0)],none,[]⟩] false []) <|
 .ret, [.tmp 2]⟩
structure D447 (T : Tab) : Prop where
  fn : T.fn 447 = some ir447
  pr : T.prim 447 = none
  d421 : D421 T
/-- motley/motleyref26.trim -/
def ir453 : AFunc := ⟨.seq (.region [
⟨(some 1),.w .box,[.t 0],none,[]⟩,
⟨(some 2),.w .box,[.c (.agg [(.slc none 0 0 none),(.bool false)])],none,[]⟩] false []) <|
 .seq (.block 0 (.loop (.seq (.seq (.region [
⟨(some 3),.p (.fa 0),[.t 1],none,[]⟩,
⟨(some 4),.r (.ld 1 false),[.t 3],none,[]⟩,
⟨(some 5),.p .len,[.t 4],none,[]⟩,
⟨(some 6),.p (.bin .gtr),[.t 5,.c (.int .i64 0)],none,[]⟩,
⟨(some 7),.p .mv,[.t 6],none,[]⟩,
⟨(some 8),.p (.fa 0),[.t 1],(some (7,true)),[]⟩,
⟨(some 9),.r (.ld 1 false),[.t 8],(some (7,true)),[]⟩,
⟨(some 10),.p (.fa 0),[.t 1],(some (7,true)),[]⟩,
⟨(some 11),.r (.ld 1 false),[.t 10],(some (7,true)),[]⟩,
⟨(some 12),.p .len,[.t 11],(some (7,true)),[]⟩,
⟨(some 13),.p (.bin .sub),[.t 12,.c (.int .i64 1)],(some (7,true)),[]⟩,
⟨(some 14),.p (.ia 1),[.t 9,.t 13],(some (7,true)),[]⟩,
⟨(some 15),.r (.ld 1 false),[.t 14],(some (7,true)),[]⟩,
⟨(some 16),.p (.bin .eql),[.t 15,.c (.int .i64 0)],(some (7,true)),[]⟩,
⟨(some 17),.p .pick,[.t 7,.t 16,.c (.bool false)],none,[]⟩] false []) <|
 .cond (.t 17) (.skip) (.exit 0)) <|
 .block 1 (.region [
⟨(some 18),.p (.fa 0),[.t 1],none,[]⟩,
⟨(some 19),.r (.ld 1 false),[.t 18],none,[]⟩,
⟨(some 20),.p (.fa 0),[.t 1],none,[]⟩,
⟨(some 21),.r (.ld 1 false),[.t 20],none,[]⟩,
⟨(some 22),.p .len,[.t 21],none,[]⟩,
⟨(some 23),.p (.bin .sub),[.t 22,.c (.int .i64 1)],none,[]⟩,
⟨(some 24),.p (.sl 1 false true false),[.t 19,.t 23],none,[]⟩,
⟨(some 25),.p (.fa 0),[.t 1],none,[]⟩,
⟨none,.w (.st 1),[.t 25,.t 24],none,[]⟩] false [])))) <|
 .seq (.region [
⟨(some 26),.p (.fa 1),[.t 1],none,[]⟩,
⟨(some 27),.r (.ld 1 false),[.t 26],none,[]⟩,
⟨(some 28),.p .mv,[.t 27],none,[]⟩,
⟨(some 29),.p (.fa 0),[.t 1],(some (28,true)),[]⟩,
⟨(some 30),.r (.ld 1 false),[.t 29],(some (28,true)),[]⟩,
⟨(some 31),.p .len,[.t 30],(some (28,true)),[]⟩,
⟨(some 32),.p (.bin .gtr),[.t 31,.c (.int .i64 0)],(some (28,true)),[]⟩,
⟨(some 33),.p .pick,[.t 28,.t 32,.c (.bool false)],none,[]⟩,
⟨(some 34),.p (.fa 1),[.t 1],none,[]⟩,
⟨none,.w (.st 1),[.t 34,.t 33],none,[]⟩] false []) <|
 .seq (.region [
⟨(some 35),.r (.ld 2 true),[.t 1],none,[]⟩,
⟨none,.w (.st 2),[.t 2,.t 35],none,[]⟩] false []) <|
 .ret, [.cell 2 2 true]⟩
structure D453 (T : Tab) : Prop where
  fn : T.fn 453 = some ir453
  pr : T.prim 453 = none
/-- motley/motleyref26.read -/
def ir448 : AFunc := ⟨.seq (.region [
⟨(some 2),.w .box,[.c (.agg [(.slc none 0 0 none),(.bool false)])],none,[]⟩] false []) <|
 .seq (.region [
⟨(some 3),.w .box,[.c (.agg [(.slc none 0 0 none),(.bool false)])],none,[]⟩] false []) <|
 .seq (.seq (.region [
⟨(some 5),.p .mv,[.t 0],none,[]⟩,
⟨(some 6),.p .lenS,[.t 5],none,[]⟩,
⟨(some 7),.p (.bin .sub),[.t 6,.c (.int .i64 1)],none,[]⟩,
⟨(some 4),.p .mv,[.t 7],none,[]⟩] false []) <|
 .block 0 (.loop (.seq (.seq (.region [
⟨(some 8),.p .mv,[.t 4],none,[]⟩,
⟨(some 9),.p (.bin .geq),[.t 8,.c (.int .i64 0)],none,[]⟩] false []) <|
 .cond (.t 9) (.skip) (.exit 0)) <|
 .seq (.block 1 (.seq (.region [
⟨(some 12),.p .mv,[.t 0],none,[]⟩,
⟨(some 13),.p .mv,[.t 4],none,[]⟩,
⟨(some 14),.p .idxS,[.t 12,.t 13],none,[]⟩,
⟨(some 15),.p (.bin .eql),[.t 14,.c (.int .u8 45)],none,[]⟩] false []) <|
 .cond (.t 15) (.region [
⟨(some 16),.p (.fa 1),[.t 3],none,[]⟩,
⟨none,.w (.st 1),[.t 16,.c (.bool true)],none,[]⟩] false []) (.region [
⟨(some 17),.p (.fa 0),[.t 3],none,[]⟩,
⟨(some 18),.r (.ld 1 false),[.t 17],none,[]⟩,
⟨(some 19),.p .mv,[.t 0],none,[]⟩,
⟨(some 20),.p .mv,[.t 4],none,[]⟩,
⟨(some 21),.p .idxS,[.t 19,.t 20],none,[]⟩,
⟨(some 22),.p (.bin .sub),[.t 21,.c (.int .u8 48)],none,[]⟩,
⟨(some 23),.p (.conv .i64),[.t 22],none,[]⟩,
⟨(some 24),.w (.bsl 1 1 [(.int .i64 0)] [(0,1)]),[.t 23],none,[]⟩,
⟨(some 25),.w (.app 1 8),[.t 18,.t 24],none,[]⟩,
⟨(some 26),.p (.fa 0),[.t 3],none,[]⟩,
⟨none,.w (.st 1),[.t 26,.t 25],none,[]⟩] true [(1,7)]))) <|
 .region [
⟨(some 10),.p .mv,[.t 4],none,[]⟩,
⟨(some 11),.p (.bin .sub),[.t 10,.c (.int .i64 1)],none,[]⟩,
⟨(some 4),.p .mv,[.t 11],none,[]⟩] false []))) <|
 .seq (.region [
⟨(some 27),.r (.ld 2 true),[.t 3],none,[]⟩,
⟨(some 28),.w .call,[.c (.fn 453 [] []),.t 27],none,[]⟩,
⟨none,.w (.st 2),[.t 2,.t 28],none,[]⟩] false []) <|
 .ret, [.cell 2 2 true]⟩
structure D448 (T : Tab) : Prop where
  fn : T.fn 448 = some ir448
  pr : T.prim 448 = none
  d453 : D453 T
/-- motley/motleyref26.abs -/
def ir449 : AFunc := ⟨.seq (.region [
⟨(some 1),.w .box,[.t 0],none,[]⟩,
⟨(some 2),.w .box,[.c (.agg [(.slc none 0 0 none),(.bool false)])],none,[]⟩] false []) <|
 .seq (.region [
⟨(some 3),.p (.fa 0),[.t 1],none,[]⟩,
⟨(some 4),.r (.ld 1 false),[.t 3],none,[]⟩,
⟨(some 5),.p (.bld [(.slc none 0 0 none),(.bool false)] [(0,1),(1,1)]),[.t 4,.c (.bool false)],none,[]⟩,
⟨none,.w (.st 2),[.t 2,.t 5],none,[]⟩] false []) <|
 .ret, [.cell 2 2 true]⟩
structure D449 (T : Tab) : Prop where
  fn : T.fn 449 = some ir449
  pr : T.prim 449 = none
/-- motley/motleyref26.sign -/
def ir496 : AFunc := ⟨.seq (.region [
⟨(some 2),.p .mv,[.c (.int .i64 0)],none,[]⟩] false []) <|
 .seq (.block 0 (.seq (.region [
⟨(some 4),.p .mv,[.t 0],none,[]⟩,
⟨(some 5),.p (.bin .lss),[.t 4,.c (.int .i64 0)],none,[]⟩,
⟨(some 3),.p .mv,[.t 5],none,[]⟩] false []) <|
 .cond (.t 3) (.seq (.region [
⟨(some 2),.p .mv,[.c (.int .i64 (-1))],none,[]⟩] false []) <|
 .ret) (.seq (.region [
⟨(some 7),.p .mv,[.t 0],none,[]⟩,
⟨(some 8),.p (.bin .gtr),[.t 7,.c (.int .i64 0)],none,[]⟩,
⟨(some 6),.p .mv,[.t 8],none,[]⟩] false []) <|
 .cond (.t 6) (.seq (.region [
⟨(some 2),.p .mv,[.c (.int .i64 1)],none,[]⟩] false []) <|
 .ret) (.skip)))) <|
 .seq (.region [
⟨(some 2),.p .mv,[.c (.int .i64 0)],none,[]⟩] false []) <|
 .ret, [.tmp 2]⟩
structure D496 (T : Tab) : Prop where
  fn : T.fn 496 = some ir496
  pr : T.prim 496 = none
/-- motley/motleyref26.size -/
def ir475 : AFunc := ⟨.seq (.region [
⟨(some 2),.w .box,[.t 0],none,[]⟩,
⟨(some 3),.w .box,[.t 1],none,[]⟩,
⟨(some 4),.p .mv,[.c (.int .i64 0)],none,[]⟩] false []) <|
 .seq (.seq (.region [
⟨(some 6),.p (.fa 0),[.t 2],none,[]⟩,
⟨(some 7),.r (.ld 1 false),[.t 6],none,[]⟩,
⟨(some 8),.p .len,[.t 7],none,[]⟩,
⟨(some 9),.p (.fa 0),[.t 3],none,[]⟩,
⟨(some 10),.r (.ld 1 false),[.t 9],none,[]⟩,
⟨(some 11),.p .len,[.t 10],none,[]⟩,
⟨(some 12),.p (.bin .neq),[.t 8,.t 11],none,[]⟩] false []) <|
 .cond (.t 12) (.seq (.region [
⟨(some 13),.p (.fa 0),[.t 2],none,[]⟩,
⟨(some 14),.r (.ld 1 false),[.t 13],none,[]⟩,
⟨(some 15),.p .len,[.t 14],none,[]⟩,
⟨(some 16),.p (.fa 0),[.t 3],none,[]⟩,
⟨(some 17),.r (.ld 1 false),[.t 16],none,[]⟩,
⟨(some 18),.p .len,[.t 17],none,[]⟩,
⟨(some 19),.p (.bin .sub),[.t 15,.t 18],none,[]⟩,
⟨(some 20),.w .call,[.c (.fn 496 [] []),.t 19],none,[]⟩,
⟨(some 4),.p .mv,[.t 20],none,[]⟩] false []) <|
 .ret) (.skip)) <|
 .seq (.seq (.region [
⟨(some 21),.p (.fa 0),[.t 2],none,[]⟩,
⟨(some 22),.r (.ld 1 false),[.t 21],none,[]⟩,
⟨(some 23),.p .len,[.t 22],none,[]⟩,
⟨(some 24),.p (.bin .sub),[.t 23,.c (.int .i64 1)],none,[]⟩,
⟨(some 5),.p .mv,[.t 24],none,[]⟩] false []) <|
 .block 0 (.loop (.seq (.seq (.region [
⟨(some 25),.p .mv,[.t 5],none,[]⟩,
⟨(some 26),.p (.bin .geq),[.t 25,.c (.int .i64 0)],none,[]⟩] false []) <|
 .cond (.t 26) (.skip) (.exit 0)) <|
 .seq (.block 1 (.seq (.region [
⟨(some 29),.p (.fa 0),[.t 2],none,[]⟩,
⟨(some 30),.r (.ld 1 false),[.t 29],none,[]⟩,
⟨(some 31),.p .mv,[.t 5],none,[]⟩,
⟨(some 32),.p (.ia 1),[.t 30,.t 31],none,[]⟩,
⟨(some 33),.r (.ld 1 false),[.t 32],none,[]⟩,
⟨(some 34),.p (.fa 0),[.t 3],none,[]⟩,
⟨(some 35),.r (.ld 1 false),[.t 34],none,[]⟩,
⟨(some 36),.p .mv,[.t 5],none,[]⟩,
⟨(some 37),.p (.ia 1),[.t 35,.t 36],none,[]⟩,
⟨(some 38),.r (.ld 1 false),[.t 37],none,[]⟩,
⟨(some 39),.p (.bin .neq),[.t 33,.t 38],none,[]⟩] true []) <|
 .cond (.t 39) (.seq (.region [
⟨(some 40),.p (.fa 0),[.t 2],none,[]⟩,
⟨(some 41),.r (.ld 1 false),[.t 40],none,[]⟩,
⟨(some 42),.p .mv,[.t 5],none,[]⟩,
⟨(some 43),.p (.ia 1),[.t 41,.t 42],none,[]⟩,
⟨(some 44),.r (.ld 1 false),[.t 43],none,[]⟩,
⟨(some 45),.p (.fa 0),[.t 3],none,[]⟩,
⟨(some 46),.r (.ld 1 false),[.t 45],none,[]⟩,
⟨(some 47),.p .mv,[.t 5],none,[]⟩,
⟨(some 48),.p (.ia 1),[.t 46,.t 47],none,[]⟩,
⟨(some 49),.r (.ld 1 false),[.t 48],none,[]⟩,
⟨(some 50),.p (.bin .sub),[.t 44,.t 49],none,[]⟩,
⟨(some 51),.w .call,[.c (.fn 496 [] []),.t 50],none,[]⟩,
⟨(some 4),.p .mv,[.t 51],none,[]⟩] true []) <|
 .ret) (.skip))) <|
 .region [
⟨(some 27),.p .mv,[.t 5],none,[]⟩,
⟨(some 28),.p (.bin .sub),[.t 27,.c (.int .i64 1)],none,[]⟩,
⟨(some 5),.p .mv,[.t 28],none,[]⟩] false []))) <|
 .seq (.region [
⟨(some 4),.p .mv,[.c (.int .i64 0)],none,[]⟩] false []) <|
 .ret, [.tmp 4]⟩
structure D475 (T : Tab) : Prop where
  fn : T.fn 475 = some ir475
  pr : T.prim 475 = none
  d496 : D496 T
/-- motley/motleyref26.neg -/
def ir485 : AFunc := ⟨.seq (.region [
⟨(some 1),.w .box,[.t 0],none,[]⟩,
⟨(some 2),.w .box,[.c (.agg [(.slc none 0 0 none),(.bool false)])],none,[]⟩] false []) <|
 .seq (.region [
⟨(some 3),.p (.fa 0),[.t 1],none,[]⟩,
⟨(some 4),.r (.ld 1 false),[.t 3],none,[]⟩,
⟨(some 5),.p (.fa 1),[.t 1],none,[]⟩,
⟨(some 6),.r (.ld 1 false),[.t 5],none,[]⟩,
⟨(some 7),.p (.un .not),[.t 6],none,[]⟩,
⟨(some 8),.p .mv,[.t 7],none,[]⟩,
⟨(some 9),.p (.fa 0),[.t 1],(some (8,true)),[]⟩,
⟨(some 10),.r (.ld 1 false),[.t 9],(some (8,true)),[]⟩,
⟨(some 11),.p .len,[.t 10],(some (8,true)),[]⟩,
⟨(some 12),.p (.bin .gtr),[.t 11,.c (.int .i64 0)],(some (8,true)),[]⟩,
⟨(some 13),.p .pick,[.t 8,.t 12,.c (.bool false)],none,[]⟩,
⟨(some 14),.p (.bld [(.slc none 0 0 none),(.bool false)] [(0,1),(1,1)]),[.t 4,.t 13],none,[]⟩,
⟨none,.w (.st 2),[.t 2,.t 14],none,[]⟩] false []) <|
 .ret, [.cell 2 2 true]⟩
structure D485 (T : Tab) : Prop where
  fn : T.fn 485 = some ir485
  pr : T.prim 485 = none
/-- motley/motleyref26.digit -/
def ir489 : AFunc := ⟨.seq (.region [
⟨(some 2),.w .box,[.t 0],none,[]⟩,
⟨(some 4),.p .mv,[.c (.int .i64 0)],none,[]⟩] false []) <|
 .seq (.seq (.region [
⟨(some 5),.p .mv,[.t 1],none,[]⟩,
⟨(some 6),.p (.fa 0),[.t 2],none,[]⟩,
⟨(some 7),.r (.ld 1 false),[.t 6],none,[]⟩,
⟨(some 8),.p .len,[.t 7],none,[]⟩,
⟨(some 9),.p (.bin .lss),[.t 5,.t 8],none,[]⟩] false []) <|
 .cond (.t 9) (.seq (.region [
⟨(some 10),.p (.fa 0),[.t 2],none,[]⟩,
⟨(some 11),.r (.ld 1 false),[.t 10],none,[]⟩,
⟨(some 12),.p .mv,[.t 1],none,[]⟩,
⟨(some 13),.p (.ia 1),[.t 11,.t 12],none,[]⟩,
⟨(some 14),.r (.ld 1 false),[.t 13],none,[]⟩,
⟨(some 4),.p .mv,[.t 14],none,[]⟩] false []) <|
 .ret) (.skip)) <|
 .seq (.region [
⟨(some 4),.p .mv,[.c (.int .i64 0)],none,[]⟩] false []) <|
 .ret, [.tmp 4]⟩
structure D489 (T : Tab) : Prop where
  fn : T.fn 489 = some ir489
  pr : T.prim 489 = none
/-- motley/motleyref26.add -/
def ir451 : AFunc := ⟨.seq (.region [
⟨(some 2),.w .box,[.t 0],none,[]⟩,
⟨(some 3),.w .box,[.t 1],none,[]⟩,
⟨(some 4),.w .box,[.c (.agg [(.slc none 0 0 none),(.bool false)])],none,[]⟩] false []) <|
 .seq (.seq (.region [
⟨(some 13),.p (.fa 1),[.t 2],none,[]⟩,
⟨(some 14),.r (.ld 1 false),[.t 13],none,[]⟩,
⟨(some 15),.p (.fa 1),[.t 3],none,[]⟩,
⟨(some 16),.r (.ld 1 false),[.t 15],none,[]⟩,
⟨(some 17),.p (.eqB true),[.t 14,.t 16],none,[]⟩] false []) <|
 .cond (.t 17) (.seq (.seq (.region [
⟨(some 18),.r (.ld 2 true),[.t 2],none,[]⟩,
⟨(some 19),.r (.ld 2 true),[.t 3],none,[]⟩,
⟨(some 20),.w .call,[.c (.fn 475 [] []),.t 18,.t 19],none,[]⟩,
⟨(some 21),.p (.bin .lss),[.t 20,.c (.int .i64 0)],none,[]⟩] false []) <|
 .cond (.t 21) (.region [
⟨(some 22),.r (.ld 2 true),[.t 3],none,[]⟩,
⟨(some 23),.r (.ld 2 true),[.t 2],none,[]⟩,
⟨none,.w (.st 2),[.t 2,.t 22],none,[]⟩,
⟨none,.w (.st 2),[.t 3,.t 23],none,[]⟩] false []) (.skip)) <|
 .seq (.region [
⟨(some 24),.p (.fa 1),[.t 2],none,[]⟩,
⟨(some 25),.r (.ld 1 false),[.t 24],none,[]⟩,
⟨(some 26),.p (.bld [(.slc none 0 0 none),(.bool false)] [(1,1)]),[.t 25],none,[]⟩,
⟨(some 5),.w .box,[.c (.agg [(.slc none 0 0 none),(.bool false)])],none,[]⟩,
⟨none,.w (.st 2),[.t 5,.t 26],none,[]⟩] false []) <|
 .seq (.region [
⟨(some 6),.p .mv,[.c (.int .i64 0)],none,[]⟩] false []) <|
 .seq (.seq (.region [
⟨(some 7),.p .mv,[.c (.int .i64 0)],none,[]⟩] false []) <|
 .block 0 (.loop (.seq (.seq (.region [
⟨(some 27),.p .mv,[.t 7],none,[]⟩,
⟨(some 28),.p (.fa 0),[.t 2],none,[]⟩,
⟨(some 29),.r (.ld 1 false),[.t 28],none,[]⟩,
⟨(some 30),.p .len,[.t 29],none,[]⟩,
⟨(some 31),.p (.bin .lss),[.t 27,.t 30],none,[]⟩] false []) <|
 .cond (.t 31) (.skip) (.exit 0)) <|
 .seq (.block 1 (.seq (.region [
⟨(some 34),.p (.fa 0),[.t 2],none,[]⟩,
⟨(some 35),.r (.ld 1 false),[.t 34],none,[]⟩,
⟨(some 36),.p .mv,[.t 7],none,[]⟩,
⟨(some 37),.p (.ia 1),[.t 35,.t 36],none,[]⟩,
⟨(some 38),.r (.ld 1 false),[.t 37],none,[]⟩,
⟨(some 39),.r (.ld 2 true),[.t 3],none,[]⟩,
⟨(some 40),.p .mv,[.t 7],none,[]⟩,
⟨(some 41),.w .call,[.c (.fn 489 [] []),.t 39,.t 40],none,[]⟩,
⟨(some 42),.p (.bin .sub),[.t 38,.t 41],none,[]⟩,
⟨(some 43),.p .mv,[.t 6],none,[]⟩,
⟨(some 44),.p (.bin .sub),[.t 42,.t 43],none,[]⟩,
⟨(some 8),.p .mv,[.t 44],none,[]⟩] true [(1,7),(4,7)]) <|
 .seq (.region [
⟨(some 6),.p .mv,[.c (.int .i64 0)],none,[]⟩] false []) <|
 .seq (.seq (.region [
⟨(some 45),.p .mv,[.t 8],none,[]⟩,
⟨(some 46),.p (.bin .lss),[.t 45,.c (.int .i64 0)],none,[]⟩] false []) <|
 .cond (.t 46) (.seq (.region [
⟨(some 47),.p .mv,[.t 8],none,[]⟩,
⟨(some 48),.p (.bin .add),[.t 47,.c (.int .i64 10)],none,[]⟩,
⟨(some 8),.p .mv,[.t 48],none,[]⟩] false []) <|
 .region [
⟨(some 6),.p .mv,[.c (.int .i64 1)],none,[]⟩] false []) (.skip)) <|
 .region [
⟨(some 49),.p (.fa 0),[.t 5],none,[]⟩,
⟨(some 50),.r (.ld 1 false),[.t 49],none,[]⟩,
⟨(some 51),.p .mv,[.t 8],none,[]⟩,
⟨(some 52),.w (.bsl 1 1 [(.int .i64 0)] [(0,1)]),[.t 51],none,[]⟩,
⟨(some 53),.w (.app 1 8),[.t 50,.t 52],none,[]⟩,
⟨(some 54),.p (.fa 0),[.t 5],none,[]⟩,
⟨none,.w (.st 1),[.t 54,.t 53],none,[]⟩] false [])) <|
 .region [
⟨(some 32),.p .mv,[.t 7],none,[]⟩,
⟨(some 33),.p (.bin .add),[.t 32,.c (.int .i64 1)],none,[]⟩,
⟨(some 7),.p .mv,[.t 33],none,[]⟩] false []))) <|
 .seq (.region [
⟨(some 55),.r (.ld 2 true),[.t 5],none,[]⟩,
⟨(some 56),.w .call,[.c (.fn 453 [] []),.t 55],none,[]⟩,
⟨none,.w (.st 2),[.t 4,.t 56],none,[]⟩] false []) <|
 .ret) (.skip)) <|
 .seq (.region [
⟨(some 57),.p (.fa 1),[.t 2],none,[]⟩,
⟨(some 58),.r (.ld 1 false),[.t 57],none,[]⟩,
⟨(some 59),.p (.bld [(.slc none 0 0 none),(.bool false)] [(1,1)]),[.t 58],none,[]⟩,
⟨(some 9),.w .box,[.c (.agg [(.slc none 0 0 none),(.bool false)])],none,[]⟩,
⟨none,.w (.st 2),[.t 9,.t 59],none,[]⟩] false []) <|
 .seq (.region [
⟨(some 10),.p .mv,[.c (.int .i64 0)],none,[]⟩] false []) <|
 .seq (.seq (.region [
⟨(some 11),.p .mv,[.c (.int .i64 0)],none,[]⟩] false []) <|
 .block 2 (.loop (.seq (.seq (.region [
⟨(some 60),.p .mv,[.t 11],none,[]⟩,
⟨(some 61),.p (.fa 0),[.t 2],none,[]⟩,
⟨(some 62),.r (.ld 1 false),[.t 61],none,[]⟩,
⟨(some 63),.p .len,[.t 62],none,[]⟩,
⟨(some 64),.p (.fa 0),[.t 3],none,[]⟩,
⟨(some 65),.r (.ld 1 false),[.t 64],none,[]⟩,
⟨(some 66),.p .len,[.t 65],none,[]⟩,
⟨(some 67),.p .max,[.t 63,.t 66],none,[]⟩,
⟨(some 68),.p (.bin .lss),[.t 60,.t 67],none,[]⟩,
⟨(some 69),.p .mv,[.t 68],none,[]⟩,
⟨(some 70),.p .mv,[.t 10],(some (69,false)),[]⟩,
⟨(some 71),.p (.bin .gtr),[.t 70,.c (.int .i64 0)],(some (69,false)),[]⟩,
⟨(some 72),.p .pick,[.t 69,.c (.bool true),.t 71],none,[]⟩] false []) <|
 .cond (.t 72) (.skip) (.exit 2)) <|
 .seq (.block 3 (.seq (.region [
⟨(some 75),.r (.ld 2 true),[.t 2],none,[]⟩,
⟨(some 76),.p .mv,[.t 11],none,[]⟩,
⟨(some 77),.w .call,[.c (.fn 489 [] []),.t 75,.t 76],none,[]⟩,
⟨(some 78),.r (.ld 2 true),[.t 3],none,[]⟩,
⟨(some 79),.p .mv,[.t 11],none,[]⟩,
⟨(some 80),.w .call,[.c (.fn 489 [] []),.t 78,.t 79],none,[]⟩,
⟨(some 81),.p (.bin .add),[.t 77,.t 80],none,[]⟩,
⟨(some 82),.p .mv,[.t 10],none,[]⟩,
⟨(some 83),.p (.bin .add),[.t 81,.t 82],none,[]⟩,
⟨(some 12),.p .mv,[.t 83],none,[]⟩] true [(3,2)]) <|
 .seq (.region [
⟨(some 84),.p (.fa 0),[.t 9],none,[]⟩,
⟨(some 85),.r (.ld 1 false),[.t 84],none,[]⟩,
⟨(some 86),.p .mv,[.t 12],none,[]⟩,
⟨(some 87),.p (.bin .rem),[.t 86,.c (.int .i64 10)],none,[]⟩,
⟨(some 88),.w (.bsl 1 1 [(.int .i64 0)] [(0,1)]),[.t 87],none,[]⟩,
⟨(some 89),.w (.app 1 8),[.t 85,.t 88],none,[]⟩,
⟨(some 90),.p (.fa 0),[.t 9],none,[]⟩,
⟨none,.w (.st 1),[.t 90,.t 89],none,[]⟩] false []) <|
 .region [
⟨(some 91),.p .mv,[.t 12],none,[]⟩,
⟨(some 92),.p (.bin .quo),[.t 91,.c (.int .i64 10)],none,[]⟩,
⟨(some 10),.p .mv,[.t 92],none,[]⟩] false [])) <|
 .region [
⟨(some 73),.p .mv,[.t 11],none,[]⟩,
⟨(some 74),.p (.bin .add),[.t 73,.c (.int .i64 1)],none,[]⟩,
⟨(some 11),.p .mv,[.t 74],none,[]⟩] false []))) <|
 .seq (.region [
⟨(some 93),.r (.ld 2 true),[.t 9],none,[]⟩,
⟨(some 94),.w .call,[.c (.fn 453 [] []),.t 93],none,[]⟩,
⟨none,.w (.st 2),[.t 4,.t 94],none,[]⟩] false []) <|
 .ret, [.cell 4 2 true]⟩
structure D451 (T : Tab) : Prop where
  fn : T.fn 451 = some ir451
  pr : T.prim 451 = none
  d475 : D475 T
  d489 : D489 T
  d453 : D453 T
/-- motley/motleyref26.sub -/
def ir476 : AFunc := ⟨.seq (.region [
⟨(some 2),.w .box,[.t 0],none,[]⟩,
⟨(some 3),.w .box,[.t 1],none,[]⟩,
⟨(some 4),.w .box,[.c (.agg [(.slc none 0 0 none),(.bool false)])],none,[]⟩] false []) <|
 .seq (.region [
⟨(some 5),.r (.ld 2 true),[.t 2],none,[]⟩,
⟨(some 6),.r (.ld 2 true),[.t 3],none,[]⟩,
⟨(some 7),.w .call,[.c (.fn 485 [] []),.t 6],none,[]⟩,
⟨(some 8),.w .call,[.c (.fn 451 [] []),.t 5,.t 7],none,[]⟩,
⟨none,.w (.st 2),[.t 4,.t 8],none,[]⟩] true [(0,2)]) <|
 .ret, [.cell 4 2 true]⟩
structure D476 (T : Tab) : Prop where
  fn : T.fn 476 = some ir476
  pr : T.prim 476 = none
  d485 : D485 T
  d451 : D451 T
/-- motley/motleyref26.split -/
def ir450 : AFunc := ⟨.seq (.region [
⟨(some 2),.w .box,[.t 0],none,[]⟩,
⟨(some 3),.w .box,[.t 1],none,[]⟩,
⟨(some 4),.w .box,[.c (.agg [(.slc none 0 0 none),(.bool false)])],none,[]⟩,
⟨(some 5),.w .box,[.c (.agg [(.slc none 0 0 none),(.bool false)])],none,[]⟩] false []) <|
 .seq (.region [
⟨(some 9),.p (.fa 0),[.t 2],none,[]⟩,
⟨(some 10),.r (.ld 1 false),[.t 9],none,[]⟩,
⟨(some 11),.p .len,[.t 10],none,[]⟩,
⟨(some 12),.w (.mks 8 [(.int .i64 0)]),[.t 11,.t 11],none,[]⟩,
⟨(some 6),.p .mv,[.t 12],none,[]⟩] false []) <|
 .seq (.region [
⟨(some 7),.w .box,[.c (.agg [(.slc none 0 0 none),(.bool false)])],none,[]⟩] false []) <|
 .seq (.seq (.region [
⟨(some 13),.p (.fa 0),[.t 2],none,[]⟩,
⟨(some 14),.r (.ld 1 false),[.t 13],none,[]⟩,
⟨(some 15),.p .len,[.t 14],none,[]⟩,
⟨(some 16),.p (.bin .sub),[.t 15,.c (.int .i64 1)],none,[]⟩,
⟨(some 8),.p .mv,[.t 16],none,[]⟩] false []) <|
 .block 0 (.loop (.seq (.seq (.region [
⟨(some 17),.p .mv,[.t 8],none,[]⟩,
⟨(some 18),.p (.bin .geq),[.t 17,.c (.int .i64 0)],none,[]⟩] false []) <|
 .cond (.t 18) (.skip) (.exit 0)) <|
 .seq (.block 1 (.seq (.region [
⟨(some 21),.p (.fa 0),[.t 2],none,[]⟩,
⟨(some 22),.r (.ld 1 false),[.t 21],none,[]⟩,
⟨(some 23),.p .mv,[.t 8],none,[]⟩,
⟨(some 24),.p (.ia 1),[.t 22,.t 23],none,[]⟩,
⟨(some 25),.r (.ld 1 false),[.t 24],none,[]⟩,
⟨(some 26),.w (.bsl 1 1 [(.int .i64 0)] [(0,1)]),[.t 25],none,[]⟩,
⟨(some 27),.p (.fa 0),[.t 7],none,[]⟩,
⟨(some 28),.r (.ld 1 false),[.t 27],none,[]⟩,
⟨(some 29),.w (.app 1 8),[.t 26,.t 28],none,[]⟩,
⟨(some 30),.p (.bld [(.slc none 0 0 none),(.bool false)] [(0,1),(1,1)]),[.t 29,.c (.bool false)],none,[]⟩,
⟨(some 31),.w .call,[.c (.fn 453 [] []),.t 30],none,[]⟩,
⟨none,.w (.st 2),[.t 7,.t 31],none,[]⟩] true [(7,5)]) <|
 .block 2 (.loop (.seq (.seq (.region [
⟨(some 32),.r (.ld 2 true),[.t 7],none,[]⟩,
⟨(some 33),.r (.ld 2 true),[.t 3],none,[]⟩,
⟨(some 34),.w .call,[.c (.fn 475 [] []),.t 32,.t 33],none,[]⟩,
⟨(some 35),.p (.bin .geq),[.t 34,.c (.int .i64 0)],none,[]⟩] false []) <|
 .cond (.t 35) (.skip) (.exit 2)) <|
 .block 3 (.seq (.region [
⟨(some 36),.r (.ld 2 true),[.t 7],none,[]⟩,
⟨(some 37),.r (.ld 2 true),[.t 3],none,[]⟩,
⟨(some 38),.w .call,[.c (.fn 476 [] []),.t 36,.t 37],none,[]⟩,
⟨none,.w (.st 2),[.t 7,.t 38],none,[]⟩] false []) <|
 .region [
⟨(some 39),.p .mv,[.t 6],none,[]⟩,
⟨(some 40),.p .mv,[.t 8],none,[]⟩,
⟨(some 41),.p (.ia 1),[.t 39,.t 40],none,[]⟩,
⟨(some 42),.r (.ld 1 false),[.t 41],none,[]⟩,
⟨(some 43),.p (.bin .add),[.t 42,.c (.int .i64 1)],none,[]⟩,
⟨(some 44),.p (.ia 1),[.t 39,.t 40],none,[]⟩,
⟨none,.w (.st 1),[.t 44,.t 43],none,[]⟩] false []))))) <|
 .region [
⟨(some 19),.p .mv,[.t 8],none,[]⟩,
⟨(some 20),.p (.bin .sub),[.t 19,.c (.int .i64 1)],none,[]⟩,
⟨(some 8),.p .mv,[.t 20],none,[]⟩] false []))) <|
 .seq (.region [
⟨(some 45),.p .mv,[.t 6],none,[]⟩,
⟨(some 46),.p (.bld [(.slc none 0 0 none),(.bool false)] [(0,1),(1,1)]),[.t 45,.c (.bool false)],none,[]⟩,
⟨(some 47),.w .call,[.c (.fn 453 [] []),.t 46],none,[]⟩,
⟨(some 48),.r (.ld 2 true),[.t 7],none,[]⟩,
⟨none,.w (.st 2),[.t 4,.t 47],none,[]⟩,
⟨none,.w (.st 2),[.t 5,.t 48],none,[]⟩] true [(3,2),(3,4)]) <|
 .ret, [.cell 4 2 true,.cell 5 2 true]⟩
structure D450 (T : Tab) : Prop where
  fn : T.fn 450 = some ir450
  pr : T.prim 450 = none
  d453 : D453 T
  d475 : D475 T
  d476 : D476 T
/-- motley/motleyref26.of -/
def ir454 : AFunc := ⟨.seq (.region [
⟨(some 2),.w .box,[.c (.agg [(.slc none 0 0 none),(.bool false)])],none,[]⟩] false []) <|
 .seq (.region [
⟨(some 5),.p .mv,[.t 0],none,[]⟩,
⟨(some 6),.p (.bin .lss),[.t 5,.c (.int .i64 0)],none,[]⟩,
⟨(some 7),.p (.bld [(.slc none 0 0 none),(.bool false)] [(1,1)]),[.t 6],none,[]⟩,
⟨(some 3),.w .box,[.c (.agg [(.slc none 0 0 none),(.bool false)])],none,[]⟩,
⟨none,.w (.st 2),[.t 3,.t 7],none,[]⟩] false []) <|
 .seq (.region [
⟨(some 8),.p .mv,[.t 0],none,[]⟩,
⟨(some 9),.p (.conv .u64),[.t 8],none,[]⟩,
⟨(some 4),.p .mv,[.t 9],none,[]⟩] false []) <|
 .seq (.seq (.region [
⟨(some 10),.p .mv,[.t 0],none,[]⟩,
⟨(some 11),.p (.bin .lss),[.t 10,.c (.int .i64 0)],none,[]⟩] false []) <|
 .cond (.t 11) (.region [
⟨(some 12),.p .mv,[.t 4],none,[]⟩,
⟨(some 13),.p (.un .neg),[.t 12],none,[]⟩,
⟨(some 4),.p .mv,[.t 13],none,[]⟩] false []) (.skip)) <|
 .seq (.block 0 (.loop (.seq (.seq (.region [
⟨(some 14),.p .mv,[.t 4],none,[]⟩,
⟨(some 15),.p (.bin .gtr),[.t 14,.c (.int .u64 0)],none,[]⟩] false []) <|
 .cond (.t 15) (.skip) (.exit 0)) <|
 .block 1 (.seq (.region [
⟨(some 16),.p (.fa 0),[.t 3],none,[]⟩,
⟨(some 17),.r (.ld 1 false),[.t 16],none,[]⟩,
⟨(some 18),.p .mv,[.t 4],none,[]⟩,
⟨(some 19),.p (.bin .rem),[.t 18,.c (.int .u64 10)],none,[]⟩,
⟨(some 20),.p (.conv .i64),[.t 19],none,[]⟩,
⟨(some 21),.w (.bsl 1 1 [(.int .i64 0)] [(0,1)]),[.t 20],none,[]⟩,
⟨(some 22),.w (.app 1 8),[.t 17,.t 21],none,[]⟩,
⟨(some 23),.p (.fa 0),[.t 3],none,[]⟩,
⟨none,.w (.st 1),[.t 23,.t 22],none,[]⟩] false []) <|
 .region [
⟨(some 24),.p .mv,[.t 4],none,[]⟩,
⟨(some 25),.p (.bin .quo),[.t 24,.c (.int .u64 10)],none,[]⟩,
⟨(some 4),.p .mv,[.t 25],none,[]⟩] false [])))) <|
 .seq (.region [
⟨(some 26),.r (.ld 2 true),[.t 3],none,[]⟩,
⟨none,.w (.st 2),[.t 2,.t 26],none,[]⟩] false []) <|
 .ret, [.cell 2 2 true]⟩
structure D454 (T : Tab) : Prop where
  fn : T.fn 454 = some ir454
  pr : T.prim 454 = none
/-- motley/motleyref26.mul -/
def ir452 : AFunc := ⟨.seq (.region [
⟨(some 2),.w .box,[.t 0],none,[]⟩,
⟨(some 3),.w .box,[.t 1],none,[]⟩,
⟨(some 4),.w .box,[.c (.agg [(.slc none 0 0 none),(.bool false)])],none,[]⟩] false []) <|
 .seq (.region [
⟨(some 9),.p (.fa 0),[.t 2],none,[]⟩,
⟨(some 10),.r (.ld 1 false),[.t 9],none,[]⟩,
⟨(some 11),.p .len,[.t 10],none,[]⟩,
⟨(some 12),.p (.fa 0),[.t 3],none,[]⟩,
⟨(some 13),.r (.ld 1 false),[.t 12],none,[]⟩,
⟨(some 14),.p .len,[.t 13],none,[]⟩,
⟨(some 15),.p (.bin .add),[.t 11,.t 14],none,[]⟩,
⟨(some 16),.p (.bin .add),[.t 15,.c (.int .i64 1)],none,[]⟩,
⟨(some 17),.w (.mks 8 [(.int .i64 0)]),[.t 16,.t 16],none,[]⟩,
⟨(some 5),.p .mv,[.t 17],none,[]⟩] false []) <|
 .seq (.seq (.region [
⟨(some 6),.p .mv,[.c (.int .i64 0)],none,[]⟩] false []) <|
 .block 0 (.loop (.seq (.seq (.region [
⟨(some 18),.p .mv,[.t 6],none,[]⟩,
⟨(some 19),.p (.fa 0),[.t 2],none,[]⟩,
⟨(some 20),.r (.ld 1 false),[.t 19],none,[]⟩,
⟨(some 21),.p .len,[.t 20],none,[]⟩,
⟨(some 22),.p (.bin .lss),[.t 18,.t 21],none,[]⟩] false []) <|
 .cond (.t 22) (.skip) (.exit 0)) <|
 .seq (.block 1 (.seq (.region [
⟨(some 7),.p .mv,[.c (.int .i64 0)],none,[]⟩] false []) <|
 .block 2 (.loop (.seq (.seq (.region [
⟨(some 25),.p .mv,[.t 7],none,[]⟩,
⟨(some 26),.p (.fa 0),[.t 3],none,[]⟩,
⟨(some 27),.r (.ld 1 false),[.t 26],none,[]⟩,
⟨(some 28),.p .len,[.t 27],none,[]⟩,
⟨(some 29),.p (.bin .lss),[.t 25,.t 28],none,[]⟩] false []) <|
 .cond (.t 29) (.skip) (.exit 2)) <|
 .seq (.block 3 (.region [
⟨(some 32),.p .mv,[.t 5],none,[]⟩,
⟨(some 33),.p .mv,[.t 6],none,[]⟩,
⟨(some 34),.p .mv,[.t 7],none,[]⟩,
⟨(some 35),.p (.bin .add),[.t 33,.t 34],none,[]⟩,
⟨(some 36),.p (.ia 1),[.t 32,.t 35],none,[]⟩,
⟨(some 37),.r (.ld 1 false),[.t 36],none,[]⟩,
⟨(some 38),.p (.fa 0),[.t 2],none,[]⟩,
⟨(some 39),.r (.ld 1 false),[.t 38],none,[]⟩,
⟨(some 40),.p .mv,[.t 6],none,[]⟩,
⟨(some 41),.p (.ia 1),[.t 39,.t 40],none,[]⟩,
⟨(some 42),.r (.ld 1 false),[.t 41],none,[]⟩,
⟨(some 43),.p (.fa 0),[.t 3],none,[]⟩,
⟨(some 44),.r (.ld 1 false),[.t 43],none,[]⟩,
⟨(some 45),.p .mv,[.t 7],none,[]⟩,
⟨(some 46),.p (.ia 1),[.t 44,.t 45],none,[]⟩,
⟨(some 47),.r (.ld 1 false),[.t 46],none,[]⟩,
⟨(some 48),.p (.bin .mul),[.t 42,.t 47],none,[]⟩,
⟨(some 49),.p (.bin .add),[.t 37,.t 48],none,[]⟩,
⟨(some 50),.p (.ia 1),[.t 32,.t 35],none,[]⟩,
⟨none,.w (.st 1),[.t 50,.t 49],none,[]⟩] true [])) <|
 .region [
⟨(some 30),.p .mv,[.t 7],none,[]⟩,
⟨(some 31),.p (.bin .add),[.t 30,.c (.int .i64 1)],none,[]⟩,
⟨(some 7),.p .mv,[.t 31],none,[]⟩] false [])))) <|
 .region [
⟨(some 23),.p .mv,[.t 6],none,[]⟩,
⟨(some 24),.p (.bin .add),[.t 23,.c (.int .i64 1)],none,[]⟩,
⟨(some 6),.p .mv,[.t 24],none,[]⟩] false []))) <|
 .seq (.seq (.region [
⟨(some 8),.p .mv,[.c (.int .i64 0)],none,[]⟩] false []) <|
 .block 4 (.loop (.seq (.seq (.region [
⟨(some 51),.p .mv,[.t 8],none,[]⟩,
⟨(some 52),.p (.bin .add),[.t 51,.c (.int .i64 1)],none,[]⟩,
⟨(some 53),.p .mv,[.t 5],none,[]⟩,
⟨(some 54),.p .len,[.t 53],none,[]⟩,
⟨(some 55),.p (.bin .lss),[.t 52,.t 54],none,[]⟩] false []) <|
 .cond (.t 55) (.skip) (.exit 4)) <|
 .seq (.block 5 (.seq (.region [
⟨(some 58),.p .mv,[.t 5],none,[]⟩,
⟨(some 59),.p .mv,[.t 8],none,[]⟩,
⟨(some 60),.p (.bin .add),[.t 59,.c (.int .i64 1)],none,[]⟩,
⟨(some 61),.p (.ia 1),[.t 58,.t 60],none,[]⟩,
⟨(some 62),.r (.ld 1 false),[.t 61],none,[]⟩,
⟨(some 63),.p .mv,[.t 5],none,[]⟩,
⟨(some 64),.p .mv,[.t 8],none,[]⟩,
⟨(some 65),.p (.ia 1),[.t 63,.t 64],none,[]⟩,
⟨(some 66),.r (.ld 1 false),[.t 65],none,[]⟩,
⟨(some 67),.p (.bin .quo),[.t 66,.c (.int .i64 10)],none,[]⟩,
⟨(some 68),.p (.bin .add),[.t 62,.t 67],none,[]⟩,
⟨(some 69),.p (.ia 1),[.t 58,.t 60],none,[]⟩,
⟨none,.w (.st 1),[.t 69,.t 68],none,[]⟩] true []) <|
 .region [
⟨(some 70),.p .mv,[.t 5],none,[]⟩,
⟨(some 71),.p .mv,[.t 8],none,[]⟩,
⟨(some 72),.p (.ia 1),[.t 70,.t 71],none,[]⟩,
⟨(some 73),.r (.ld 1 false),[.t 72],none,[]⟩,
⟨(some 74),.p (.bin .rem),[.t 73,.c (.int .i64 10)],none,[]⟩,
⟨(some 75),.p (.ia 1),[.t 70,.t 71],none,[]⟩,
⟨none,.w (.st 1),[.t 75,.t 74],none,[]⟩] false [])) <|
 .region [
⟨(some 56),.p .mv,[.t 8],none,[]⟩,
⟨(some 57),.p (.bin .add),[.t 56,.c (.int .i64 1)],none,[]⟩,
⟨(some 8),.p .mv,[.t 57],none,[]⟩] false []))) <|
 .seq (.region [
⟨(some 76),.p .mv,[.t 5],none,[]⟩,
⟨(some 77),.p (.fa 1),[.t 2],none,[]⟩,
⟨(some 78),.r (.ld 1 false),[.t 77],none,[]⟩,
⟨(some 79),.p (.fa 1),[.t 3],none,[]⟩,
⟨(some 80),.r (.ld 1 false),[.t 79],none,[]⟩,
⟨(some 81),.p (.eqB true),[.t 78,.t 80],none,[]⟩,
⟨(some 82),.p (.bld [(.slc none 0 0 none),(.bool false)] [(0,1),(1,1)]),[.t 76,.t 81],none,[]⟩,
⟨(some 83),.w .call,[.c (.fn 453 [] []),.t 82],none,[]⟩,
⟨none,.w (.st 2),[.t 4,.t 83],none,[]⟩] false []) <|
 .ret, [.cell 4 2 true]⟩
structure D452 (T : Tab) : Prop where
  fn : T.fn 452 = some ir452
  pr : T.prim 452 = none
  d453 : D453 T
/-- motley/motleyref26.write -/
def ir455 : AFunc := ⟨.seq (.region [
⟨(some 1),.w .box,[.t 0],none,[]⟩,
⟨(some 2),.p .mv,[.c (.str [])],none,[]⟩] false []) <|
 .seq (.seq (.region [
⟨(some 5),.p (.fa 0),[.t 1],none,[]⟩,
⟨(some 6),.r (.ld 1 false),[.t 5],none,[]⟩,
⟨(some 7),.p .len,[.t 6],none,[]⟩,
⟨(some 8),.p (.bin .eql),[.t 7,.c (.int .i64 0)],none,[]⟩] false []) <|
 .cond (.t 8) (.seq (.region [
⟨(some 2),.p .mv,[.c (.str [48])],none,[]⟩] false []) <|
 .ret) (.skip)) <|
 .seq (.region [
⟨(some 3),.p .mv,[.c (.slc none 0 0 none)],none,[]⟩] false []) <|
 .seq (.seq (.region [
⟨(some 9),.p (.fa 1),[.t 1],none,[]⟩,
⟨(some 10),.r (.ld 1 false),[.t 9],none,[]⟩] false []) <|
 .cond (.t 10) (.region [
⟨(some 11),.p .mv,[.t 3],none,[]⟩,
⟨(some 12),.w (.bsl 1 1 [(.int .u8 0)] [(0,1)]),[.c (.int .u8 45)],none,[]⟩,
⟨(some 13),.w (.appT 5 1 1),[.t 11,.t 12],none,[]⟩,
⟨(some 3),.p .mv,[.t 13],none,[]⟩] false []) (.skip)) <|
 .seq (.seq (.region [
⟨(some 14),.p (.fa 0),[.t 1],none,[]⟩,
⟨(some 15),.r (.ld 1 false),[.t 14],none,[]⟩,
⟨(some 16),.p .len,[.t 15],none,[]⟩,
⟨(some 17),.p (.bin .sub),[.t 16,.c (.int .i64 1)],none,[]⟩,
⟨(some 4),.p .mv,[.t 17],none,[]⟩] false []) <|
 .block 0 (.loop (.seq (.seq (.region [
⟨(some 18),.p .mv,[.t 4],none,[]⟩,
⟨(some 19),.p (.bin .geq),[.t 18,.c (.int .i64 0)],none,[]⟩] false []) <|
 .cond (.t 19) (.skip) (.exit 0)) <|
 .seq (.block 1 (.region [
⟨(some 22),.p .mv,[.t 3],none,[]⟩,
⟨(some 23),.p (.fa 0),[.t 1],none,[]⟩,
⟨(some 24),.r (.ld 1 false),[.t 23],none,[]⟩,
⟨(some 25),.p .mv,[.t 4],none,[]⟩,
⟨(some 26),.p (.ia 1),[.t 24,.t 25],none,[]⟩,
⟨(some 27),.r (.ld 1 false),[.t 26],none,[]⟩,
⟨(some 28),.p (.bin .add),[.c (.int .i64 48),.t 27],none,[]⟩,
⟨(some 29),.p (.conv .u8),[.t 28],none,[]⟩,
⟨(some 30),.w (.bsl 1 1 [(.int .u8 0)] [(0,1)]),[.t 29],none,[]⟩,
⟨(some 31),.w (.appT 5 1 1),[.t 22,.t 30],none,[]⟩,
⟨(some 3),.p .mv,[.t 31],none,[]⟩] false [])) <|
 .region [
⟨(some 20),.p .mv,[.t 4],none,[]⟩,
⟨(some 21),.p (.bin .sub),[.t 20,.c (.int .i64 1)],none,[]⟩,
⟨(some 4),.p .mv,[.t 21],none,[]⟩] false []))) <|
 .seq (.region [
⟨(some 32),.p .mv,[.t 3],none,[]⟩,
⟨(some 33),.r .b2s,[.t 32],none,[]⟩,
⟨(some 2),.p .mv,[.t 33],none,[]⟩] false []) <|
 .ret, [.tmp 2]⟩
structure D455 (T : Tab) : Prop where
  fn : T.fn 455 = some ir455
  pr : T.prim 455 = none
end Go.Am
