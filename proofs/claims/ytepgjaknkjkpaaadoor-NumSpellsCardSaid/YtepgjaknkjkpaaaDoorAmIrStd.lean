/- Texts of functions for the small machine, printed by mkfile.py out of the compiled functions, and for each what a table has to hold. -/
import Derived.Test.YtepgjaknkjkpaaaDoorAmPrimFD
set_option linter.unusedVariables false
namespace Go.Am
/-- slices.IndexFunc[[]int,int] -/
def ir174 : AFunc := ⟨.seq (.region [
⟨(some 4),.p .mv,[.c (.int .i64 0)],none,[]⟩] false []) <|
 .seq (.seq (.region [
⟨(some 6),.p .mv,[.t 0],none,[]⟩,
⟨(some 7),.p .len,[.t 6],none,[]⟩,
⟨(some 8),.p .mv,[.c (.int .i64 0)],none,[]⟩] false []) <|
 .block 0 (.loop (.seq (.region [
⟨(some 9),.p (.bin .lss),[.t 8,.t 7],none,[]⟩] false []) <|
 .seq (.cond (.t 9) (.skip) (.exit 0)) <|
 .seq (.block 1 (.seq (.region [
⟨(some 10),.p .mv,[.t 8],none,[]⟩,
⟨(some 5),.p .mv,[.t 10],none,[]⟩] false []) <|
 .seq (.region [
⟨(some 11),.p .mv,[.t 1],none,[]⟩,
⟨(some 12),.p .mv,[.t 0],none,[]⟩,
⟨(some 13),.p .mv,[.t 5],none,[]⟩,
⟨(some 14),.p (.ia 1),[.t 12,.t 13],none,[]⟩,
⟨(some 15),.r (.ld 1 false),[.t 14],none,[]⟩,
⟨(some 16),.w .call,[.t 11,.t 15],none,[]⟩] false []) <|
 .cond (.t 16) (.seq (.region [
⟨(some 17),.p .mv,[.t 5],none,[]⟩,
⟨(some 4),.p .mv,[.t 17],none,[]⟩] false []) <|
 .ret) (.skip))) <|
 .region [
⟨(some 18),.p (.bin .add),[.t 8,.c (.int .i64 1)],none,[]⟩,
⟨(some 8),.p .mv,[.t 18],none,[]⟩] false []))) <|
 .seq (.region [
⟨(some 4),.p .mv,[.c (.int .i64 (-1))],none,[]⟩] false []) <|
 .ret, [.tmp 4]⟩
structure D174 (T : Tab) : Prop where
  fn : T.fn 174 = some ir174
  pr : T.prim 174 = none
/-- slices.ContainsFunc[[]int,int] -/
def ir151 : AFunc := ⟨.seq (.region [
⟨(some 4),.p .mv,[.c (.bool false)],none,[]⟩] false []) <|
 .seq (.region [
⟨(some 5),.p .mv,[.t 0],none,[]⟩,
⟨(some 6),.p .mv,[.t 1],none,[]⟩,
⟨(some 7),.w .call,[.c (.fn 174 [] []),.t 5,.t 6],none,[]⟩,
⟨(some 8),.p (.bin .geq),[.t 7,.c (.int .i64 0)],none,[]⟩,
⟨(some 4),.p .mv,[.t 8],none,[]⟩] false []) <|
 .ret, [.tmp 4]⟩
structure D151 (T : Tab) : Prop where
  fn : T.fn 151 = some ir151
  pr : T.prim 151 = none
  d174 : D174 T
/-- slices.Clone[[]string,string] -/
def ir153 : AFunc := ⟨.seq (.region [
⟨(some 2),.p .mv,[.c (.slc none 0 0 none)],none,[]⟩] false []) <|
 .seq (.seq (.region [
⟨(some 3),.p .mv,[.t 0],none,[]⟩,
⟨(some 4),.p (.isNil .slc false),[.t 3],none,[]⟩] false []) <|
 .cond (.t 4) (.seq (.region [
⟨(some 2),.p .mv,[.c (.slc none 0 0 none)],none,[]⟩] false []) <|
 .ret) (.skip)) <|
 .seq (.region [
⟨(some 5),.w (.bsl 1 0 [] []),[],none,[]⟩,
⟨(some 6),.p .mv,[.t 0],none,[]⟩,
⟨(some 7),.w (.app 1 16),[.t 5,.t 6],none,[]⟩,
⟨(some 2),.p .mv,[.t 7],none,[]⟩] false []) <|
 .ret, [.tmp 2]⟩
structure D153 (T : Tab) : Prop where
  fn : T.fn 153 = some ir153
  pr : T.prim 153 = none
/-- slices.Grow[[]string,string] -/
def ir175 : AFunc := ⟨.seq (.region [
⟨(some 4),.p .mv,[.c (.slc none 0 0 none)],none,[]⟩] false []) <|
 .seq (.seq (.region [
⟨(some 5),.p .mv,[.t 1],none,[]⟩,
⟨(some 6),.p (.bin .lss),[.t 5,.c (.int .i64 0)],none,[]⟩] false []) <|
 .cond (.t 6) (.region [
⟨(some 7),.p .fail,[.c (.str [99,97,110,110,111,116,32,98,101,32,110,101,103,97,116,105,118,101])],none,[]⟩,
⟨none,.p .fail,[.t 7],none,[]⟩] false []) (.skip)) <|
 .seq (.seq (.region [
⟨(some 8),.p .mv,[.t 1],none,[]⟩,
⟨(some 9),.p .mv,[.t 0],none,[]⟩,
⟨(some 10),.p .cap,[.t 9],none,[]⟩,
⟨(some 11),.p .mv,[.t 0],none,[]⟩,
⟨(some 12),.p .len,[.t 11],none,[]⟩,
⟨(some 13),.p (.bin .sub),[.t 10,.t 12],none,[]⟩,
⟨(some 14),.p (.bin .sub),[.t 8,.t 13],none,[]⟩,
⟨(some 1),.p .mv,[.t 14],none,[]⟩] false []) <|
 .seq (.region [
⟨(some 15),.p .mv,[.t 1],none,[]⟩,
⟨(some 16),.p (.bin .gtr),[.t 15,.c (.int .i64 0)],none,[]⟩] false []) <|
 .cond (.t 16) (.region [
⟨(some 17),.p .mv,[.t 0],none,[]⟩,
⟨(some 18),.p .mv,[.t 0],none,[]⟩,
⟨(some 19),.p .cap,[.t 18],none,[]⟩,
⟨(some 20),.p (.sl 1 false true false),[.t 17,.t 19],none,[]⟩,
⟨(some 21),.p .mv,[.t 1],none,[]⟩,
⟨(some 22),.w (.grow 1 16 [(.str [])]),[.t 20,.t 21],none,[]⟩,
⟨(some 23),.p .mv,[.t 0],none,[]⟩,
⟨(some 24),.p .len,[.t 23],none,[]⟩,
⟨(some 25),.p (.sl 1 false true false),[.t 22,.t 24],none,[]⟩,
⟨(some 0),.p .mv,[.t 25],none,[]⟩] false []) (.skip)) <|
 .seq (.region [
⟨(some 26),.p .mv,[.t 0],none,[]⟩,
⟨(some 4),.p .mv,[.t 26],none,[]⟩] false []) <|
 .ret, [.tmp 4]⟩
structure D175 (T : Tab) : Prop where
  fn : T.fn 175 = some ir175
  pr : T.prim 175 = none
/-- slices.Concat[[]string,string] -/
def ir154 : AFunc := ⟨.seq (.region [
⟨(some 2),.p .mv,[.c (.slc none 0 0 none)],none,[]⟩] false []) <|
 .seq (.region [
⟨(some 3),.p .mv,[.c (.int .i64 0)],none,[]⟩] false []) <|
 .seq (.seq (.region [
⟨(some 9),.p .mv,[.t 0],none,[]⟩,
⟨(some 10),.p .len,[.t 9],none,[]⟩,
⟨(some 11),.p .mv,[.c (.int .i64 0)],none,[]⟩] false []) <|
 .block 0 (.loop (.seq (.region [
⟨(some 12),.p (.bin .lss),[.t 11,.t 10],none,[]⟩] false []) <|
 .seq (.cond (.t 12) (.skip) (.exit 0)) <|
 .seq (.block 1 (.seq (.region [
⟨(some 13),.p (.ia 1),[.t 9,.t 11],none,[]⟩,
⟨(some 14),.r (.ld 1 false),[.t 13],none,[]⟩,
⟨(some 5),.p .mv,[.t 14],none,[]⟩] false []) <|
 .seq (.region [
⟨(some 15),.p .mv,[.t 3],none,[]⟩,
⟨(some 16),.p .mv,[.t 5],none,[]⟩,
⟨(some 17),.p .len,[.t 16],none,[]⟩,
⟨(some 18),.p (.bin .add),[.t 15,.t 17],none,[]⟩,
⟨(some 3),.p .mv,[.t 18],none,[]⟩] false []) <|
 .seq (.region [
⟨(some 19),.p .mv,[.t 3],none,[]⟩,
⟨(some 20),.p (.bin .lss),[.t 19,.c (.int .i64 0)],none,[]⟩] false []) <|
 .cond (.t 20) (.region [
⟨(some 21),.p .fail,[.c (.str [108,101,110,32,111,117,116,32,111,102,32,114,97,110,103,101])],none,[]⟩,
⟨none,.p .fail,[.t 21],none,[]⟩] false []) (.skip))) <|
 .region [
⟨(some 22),.p (.bin .add),[.t 11,.c (.int .i64 1)],none,[]⟩,
⟨(some 11),.p .mv,[.t 22],none,[]⟩] false []))) <|
 .seq (.region [
⟨(some 23),.p .mv,[.t 3],none,[]⟩,
⟨(some 24),.w .call,[.c (.fn 175 [] []),.c (.slc none 0 0 none),.t 23],none,[]⟩,
⟨(some 6),.p .mv,[.t 24],none,[]⟩] false []) <|
 .seq (.seq (.region [
⟨(some 25),.p .mv,[.t 0],none,[]⟩,
⟨(some 26),.p .len,[.t 25],none,[]⟩,
⟨(some 27),.p .mv,[.c (.int .i64 0)],none,[]⟩] false []) <|
 .block 2 (.loop (.seq (.region [
⟨(some 28),.p (.bin .lss),[.t 27,.t 26],none,[]⟩] false []) <|
 .seq (.cond (.t 28) (.skip) (.exit 2)) <|
 .seq (.block 3 (.seq (.region [
⟨(some 29),.p (.ia 1),[.t 25,.t 27],none,[]⟩,
⟨(some 30),.r (.ld 1 false),[.t 29],none,[]⟩,
⟨(some 8),.p .mv,[.t 30],none,[]⟩] false []) <|
 .region [
⟨(some 31),.p .mv,[.t 6],none,[]⟩,
⟨(some 32),.p .mv,[.t 8],none,[]⟩,
⟨(some 33),.w (.app 1 16),[.t 31,.t 32],none,[]⟩,
⟨(some 6),.p .mv,[.t 33],none,[]⟩] false [])) <|
 .region [
⟨(some 34),.p (.bin .add),[.t 27,.c (.int .i64 1)],none,[]⟩,
⟨(some 27),.p .mv,[.t 34],none,[]⟩] false []))) <|
 .seq (.region [
⟨(some 35),.p .mv,[.t 6],none,[]⟩,
⟨(some 2),.p .mv,[.t 35],none,[]⟩] false []) <|
 .ret, [.tmp 2]⟩
structure D154 (T : Tab) : Prop where
  fn : T.fn 154 = some ir154
  pr : T.prim 154 = none
  d175 : D175 T
/-- internal/bytealg.CompareString -/
def ir177 : AFunc := ⟨.seq (.region [
⟨(some 4),.p .mv,[.c (.int .i64 0)],none,[]⟩] false []) <|
 .seq (.region [
⟨(some 5),.p .mv,[.t 0],none,[]⟩,
⟨(some 6),.p .mv,[.t 1],none,[]⟩,
⟨(some 7),.w .call,[.c (.fn 191 [] []),.t 5,.t 6],none,[]⟩,
⟨(some 4),.p .mv,[.t 7],none,[]⟩] false []) <|
 .ret, [.tmp 4]⟩
structure D177 (T : Tab) : Prop where
  fn : T.fn 177 = some ir177
  pr : T.prim 177 = none
  p191 : T.prim 191 = some cmpPrim
/-- strings.Compare -/
def ir158 : AFunc := ⟨.seq (.region [
⟨(some 4),.p .mv,[.c (.int .i64 0)],none,[]⟩] false []) <|
 .seq (.region [
⟨(some 5),.p .mv,[.t 0],none,[]⟩,
⟨(some 6),.p .mv,[.t 1],none,[]⟩,
⟨(some 7),.w .call,[.c (.fn 177 [] []),.t 5,.t 6],none,[]⟩,
⟨(some 4),.p .mv,[.t 7],none,[]⟩] false []) <|
 .ret, [.tmp 4]⟩
structure D158 (T : Tab) : Prop where
  fn : T.fn 158 = some ir158
  pr : T.prim 158 = none
  d177 : D177 T
/-- slices.Clone[[]int,int] -/
def ir173 : AFunc := ⟨.seq (.region [
⟨(some 2),.p .mv,[.c (.slc none 0 0 none)],none,[]⟩] false []) <|
 .seq (.seq (.region [
⟨(some 3),.p .mv,[.t 0],none,[]⟩,
⟨(some 4),.p (.isNil .slc false),[.t 3],none,[]⟩] false []) <|
 .cond (.t 4) (.seq (.region [
⟨(some 2),.p .mv,[.c (.slc none 0 0 none)],none,[]⟩] false []) <|
 .ret) (.skip)) <|
 .seq (.region [
⟨(some 5),.w (.bsl 1 0 [] []),[],none,[]⟩,
⟨(some 6),.p .mv,[.t 0],none,[]⟩,
⟨(some 7),.w (.app 1 8),[.t 5,.t 6],none,[]⟩,
⟨(some 2),.p .mv,[.t 7],none,[]⟩] false []) <|
 .ret, [.tmp 2]⟩
structure D173 (T : Tab) : Prop where
  fn : T.fn 173 = some ir173
  pr : T.prim 173 = none
/-- cmp.isNaN[int] -/
def ir192 : AFunc := ⟨.seq (.region [
⟨(some 2),.p .mv,[.c (.bool false)],none,[]⟩] false []) <|
 .seq (.region [
⟨(some 3),.p .mv,[.t 0],none,[]⟩,
⟨(some 4),.p .mv,[.t 0],none,[]⟩,
⟨(some 5),.p (.bin .neq),[.t 3,.t 4],none,[]⟩,
⟨(some 2),.p .mv,[.t 5],none,[]⟩] false []) <|
 .ret, [.tmp 2]⟩
structure D192 (T : Tab) : Prop where
  fn : T.fn 192 = some ir192
  pr : T.prim 192 = none
/-- cmp.Compare[int] -/
def ir178 : AFunc := ⟨.seq (.region [
⟨(some 4),.p .mv,[.c (.int .i64 0)],none,[]⟩] false []) <|
 .seq (.region [
⟨(some 7),.p .mv,[.t 0],none,[]⟩,
⟨(some 8),.w .call,[.c (.fn 192 [] []),.t 7],none,[]⟩,
⟨(some 5),.p .mv,[.t 8],none,[]⟩] false []) <|
 .seq (.region [
⟨(some 9),.p .mv,[.t 1],none,[]⟩,
⟨(some 10),.w .call,[.c (.fn 192 [] []),.t 9],none,[]⟩,
⟨(some 6),.p .mv,[.t 10],none,[]⟩] false []) <|
 .seq (.seq (.region [
⟨(some 11),.p .mv,[.t 5],none,[]⟩] false []) <|
 .cond (.t 11) (.seq (.seq (.region [
⟨(some 12),.p .mv,[.t 6],none,[]⟩] false []) <|
 .cond (.t 12) (.seq (.region [
⟨(some 4),.p .mv,[.c (.int .i64 0)],none,[]⟩] false []) <|
 .ret) (.skip)) <|
 .seq (.region [
⟨(some 4),.p .mv,[.c (.int .i64 (-1))],none,[]⟩] false []) <|
 .ret) (.skip)) <|
 .seq (.seq (.region [
⟨(some 13),.p .mv,[.t 6],none,[]⟩] false []) <|
 .cond (.t 13) (.seq (.region [
⟨(some 4),.p .mv,[.c (.int .i64 1)],none,[]⟩] false []) <|
 .ret) (.skip)) <|
 .seq (.seq (.region [
⟨(some 14),.p .mv,[.t 0],none,[]⟩,
⟨(some 15),.p .mv,[.t 1],none,[]⟩,
⟨(some 16),.p (.bin .lss),[.t 14,.t 15],none,[]⟩] false []) <|
 .cond (.t 16) (.seq (.region [
⟨(some 4),.p .mv,[.c (.int .i64 (-1))],none,[]⟩] false []) <|
 .ret) (.skip)) <|
 .seq (.seq (.region [
⟨(some 17),.p .mv,[.t 0],none,[]⟩,
⟨(some 18),.p .mv,[.t 1],none,[]⟩,
⟨(some 19),.p (.bin .gtr),[.t 17,.t 18],none,[]⟩] false []) <|
 .cond (.t 19) (.seq (.region [
⟨(some 4),.p .mv,[.c (.int .i64 1)],none,[]⟩] false []) <|
 .ret) (.skip)) <|
 .seq (.region [
⟨(some 4),.p .mv,[.c (.int .i64 0)],none,[]⟩] false []) <|
 .ret, [.tmp 4]⟩
structure D178 (T : Tab) : Prop where
  fn : T.fn 178 = some ir178
  pr : T.prim 178 = none
  d192 : D192 T
/-- slices.Index[[]string,string] -/
def ir193 : AFunc := ⟨.seq (.region [
⟨(some 4),.p .mv,[.c (.int .i64 0)],none,[]⟩] false []) <|
 .seq (.seq (.region [
⟨(some 6),.p .mv,[.t 0],none,[]⟩,
⟨(some 7),.p .len,[.t 6],none,[]⟩,
⟨(some 8),.p .mv,[.c (.int .i64 0)],none,[]⟩] false []) <|
 .block 0 (.loop (.seq (.region [
⟨(some 9),.p (.bin .lss),[.t 8,.t 7],none,[]⟩] false []) <|
 .seq (.cond (.t 9) (.skip) (.exit 0)) <|
 .seq (.block 1 (.seq (.region [
⟨(some 10),.p .mv,[.t 8],none,[]⟩,
⟨(some 5),.p .mv,[.t 10],none,[]⟩] false []) <|
 .seq (.region [
⟨(some 11),.p .mv,[.t 1],none,[]⟩,
⟨(some 12),.p .mv,[.t 0],none,[]⟩,
⟨(some 13),.p .mv,[.t 5],none,[]⟩,
⟨(some 14),.p (.ia 1),[.t 12,.t 13],none,[]⟩,
⟨(some 15),.r (.ld 1 false),[.t 14],none,[]⟩,
⟨(some 16),.p (.bin .eql),[.t 11,.t 15],none,[]⟩] false []) <|
 .cond (.t 16) (.seq (.region [
⟨(some 17),.p .mv,[.t 5],none,[]⟩,
⟨(some 4),.p .mv,[.t 17],none,[]⟩] false []) <|
 .ret) (.skip))) <|
 .region [
⟨(some 18),.p (.bin .add),[.t 8,.c (.int .i64 1)],none,[]⟩,
⟨(some 8),.p .mv,[.t 18],none,[]⟩] false []))) <|
 .seq (.region [
⟨(some 4),.p .mv,[.c (.int .i64 (-1))],none,[]⟩] false []) <|
 .ret, [.tmp 4]⟩
structure D193 (T : Tab) : Prop where
  fn : T.fn 193 = some ir193
  pr : T.prim 193 = none
/-- slices.Contains[[]string,string] -/
def ir179 : AFunc := ⟨.seq (.region [
⟨(some 4),.p .mv,[.c (.bool false)],none,[]⟩] false []) <|
 .seq (.region [
⟨(some 5),.p .mv,[.t 0],none,[]⟩,
⟨(some 6),.p .mv,[.t 1],none,[]⟩,
⟨(some 7),.w .call,[.c (.fn 193 [] []),.t 5,.t 6],none,[]⟩,
⟨(some 8),.p (.bin .geq),[.t 7,.c (.int .i64 0)],none,[]⟩,
⟨(some 4),.p .mv,[.t 8],none,[]⟩] false []) <|
 .ret, [.tmp 4]⟩
structure D179 (T : Tab) : Prop where
  fn : T.fn 179 = some ir179
  pr : T.prim 179 = none
  d193 : D193 T
/-- slices.Clone[[]motley/list.pair,motley/list.pair] -/
def ir190 : AFunc := ⟨.seq (.region [
⟨(some 2),.p .mv,[.c (.slc none 0 0 none)],none,[]⟩] false []) <|
 .seq (.seq (.region [
⟨(some 3),.p .mv,[.t 0],none,[]⟩,
⟨(some 4),.p (.isNil .slc false),[.t 3],none,[]⟩] false []) <|
 .cond (.t 4) (.seq (.region [
⟨(some 2),.p .mv,[.c (.slc none 0 0 none)],none,[]⟩] false []) <|
 .ret) (.skip)) <|
 .seq (.region [
⟨(some 5),.w (.bsl 5 0 [] []),[],none,[]⟩,
⟨(some 6),.p .mv,[.t 0],none,[]⟩,
⟨(some 7),.w (.app 5 48),[.t 5,.t 6],none,[]⟩,
⟨(some 2),.p .mv,[.t 7],none,[]⟩] false []) <|
 .ret, [.tmp 2]⟩
structure D190 (T : Tab) : Prop where
  fn : T.fn 190 = some ir190
  pr : T.prim 190 = none
/-- internal/stringslite.HasPrefix -/
def ir256 : AFunc := ⟨.seq (.region [
⟨(some 4),.p .mv,[.c (.bool false)],none,[]⟩] false []) <|
 .seq (.region [
⟨(some 5),.p .mv,[.t 0],none,[]⟩,
⟨(some 6),.p .lenS,[.t 5],none,[]⟩,
⟨(some 7),.p .mv,[.t 1],none,[]⟩,
⟨(some 8),.p .lenS,[.t 7],none,[]⟩,
⟨(some 9),.p (.bin .geq),[.t 6,.t 8],none,[]⟩,
⟨(some 10),.p .mv,[.t 9],none,[]⟩,
⟨(some 11),.p .mv,[.t 0],(some (10,true)),[]⟩,
⟨(some 12),.p .mv,[.t 1],(some (10,true)),[]⟩,
⟨(some 13),.p .lenS,[.t 12],(some (10,true)),[]⟩,
⟨(some 14),.p (.slS false true),[.t 11,.t 13],(some (10,true)),[]⟩,
⟨(some 15),.p .mv,[.t 1],(some (10,true)),[]⟩,
⟨(some 16),.p (.bin .eql),[.t 14,.t 15],(some (10,true)),[]⟩,
⟨(some 17),.p .pick,[.t 10,.t 16,.c (.bool false)],none,[]⟩,
⟨(some 4),.p .mv,[.t 17],none,[]⟩] false []) <|
 .ret, [.tmp 4]⟩
structure D256 (T : Tab) : Prop where
  fn : T.fn 256 = some ir256
  pr : T.prim 256 = none
/-- strings.HasPrefix -/
def ir252 : AFunc := ⟨.seq (.region [
⟨(some 4),.p .mv,[.c (.bool false)],none,[]⟩] false []) <|
 .seq (.region [
⟨(some 5),.p .mv,[.t 0],none,[]⟩,
⟨(some 6),.p .mv,[.t 1],none,[]⟩,
⟨(some 7),.w .call,[.c (.fn 256 [] []),.t 5,.t 6],none,[]⟩,
⟨(some 4),.p .mv,[.t 7],none,[]⟩] false []) <|
 .ret, [.tmp 4]⟩
structure D252 (T : Tab) : Prop where
  fn : T.fn 252 = some ir252
  pr : T.prim 252 = none
  d256 : D256 T
/-- math/bits.Mul32 -/
def ir262 : AFunc := ⟨.seq (.region [
⟨(some 4),.p .mv,[.c (.int .u32 0)],none,[]⟩,
⟨(some 5),.p .mv,[.c (.int .u32 0)],none,[]⟩] false []) <|
 .seq (.region [
⟨(some 7),.p .mv,[.t 0],none,[]⟩,
⟨(some 8),.p (.conv .u64),[.t 7],none,[]⟩,
⟨(some 9),.p .mv,[.t 1],none,[]⟩,
⟨(some 10),.p (.conv .u64),[.t 9],none,[]⟩,
⟨(some 11),.p (.bin .mul),[.t 8,.t 10],none,[]⟩,
⟨(some 6),.p .mv,[.t 11],none,[]⟩] false []) <|
 .seq (.region [
⟨(some 12),.p .mv,[.t 6],none,[]⟩,
⟨(some 13),.p (.bin .shr),[.t 12,.c (.int .u64 32)],none,[]⟩,
⟨(some 14),.p (.conv .u32),[.t 13],none,[]⟩,
⟨(some 15),.p .mv,[.t 6],none,[]⟩,
⟨(some 16),.p (.conv .u32),[.t 15],none,[]⟩,
⟨(some 4),.p .mv,[.t 14],none,[]⟩,
⟨(some 5),.p .mv,[.t 16],none,[]⟩] false []) <|
 .ret, [.tmp 4,.tmp 5]⟩
structure D262 (T : Tab) : Prop where
  fn : T.fn 262 = some ir262
  pr : T.prim 262 = none
/-- math/bits.Mul64 -/
def ir263 : AFunc := ⟨.seq (.region [
⟨(some 4),.p .mv,[.c (.int .u64 0)],none,[]⟩,
⟨(some 5),.p .mv,[.c (.int .u64 0)],none,[]⟩] false []) <|
 .seq (.region [
⟨(some 14),.p .mv,[.t 0],none,[]⟩,
⟨(some 15),.p (.bin .and),[.t 14,.c (.int .u64 4294967295)],none,[]⟩,
⟨(some 6),.p .mv,[.t 15],none,[]⟩] false []) <|
 .seq (.region [
⟨(some 16),.p .mv,[.t 0],none,[]⟩,
⟨(some 17),.p (.bin .shr),[.t 16,.c (.int .u64 32)],none,[]⟩,
⟨(some 7),.p .mv,[.t 17],none,[]⟩] false []) <|
 .seq (.region [
⟨(some 18),.p .mv,[.t 1],none,[]⟩,
⟨(some 19),.p (.bin .and),[.t 18,.c (.int .u64 4294967295)],none,[]⟩,
⟨(some 8),.p .mv,[.t 19],none,[]⟩] false []) <|
 .seq (.region [
⟨(some 20),.p .mv,[.t 1],none,[]⟩,
⟨(some 21),.p (.bin .shr),[.t 20,.c (.int .u64 32)],none,[]⟩,
⟨(some 9),.p .mv,[.t 21],none,[]⟩] false []) <|
 .seq (.region [
⟨(some 22),.p .mv,[.t 6],none,[]⟩,
⟨(some 23),.p .mv,[.t 8],none,[]⟩,
⟨(some 24),.p (.bin .mul),[.t 22,.t 23],none,[]⟩,
⟨(some 10),.p .mv,[.t 24],none,[]⟩] false []) <|
 .seq (.region [
⟨(some 25),.p .mv,[.t 7],none,[]⟩,
⟨(some 26),.p .mv,[.t 8],none,[]⟩,
⟨(some 27),.p (.bin .mul),[.t 25,.t 26],none,[]⟩,
⟨(some 28),.p .mv,[.t 10],none,[]⟩,
⟨(some 29),.p (.bin .shr),[.t 28,.c (.int .u64 32)],none,[]⟩,
⟨(some 30),.p (.bin .add),[.t 27,.t 29],none,[]⟩,
⟨(some 11),.p .mv,[.t 30],none,[]⟩] false []) <|
 .seq (.region [
⟨(some 31),.p .mv,[.t 11],none,[]⟩,
⟨(some 32),.p (.bin .and),[.t 31,.c (.int .u64 4294967295)],none,[]⟩,
⟨(some 12),.p .mv,[.t 32],none,[]⟩] false []) <|
 .seq (.region [
⟨(some 33),.p .mv,[.t 11],none,[]⟩,
⟨(some 34),.p (.bin .shr),[.t 33,.c (.int .u64 32)],none,[]⟩,
⟨(some 13),.p .mv,[.t 34],none,[]⟩] false []) <|
 .seq (.region [
⟨(some 35),.p .mv,[.t 12],none,[]⟩,
⟨(some 36),.p .mv,[.t 6],none,[]⟩,
⟨(some 37),.p .mv,[.t 9],none,[]⟩,
⟨(some 38),.p (.bin .mul),[.t 36,.t 37],none,[]⟩,
⟨(some 39),.p (.bin .add),[.t 35,.t 38],none,[]⟩,
⟨(some 12),.p .mv,[.t 39],none,[]⟩] false []) <|
 .seq (.region [
⟨(some 40),.p .mv,[.t 7],none,[]⟩,
⟨(some 41),.p .mv,[.t 9],none,[]⟩,
⟨(some 42),.p (.bin .mul),[.t 40,.t 41],none,[]⟩,
⟨(some 43),.p .mv,[.t 13],none,[]⟩,
⟨(some 44),.p (.bin .add),[.t 42,.t 43],none,[]⟩,
⟨(some 45),.p .mv,[.t 12],none,[]⟩,
⟨(some 46),.p (.bin .shr),[.t 45,.c (.int .u64 32)],none,[]⟩,
⟨(some 47),.p (.bin .add),[.t 44,.t 46],none,[]⟩,
⟨(some 4),.p .mv,[.t 47],none,[]⟩] false []) <|
 .seq (.region [
⟨(some 48),.p .mv,[.t 0],none,[]⟩,
⟨(some 49),.p .mv,[.t 1],none,[]⟩,
⟨(some 50),.p (.bin .mul),[.t 48,.t 49],none,[]⟩,
⟨(some 5),.p .mv,[.t 50],none,[]⟩] false []) <|
 .ret, [.tmp 4,.tmp 5]⟩
structure D263 (T : Tab) : Prop where
  fn : T.fn 263 = some ir263
  pr : T.prim 263 = none
/-- math/bits.Mul -/
def ir257 : AFunc := ⟨.seq (.region [
⟨(some 4),.p .mv,[.c (.int .u64 0)],none,[]⟩,
⟨(some 5),.p .mv,[.c (.int .u64 0)],none,[]⟩] false []) <|
 .seq (.cond (.c (.bool false)) (.seq (.region [
⟨(some 11),.p .mv,[.t 0],none,[]⟩,
⟨(some 12),.p (.conv .u32),[.t 11],none,[]⟩,
⟨(some 13),.p .mv,[.t 1],none,[]⟩,
⟨(some 14),.p (.conv .u32),[.t 13],none,[]⟩,
⟨(some 15),.w .call,[.c (.fn 262 [] []),.t 12,.t 14],none,[]⟩,
⟨(some 10),.p .mv,[.t 15],none,[]⟩,
⟨(some 16),.p (.ext 0),[.t 10],none,[]⟩,
⟨(some 17),.p (.ext 1),[.t 10],none,[]⟩,
⟨(some 6),.p .mv,[.t 16],none,[]⟩,
⟨(some 7),.p .mv,[.t 17],none,[]⟩] false []) <|
 .seq (.region [
⟨(some 18),.p .mv,[.t 6],none,[]⟩,
⟨(some 19),.p (.conv .u64),[.t 18],none,[]⟩,
⟨(some 20),.p .mv,[.t 7],none,[]⟩,
⟨(some 21),.p (.conv .u64),[.t 20],none,[]⟩,
⟨(some 4),.p .mv,[.t 19],none,[]⟩,
⟨(some 5),.p .mv,[.t 21],none,[]⟩] false []) <|
 .ret) (.skip)) <|
 .seq (.region [
⟨(some 23),.p .mv,[.t 0],none,[]⟩,
⟨(some 24),.p .mv,[.t 1],none,[]⟩,
⟨(some 25),.w .call,[.c (.fn 263 [] []),.t 23,.t 24],none,[]⟩,
⟨(some 22),.p .mv,[.t 25],none,[]⟩,
⟨(some 26),.p (.ext 0),[.t 22],none,[]⟩,
⟨(some 27),.p (.ext 1),[.t 22],none,[]⟩,
⟨(some 8),.p .mv,[.t 26],none,[]⟩,
⟨(some 9),.p .mv,[.t 27],none,[]⟩] false []) <|
 .seq (.region [
⟨(some 28),.p .mv,[.t 8],none,[]⟩,
⟨(some 29),.p .mv,[.t 9],none,[]⟩,
⟨(some 4),.p .mv,[.t 28],none,[]⟩,
⟨(some 5),.p .mv,[.t 29],none,[]⟩] false []) <|
 .ret, [.tmp 4,.tmp 5]⟩
structure D257 (T : Tab) : Prop where
  fn : T.fn 257 = some ir257
  pr : T.prim 257 = none
  d262 : D262 T
  d263 : D263 T
/-- (*strings.Builder).Len -/
def ir260 : AFunc := ⟨.seq (.region [
⟨(some 2),.p .mv,[.c (.int .i64 0)],none,[]⟩] false []) <|
 .seq (.region [
⟨(some 3),.p .mv,[.t 0],none,[]⟩,
⟨(some 4),.p .nilC,[.t 3],none,[]⟩,
⟨(some 5),.p (.fa 1),[.t 4],none,[]⟩,
⟨(some 6),.r (.ld 1 false),[.t 5],none,[]⟩,
⟨(some 7),.p .len,[.t 6],none,[]⟩,
⟨(some 2),.p .mv,[.t 7],none,[]⟩] false []) <|
 .ret, [.tmp 2]⟩
structure D260 (T : Tab) : Prop where
  fn : T.fn 260 = some ir260
  pr : T.prim 260 = none
/-- internal/strconv.small -/
def ir296 : AFunc := ⟨.seq (.region [
⟨(some 2),.p .mv,[.c (.str [])],none,[]⟩] false []) <|
 .seq (.seq (.region [
⟨(some 3),.p .mv,[.t 0],none,[]⟩,
⟨(some 4),.p (.bin .lss),[.t 3,.c (.int .i64 10)],none,[]⟩] false []) <|
 .cond (.t 4) (.seq (.region [
⟨(some 5),.p .mv,[.t 0],none,[]⟩,
⟨(some 6),.p .mv,[.t 0],none,[]⟩,
⟨(some 7),.p (.bin .add),[.t 6,.c (.int .i64 1)],none,[]⟩,
⟨(some 8),.p (.slS true true),[.c (.str [48,49,50,51,52,53,54,55,56,57,97,98,99,100,101,102,103,104,105,106,107,108,109,110,111,112,113,114,115,116,117,118,119,120,121,122]),.t 5,.t 7],none,[]⟩,
⟨(some 2),.p .mv,[.t 8],none,[]⟩] false []) <|
 .ret) (.skip)) <|
 .seq (.region [
⟨(some 9),.p .mv,[.t 0],none,[]⟩,
⟨(some 10),.p (.bin .mul),[.t 9,.c (.int .i64 2)],none,[]⟩,
⟨(some 11),.p .mv,[.t 0],none,[]⟩,
⟨(some 12),.p (.bin .mul),[.t 11,.c (.int .i64 2)],none,[]⟩,
⟨(some 13),.p (.bin .add),[.t 12,.c (.int .i64 2)],none,[]⟩,
⟨(some 14),.p (.slS true true),[.c (.str [48,48,48,49,48,50,48,51,48,52,48,53,48,54,48,55,48,56,48,57,49,48,49,49,49,50,49,51,49,52,49,53,49,54,49,55,49,56,49,57,50,48,50,49,50,50,50,51,50,52,50,53,50,54,50,55,50,56,50,57,51,48,51,49,51,50,51,51,51,52,51,53,51,54,51,55,51,56,51,57,52,48,52,49,52,50,52,51,52,52,52,53,52,54,52,55,52,56,52,57,53,48,53,49,53,50,53,51,53,52,53,53,53,54,53,55,53,56,53,57,54,48,54,49,54,50,54,51,54,52,54,53,54,54,54,55,54,56,54,57,55,48,55,49,55,50,55,51,55,52,55,53,55,54,55,55,55,56,55,57,56,48,56,49,56,50,56,51,56,52,56,53,56,54,56,55,56,56,56,57,57,48,57,49,57,50,57,51,57,52,57,53,57,54,57,55,57,56,57,57]),.t 10,.t 13],none,[]⟩,
⟨(some 2),.p .mv,[.t 14],none,[]⟩] false []) <|
 .ret, [.tmp 2]⟩
structure D296 (T : Tab) : Prop where
  fn : T.fn 296 = some ir296
  pr : T.prim 296 = none
/-- internal/strconv.formatBase10 -/
def ir298 : AFunc := ⟨.seq (.region [
⟨(some 17),.p .mv,[.t 0],none,[]⟩,
⟨(some 18),.p .len,[.t 17],none,[]⟩,
⟨(some 4),.p .mv,[.t 18],none,[]⟩] false []) <|
 .seq (.block 0 (.loop (.seq (.seq (.region [
⟨(some 19),.p .mv,[.t 4],none,[]⟩,
⟨(some 20),.p (.bin .geq),[.t 19,.c (.int .i64 8)],none,[]⟩] false []) <|
 .cond (.t 20) (.skip) (.exit 0)) <|
 .block 1 (.seq (.region [
⟨(some 21),.p .mv,[.t 1],none,[]⟩,
⟨(some 22),.p (.bin .rem),[.t 21,.c (.int .u64 100000000)],none,[]⟩,
⟨(some 23),.p (.conv .u32),[.t 22],none,[]⟩,
⟨(some 5),.p .mv,[.t 23],none,[]⟩] false []) <|
 .seq (.region [
⟨(some 24),.p .mv,[.t 1],none,[]⟩,
⟨(some 25),.p (.bin .quo),[.t 24,.c (.int .u64 100000000)],none,[]⟩,
⟨(some 1),.p .mv,[.t 25],none,[]⟩] false []) <|
 .seq (.region [
⟨(some 26),.p .mv,[.t 5],none,[]⟩,
⟨(some 27),.p (.bin .quo),[.t 26,.c (.int .u32 10000)],none,[]⟩,
⟨(some 28),.p .mv,[.t 5],none,[]⟩,
⟨(some 29),.p (.bin .rem),[.t 28,.c (.int .u32 10000)],none,[]⟩,
⟨(some 6),.p .mv,[.t 27],none,[]⟩,
⟨(some 7),.p .mv,[.t 29],none,[]⟩] false []) <|
 .seq (.region [
⟨(some 30),.p .mv,[.t 7],none,[]⟩,
⟨(some 31),.p (.bin .quo),[.t 30,.c (.int .u32 100)],none,[]⟩,
⟨(some 32),.p (.bin .mul),[.t 31,.c (.int .u32 2)],none,[]⟩,
⟨(some 33),.p .mv,[.t 7],none,[]⟩,
⟨(some 34),.p (.bin .rem),[.t 33,.c (.int .u32 100)],none,[]⟩,
⟨(some 35),.p (.bin .mul),[.t 34,.c (.int .u32 2)],none,[]⟩,
⟨(some 8),.p .mv,[.t 32],none,[]⟩,
⟨(some 9),.p .mv,[.t 35],none,[]⟩] false []) <|
 .seq (.region [
⟨(some 36),.p .mv,[.t 6],none,[]⟩,
⟨(some 37),.p (.bin .quo),[.t 36,.c (.int .u32 100)],none,[]⟩,
⟨(some 38),.p (.bin .mul),[.t 37,.c (.int .u32 2)],none,[]⟩,
⟨(some 39),.p .mv,[.t 6],none,[]⟩,
⟨(some 40),.p (.bin .rem),[.t 39,.c (.int .u32 100)],none,[]⟩,
⟨(some 41),.p (.bin .mul),[.t 40,.c (.int .u32 2)],none,[]⟩,
⟨(some 10),.p .mv,[.t 38],none,[]⟩,
⟨(some 11),.p .mv,[.t 41],none,[]⟩] false []) <|
 .seq (.region [
⟨(some 42),.p .mv,[.t 0],none,[]⟩,
⟨(some 43),.p .mv,[.t 4],none,[]⟩,
⟨(some 44),.p (.bin .sub),[.t 43,.c (.int .i64 1)],none,[]⟩,
⟨(some 45),.p .mv,[.t 0],none,[]⟩,
⟨(some 46),.p .mv,[.t 4],none,[]⟩,
⟨(some 47),.p (.bin .sub),[.t 46,.c (.int .i64 2)],none,[]⟩,
⟨(some 48),.p .mv,[.t 9],none,[]⟩,
⟨(some 49),.p (.bin .add),[.t 48,.c (.int .u32 1)],none,[]⟩,
⟨(some 50),.p .idxS,[.c (.str [48,48,48,49,48,50,48,51,48,52,48,53,48,54,48,55,48,56,48,57,49,48,49,49,49,50,49,51,49,52,49,53,49,54,49,55,49,56,49,57,50,48,50,49,50,50,50,51,50,52,50,53,50,54,50,55,50,56,50,57,51,48,51,49,51,50,51,51,51,52,51,53,51,54,51,55,51,56,51,57,52,48,52,49,52,50,52,51,52,52,52,53,52,54,52,55,52,56,52,57,53,48,53,49,53,50,53,51,53,52,53,53,53,54,53,55,53,56,53,57,54,48,54,49,54,50,54,51,54,52,54,53,54,54,54,55,54,56,54,57,55,48,55,49,55,50,55,51,55,52,55,53,55,54,55,55,55,56,55,57,56,48,56,49,56,50,56,51,56,52,56,53,56,54,56,55,56,56,56,57,57,48,57,49,57,50,57,51,57,52,57,53,57,54,57,55,57,56,57,57]),.t 49],none,[]⟩,
⟨(some 51),.p .mv,[.t 9],none,[]⟩,
⟨(some 52),.p .idxS,[.c (.str [48,48,48,49,48,50,48,51,48,52,48,53,48,54,48,55,48,56,48,57,49,48,49,49,49,50,49,51,49,52,49,53,49,54,49,55,49,56,49,57,50,48,50,49,50,50,50,51,50,52,50,53,50,54,50,55,50,56,50,57,51,48,51,49,51,50,51,51,51,52,51,53,51,54,51,55,51,56,51,57,52,48,52,49,52,50,52,51,52,52,52,53,52,54,52,55,52,56,52,57,53,48,53,49,53,50,53,51,53,52,53,53,53,54,53,55,53,56,53,57,54,48,54,49,54,50,54,51,54,52,54,53,54,54,54,55,54,56,54,57,55,48,55,49,55,50,55,51,55,52,55,53,55,54,55,55,55,56,55,57,56,48,56,49,56,50,56,51,56,52,56,53,56,54,56,55,56,56,56,57,57,48,57,49,57,50,57,51,57,52,57,53,57,54,57,55,57,56,57,57]),.t 51],none,[]⟩,
⟨(some 53),.p (.ia 1),[.t 42,.t 44],none,[]⟩,
⟨none,.w (.st 1),[.t 53,.t 50],none,[]⟩,
⟨(some 54),.p (.ia 1),[.t 45,.t 47],none,[]⟩,
⟨none,.w (.st 1),[.t 54,.t 52],none,[]⟩] true []) <|
 .seq (.region [
⟨(some 55),.p .mv,[.t 0],none,[]⟩,
⟨(some 56),.p .mv,[.t 4],none,[]⟩,
⟨(some 57),.p (.bin .sub),[.t 56,.c (.int .i64 3)],none,[]⟩,
⟨(some 58),.p .mv,[.t 0],none,[]⟩,
⟨(some 59),.p .mv,[.t 4],none,[]⟩,
⟨(some 60),.p (.bin .sub),[.t 59,.c (.int .i64 4)],none,[]⟩,
⟨(some 61),.p .mv,[.t 8],none,[]⟩,
⟨(some 62),.p (.bin .add),[.t 61,.c (.int .u32 1)],none,[]⟩,
⟨(some 63),.p .idxS,[.c (.str [48,48,48,49,48,50,48,51,48,52,48,53,48,54,48,55,48,56,48,57,49,48,49,49,49,50,49,51,49,52,49,53,49,54,49,55,49,56,49,57,50,48,50,49,50,50,50,51,50,52,50,53,50,54,50,55,50,56,50,57,51,48,51,49,51,50,51,51,51,52,51,53,51,54,51,55,51,56,51,57,52,48,52,49,52,50,52,51,52,52,52,53,52,54,52,55,52,56,52,57,53,48,53,49,53,50,53,51,53,52,53,53,53,54,53,55,53,56,53,57,54,48,54,49,54,50,54,51,54,52,54,53,54,54,54,55,54,56,54,57,55,48,55,49,55,50,55,51,55,52,55,53,55,54,55,55,55,56,55,57,56,48,56,49,56,50,56,51,56,52,56,53,56,54,56,55,56,56,56,57,57,48,57,49,57,50,57,51,57,52,57,53,57,54,57,55,57,56,57,57]),.t 62],none,[]⟩,
⟨(some 64),.p .mv,[.t 8],none,[]⟩,
⟨(some 65),.p .idxS,[.c (.str [48,48,48,49,48,50,48,51,48,52,48,53,48,54,48,55,48,56,48,57,49,48,49,49,49,50,49,51,49,52,49,53,49,54,49,55,49,56,49,57,50,48,50,49,50,50,50,51,50,52,50,53,50,54,50,55,50,56,50,57,51,48,51,49,51,50,51,51,51,52,51,53,51,54,51,55,51,56,51,57,52,48,52,49,52,50,52,51,52,52,52,53,52,54,52,55,52,56,52,57,53,48,53,49,53,50,53,51,53,52,53,53,53,54,53,55,53,56,53,57,54,48,54,49,54,50,54,51,54,52,54,53,54,54,54,55,54,56,54,57,55,48,55,49,55,50,55,51,55,52,55,53,55,54,55,55,55,56,55,57,56,48,56,49,56,50,56,51,56,52,56,53,56,54,56,55,56,56,56,57,57,48,57,49,57,50,57,51,57,52,57,53,57,54,57,55,57,56,57,57]),.t 64],none,[]⟩,
⟨(some 66),.p (.ia 1),[.t 55,.t 57],none,[]⟩,
⟨none,.w (.st 1),[.t 66,.t 63],none,[]⟩,
⟨(some 67),.p (.ia 1),[.t 58,.t 60],none,[]⟩,
⟨none,.w (.st 1),[.t 67,.t 65],none,[]⟩] true []) <|
 .seq (.region [
⟨(some 68),.p .mv,[.t 0],none,[]⟩,
⟨(some 69),.p .mv,[.t 4],none,[]⟩,
⟨(some 70),.p (.bin .sub),[.t 69,.c (.int .i64 5)],none,[]⟩,
⟨(some 71),.p .mv,[.t 0],none,[]⟩,
⟨(some 72),.p .mv,[.t 4],none,[]⟩,
⟨(some 73),.p (.bin .sub),[.t 72,.c (.int .i64 6)],none,[]⟩,
⟨(some 74),.p .mv,[.t 11],none,[]⟩,
⟨(some 75),.p (.bin .add),[.t 74,.c (.int .u32 1)],none,[]⟩,
⟨(some 76),.p .idxS,[.c (.str [48,48,48,49,48,50,48,51,48,52,48,53,48,54,48,55,48,56,48,57,49,48,49,49,49,50,49,51,49,52,49,53,49,54,49,55,49,56,49,57,50,48,50,49,50,50,50,51,50,52,50,53,50,54,50,55,50,56,50,57,51,48,51,49,51,50,51,51,51,52,51,53,51,54,51,55,51,56,51,57,52,48,52,49,52,50,52,51,52,52,52,53,52,54,52,55,52,56,52,57,53,48,53,49,53,50,53,51,53,52,53,53,53,54,53,55,53,56,53,57,54,48,54,49,54,50,54,51,54,52,54,53,54,54,54,55,54,56,54,57,55,48,55,49,55,50,55,51,55,52,55,53,55,54,55,55,55,56,55,57,56,48,56,49,56,50,56,51,56,52,56,53,56,54,56,55,56,56,56,57,57,48,57,49,57,50,57,51,57,52,57,53,57,54,57,55,57,56,57,57]),.t 75],none,[]⟩,
⟨(some 77),.p .mv,[.t 11],none,[]⟩,
⟨(some 78),.p .idxS,[.c (.str [48,48,48,49,48,50,48,51,48,52,48,53,48,54,48,55,48,56,48,57,49,48,49,49,49,50,49,51,49,52,49,53,49,54,49,55,49,56,49,57,50,48,50,49,50,50,50,51,50,52,50,53,50,54,50,55,50,56,50,57,51,48,51,49,51,50,51,51,51,52,51,53,51,54,51,55,51,56,51,57,52,48,52,49,52,50,52,51,52,52,52,53,52,54,52,55,52,56,52,57,53,48,53,49,53,50,53,51,53,52,53,53,53,54,53,55,53,56,53,57,54,48,54,49,54,50,54,51,54,52,54,53,54,54,54,55,54,56,54,57,55,48,55,49,55,50,55,51,55,52,55,53,55,54,55,55,55,56,55,57,56,48,56,49,56,50,56,51,56,52,56,53,56,54,56,55,56,56,56,57,57,48,57,49,57,50,57,51,57,52,57,53,57,54,57,55,57,56,57,57]),.t 77],none,[]⟩,
⟨(some 79),.p (.ia 1),[.t 68,.t 70],none,[]⟩,
⟨none,.w (.st 1),[.t 79,.t 76],none,[]⟩,
⟨(some 80),.p (.ia 1),[.t 71,.t 73],none,[]⟩,
⟨none,.w (.st 1),[.t 80,.t 78],none,[]⟩] true []) <|
 .seq (.region [
⟨(some 81),.p .mv,[.t 0],none,[]⟩,
⟨(some 82),.p .mv,[.t 4],none,[]⟩,
⟨(some 83),.p (.bin .sub),[.t 82,.c (.int .i64 7)],none,[]⟩,
⟨(some 84),.p .mv,[.t 0],none,[]⟩,
⟨(some 85),.p .mv,[.t 4],none,[]⟩,
⟨(some 86),.p (.bin .sub),[.t 85,.c (.int .i64 8)],none,[]⟩,
⟨(some 87),.p .mv,[.t 10],none,[]⟩,
⟨(some 88),.p (.bin .add),[.t 87,.c (.int .u32 1)],none,[]⟩,
⟨(some 89),.p .idxS,[.c (.str [48,48,48,49,48,50,48,51,48,52,48,53,48,54,48,55,48,56,48,57,49,48,49,49,49,50,49,51,49,52,49,53,49,54,49,55,49,56,49,57,50,48,50,49,50,50,50,51,50,52,50,53,50,54,50,55,50,56,50,57,51,48,51,49,51,50,51,51,51,52,51,53,51,54,51,55,51,56,51,57,52,48,52,49,52,50,52,51,52,52,52,53,52,54,52,55,52,56,52,57,53,48,53,49,53,50,53,51,53,52,53,53,53,54,53,55,53,56,53,57,54,48,54,49,54,50,54,51,54,52,54,53,54,54,54,55,54,56,54,57,55,48,55,49,55,50,55,51,55,52,55,53,55,54,55,55,55,56,55,57,56,48,56,49,56,50,56,51,56,52,56,53,56,54,56,55,56,56,56,57,57,48,57,49,57,50,57,51,57,52,57,53,57,54,57,55,57,56,57,57]),.t 88],none,[]⟩,
⟨(some 90),.p .mv,[.t 10],none,[]⟩,
⟨(some 91),.p .idxS,[.c (.str [48,48,48,49,48,50,48,51,48,52,48,53,48,54,48,55,48,56,48,57,49,48,49,49,49,50,49,51,49,52,49,53,49,54,49,55,49,56,49,57,50,48,50,49,50,50,50,51,50,52,50,53,50,54,50,55,50,56,50,57,51,48,51,49,51,50,51,51,51,52,51,53,51,54,51,55,51,56,51,57,52,48,52,49,52,50,52,51,52,52,52,53,52,54,52,55,52,56,52,57,53,48,53,49,53,50,53,51,53,52,53,53,53,54,53,55,53,56,53,57,54,48,54,49,54,50,54,51,54,52,54,53,54,54,54,55,54,56,54,57,55,48,55,49,55,50,55,51,55,52,55,53,55,54,55,55,55,56,55,57,56,48,56,49,56,50,56,51,56,52,56,53,56,54,56,55,56,56,56,57,57,48,57,49,57,50,57,51,57,52,57,53,57,54,57,55,57,56,57,57]),.t 90],none,[]⟩,
⟨(some 92),.p (.ia 1),[.t 81,.t 83],none,[]⟩,
⟨none,.w (.st 1),[.t 92,.t 89],none,[]⟩,
⟨(some 93),.p (.ia 1),[.t 84,.t 86],none,[]⟩,
⟨none,.w (.st 1),[.t 93,.t 91],none,[]⟩] true []) <|
 .region [
⟨(some 94),.p .mv,[.t 4],none,[]⟩,
⟨(some 95),.p (.bin .sub),[.t 94,.c (.int .i64 8)],none,[]⟩,
⟨(some 4),.p .mv,[.t 95],none,[]⟩] false [])))) <|
 .seq (.region [
⟨(some 96),.p .mv,[.t 1],none,[]⟩,
⟨(some 97),.p (.conv .u32),[.t 96],none,[]⟩,
⟨(some 12),.p .mv,[.t 97],none,[]⟩] false []) <|
 .seq (.seq (.region [
⟨(some 98),.p .mv,[.t 4],none,[]⟩,
⟨(some 99),.p (.bin .geq),[.t 98,.c (.int .i64 4)],none,[]⟩] false []) <|
 .cond (.t 99) (.seq (.region [
⟨(some 100),.p .mv,[.t 12],none,[]⟩,
⟨(some 101),.p (.bin .rem),[.t 100,.c (.int .u32 10000)],none,[]⟩,
⟨(some 13),.p .mv,[.t 101],none,[]⟩] false []) <|
 .seq (.region [
⟨(some 102),.p .mv,[.t 12],none,[]⟩,
⟨(some 103),.p (.bin .quo),[.t 102,.c (.int .u32 10000)],none,[]⟩,
⟨(some 12),.p .mv,[.t 103],none,[]⟩] false []) <|
 .seq (.region [
⟨(some 104),.p .mv,[.t 13],none,[]⟩,
⟨(some 105),.p (.bin .quo),[.t 104,.c (.int .u32 100)],none,[]⟩,
⟨(some 106),.p (.bin .mul),[.t 105,.c (.int .u32 2)],none,[]⟩,
⟨(some 107),.p .mv,[.t 13],none,[]⟩,
⟨(some 108),.p (.bin .rem),[.t 107,.c (.int .u32 100)],none,[]⟩,
⟨(some 109),.p (.bin .mul),[.t 108,.c (.int .u32 2)],none,[]⟩,
⟨(some 14),.p .mv,[.t 106],none,[]⟩,
⟨(some 15),.p .mv,[.t 109],none,[]⟩] false []) <|
 .seq (.region [
⟨(some 110),.p .mv,[.t 0],none,[]⟩,
⟨(some 111),.p .mv,[.t 4],none,[]⟩,
⟨(some 112),.p (.bin .sub),[.t 111,.c (.int .i64 1)],none,[]⟩,
⟨(some 113),.p .mv,[.t 0],none,[]⟩,
⟨(some 114),.p .mv,[.t 4],none,[]⟩,
⟨(some 115),.p (.bin .sub),[.t 114,.c (.int .i64 2)],none,[]⟩,
⟨(some 116),.p .mv,[.t 15],none,[]⟩,
⟨(some 117),.p (.bin .add),[.t 116,.c (.int .u32 1)],none,[]⟩,
⟨(some 118),.p .idxS,[.c (.str [48,48,48,49,48,50,48,51,48,52,48,53,48,54,48,55,48,56,48,57,49,48,49,49,49,50,49,51,49,52,49,53,49,54,49,55,49,56,49,57,50,48,50,49,50,50,50,51,50,52,50,53,50,54,50,55,50,56,50,57,51,48,51,49,51,50,51,51,51,52,51,53,51,54,51,55,51,56,51,57,52,48,52,49,52,50,52,51,52,52,52,53,52,54,52,55,52,56,52,57,53,48,53,49,53,50,53,51,53,52,53,53,53,54,53,55,53,56,53,57,54,48,54,49,54,50,54,51,54,52,54,53,54,54,54,55,54,56,54,57,55,48,55,49,55,50,55,51,55,52,55,53,55,54,55,55,55,56,55,57,56,48,56,49,56,50,56,51,56,52,56,53,56,54,56,55,56,56,56,57,57,48,57,49,57,50,57,51,57,52,57,53,57,54,57,55,57,56,57,57]),.t 117],none,[]⟩,
⟨(some 119),.p .mv,[.t 15],none,[]⟩,
⟨(some 120),.p .idxS,[.c (.str [48,48,48,49,48,50,48,51,48,52,48,53,48,54,48,55,48,56,48,57,49,48,49,49,49,50,49,51,49,52,49,53,49,54,49,55,49,56,49,57,50,48,50,49,50,50,50,51,50,52,50,53,50,54,50,55,50,56,50,57,51,48,51,49,51,50,51,51,51,52,51,53,51,54,51,55,51,56,51,57,52,48,52,49,52,50,52,51,52,52,52,53,52,54,52,55,52,56,52,57,53,48,53,49,53,50,53,51,53,52,53,53,53,54,53,55,53,56,53,57,54,48,54,49,54,50,54,51,54,52,54,53,54,54,54,55,54,56,54,57,55,48,55,49,55,50,55,51,55,52,55,53,55,54,55,55,55,56,55,57,56,48,56,49,56,50,56,51,56,52,56,53,56,54,56,55,56,56,56,57,57,48,57,49,57,50,57,51,57,52,57,53,57,54,57,55,57,56,57,57]),.t 119],none,[]⟩,
⟨(some 121),.p (.ia 1),[.t 110,.t 112],none,[]⟩,
⟨none,.w (.st 1),[.t 121,.t 118],none,[]⟩,
⟨(some 122),.p (.ia 1),[.t 113,.t 115],none,[]⟩,
⟨none,.w (.st 1),[.t 122,.t 120],none,[]⟩] true []) <|
 .seq (.region [
⟨(some 123),.p .mv,[.t 0],none,[]⟩,
⟨(some 124),.p .mv,[.t 4],none,[]⟩,
⟨(some 125),.p (.bin .sub),[.t 124,.c (.int .i64 3)],none,[]⟩,
⟨(some 126),.p .mv,[.t 0],none,[]⟩,
⟨(some 127),.p .mv,[.t 4],none,[]⟩,
⟨(some 128),.p (.bin .sub),[.t 127,.c (.int .i64 4)],none,[]⟩,
⟨(some 129),.p .mv,[.t 14],none,[]⟩,
⟨(some 130),.p (.bin .add),[.t 129,.c (.int .u32 1)],none,[]⟩,
⟨(some 131),.p .idxS,[.c (.str [48,48,48,49,48,50,48,51,48,52,48,53,48,54,48,55,48,56,48,57,49,48,49,49,49,50,49,51,49,52,49,53,49,54,49,55,49,56,49,57,50,48,50,49,50,50,50,51,50,52,50,53,50,54,50,55,50,56,50,57,51,48,51,49,51,50,51,51,51,52,51,53,51,54,51,55,51,56,51,57,52,48,52,49,52,50,52,51,52,52,52,53,52,54,52,55,52,56,52,57,53,48,53,49,53,50,53,51,53,52,53,53,53,54,53,55,53,56,53,57,54,48,54,49,54,50,54,51,54,52,54,53,54,54,54,55,54,56,54,57,55,48,55,49,55,50,55,51,55,52,55,53,55,54,55,55,55,56,55,57,56,48,56,49,56,50,56,51,56,52,56,53,56,54,56,55,56,56,56,57,57,48,57,49,57,50,57,51,57,52,57,53,57,54,57,55,57,56,57,57]),.t 130],none,[]⟩,
⟨(some 132),.p .mv,[.t 14],none,[]⟩,
⟨(some 133),.p .idxS,[.c (.str [48,48,48,49,48,50,48,51,48,52,48,53,48,54,48,55,48,56,48,57,49,48,49,49,49,50,49,51,49,52,49,53,49,54,49,55,49,56,49,57,50,48,50,49,50,50,50,51,50,52,50,53,50,54,50,55,50,56,50,57,51,48,51,49,51,50,51,51,51,52,51,53,51,54,51,55,51,56,51,57,52,48,52,49,52,50,52,51,52,52,52,53,52,54,52,55,52,56,52,57,53,48,53,49,53,50,53,51,53,52,53,53,53,54,53,55,53,56,53,57,54,48,54,49,54,50,54,51,54,52,54,53,54,54,54,55,54,56,54,57,55,48,55,49,55,50,55,51,55,52,55,53,55,54,55,55,55,56,55,57,56,48,56,49,56,50,56,51,56,52,56,53,56,54,56,55,56,56,56,57,57,48,57,49,57,50,57,51,57,52,57,53,57,54,57,55,57,56,57,57]),.t 132],none,[]⟩,
⟨(some 134),.p (.ia 1),[.t 123,.t 125],none,[]⟩,
⟨none,.w (.st 1),[.t 134,.t 131],none,[]⟩,
⟨(some 135),.p (.ia 1),[.t 126,.t 128],none,[]⟩,
⟨none,.w (.st 1),[.t 135,.t 133],none,[]⟩] true []) <|
 .region [
⟨(some 136),.p .mv,[.t 4],none,[]⟩,
⟨(some 137),.p (.bin .sub),[.t 136,.c (.int .i64 4)],none,[]⟩,
⟨(some 4),.p .mv,[.t 137],none,[]⟩] false []) (.skip)) <|
 .seq (.seq (.region [
⟨(some 138),.p .mv,[.t 4],none,[]⟩,
⟨(some 139),.p (.bin .geq),[.t 138,.c (.int .i64 2)],none,[]⟩] false []) <|
 .cond (.t 139) (.seq (.region [
⟨(some 140),.p .mv,[.t 12],none,[]⟩,
⟨(some 141),.p (.bin .rem),[.t 140,.c (.int .u32 100)],none,[]⟩,
⟨(some 142),.p (.bin .mul),[.t 141,.c (.int .u32 2)],none,[]⟩,
⟨(some 16),.p .mv,[.t 142],none,[]⟩] false []) <|
 .seq (.region [
⟨(some 143),.p .mv,[.t 12],none,[]⟩,
⟨(some 144),.p (.bin .quo),[.t 143,.c (.int .u32 100)],none,[]⟩,
⟨(some 12),.p .mv,[.t 144],none,[]⟩] false []) <|
 .seq (.region [
⟨(some 145),.p .mv,[.t 0],none,[]⟩,
⟨(some 146),.p .mv,[.t 4],none,[]⟩,
⟨(some 147),.p (.bin .sub),[.t 146,.c (.int .i64 1)],none,[]⟩,
⟨(some 148),.p .mv,[.t 0],none,[]⟩,
⟨(some 149),.p .mv,[.t 4],none,[]⟩,
⟨(some 150),.p (.bin .sub),[.t 149,.c (.int .i64 2)],none,[]⟩,
⟨(some 151),.p .mv,[.t 16],none,[]⟩,
⟨(some 152),.p (.bin .add),[.t 151,.c (.int .u32 1)],none,[]⟩,
⟨(some 153),.p .idxS,[.c (.str [48,48,48,49,48,50,48,51,48,52,48,53,48,54,48,55,48,56,48,57,49,48,49,49,49,50,49,51,49,52,49,53,49,54,49,55,49,56,49,57,50,48,50,49,50,50,50,51,50,52,50,53,50,54,50,55,50,56,50,57,51,48,51,49,51,50,51,51,51,52,51,53,51,54,51,55,51,56,51,57,52,48,52,49,52,50,52,51,52,52,52,53,52,54,52,55,52,56,52,57,53,48,53,49,53,50,53,51,53,52,53,53,53,54,53,55,53,56,53,57,54,48,54,49,54,50,54,51,54,52,54,53,54,54,54,55,54,56,54,57,55,48,55,49,55,50,55,51,55,52,55,53,55,54,55,55,55,56,55,57,56,48,56,49,56,50,56,51,56,52,56,53,56,54,56,55,56,56,56,57,57,48,57,49,57,50,57,51,57,52,57,53,57,54,57,55,57,56,57,57]),.t 152],none,[]⟩,
⟨(some 154),.p .mv,[.t 16],none,[]⟩,
⟨(some 155),.p .idxS,[.c (.str [48,48,48,49,48,50,48,51,48,52,48,53,48,54,48,55,48,56,48,57,49,48,49,49,49,50,49,51,49,52,49,53,49,54,49,55,49,56,49,57,50,48,50,49,50,50,50,51,50,52,50,53,50,54,50,55,50,56,50,57,51,48,51,49,51,50,51,51,51,52,51,53,51,54,51,55,51,56,51,57,52,48,52,49,52,50,52,51,52,52,52,53,52,54,52,55,52,56,52,57,53,48,53,49,53,50,53,51,53,52,53,53,53,54,53,55,53,56,53,57,54,48,54,49,54,50,54,51,54,52,54,53,54,54,54,55,54,56,54,57,55,48,55,49,55,50,55,51,55,52,55,53,55,54,55,55,55,56,55,57,56,48,56,49,56,50,56,51,56,52,56,53,56,54,56,55,56,56,56,57,57,48,57,49,57,50,57,51,57,52,57,53,57,54,57,55,57,56,57,57]),.t 154],none,[]⟩,
⟨(some 156),.p (.ia 1),[.t 145,.t 147],none,[]⟩,
⟨none,.w (.st 1),[.t 156,.t 153],none,[]⟩,
⟨(some 157),.p (.ia 1),[.t 148,.t 150],none,[]⟩,
⟨none,.w (.st 1),[.t 157,.t 155],none,[]⟩] true []) <|
 .region [
⟨(some 158),.p .mv,[.t 4],none,[]⟩,
⟨(some 159),.p (.bin .sub),[.t 158,.c (.int .i64 2)],none,[]⟩,
⟨(some 4),.p .mv,[.t 159],none,[]⟩] false []) (.skip)) <|
 .seq (.region [
⟨(some 160),.p .mv,[.t 4],none,[]⟩,
⟨(some 161),.p (.bin .gtr),[.t 160,.c (.int .i64 0)],none,[]⟩] false []) <|
 .cond (.t 161) (.region [
⟨(some 162),.p .mv,[.t 0],none,[]⟩,
⟨(some 163),.p .mv,[.t 12],none,[]⟩,
⟨(some 164),.p (.bin .add),[.c (.int .u32 48),.t 163],none,[]⟩,
⟨(some 165),.p (.conv .u8),[.t 164],none,[]⟩,
⟨(some 166),.p (.ia 1),[.t 162,.c (.int .i64 0)],none,[]⟩,
⟨none,.w (.st 1),[.t 166,.t 165],none,[]⟩] false []) (.skip), []⟩
structure D298 (T : Tab) : Prop where
  fn : T.fn 298 = some ir298
  pr : T.prim 298 = none
/-- internal/strconv.isPowerOfTwo -/
def ir303 : AFunc := ⟨.seq (.region [
⟨(some 2),.p .mv,[.c (.bool false)],none,[]⟩] false []) <|
 .seq (.region [
⟨(some 3),.p .mv,[.t 0],none,[]⟩,
⟨(some 4),.p .mv,[.t 0],none,[]⟩,
⟨(some 5),.p (.bin .sub),[.t 4,.c (.int .i64 1)],none,[]⟩,
⟨(some 6),.p (.bin .and),[.t 3,.t 5],none,[]⟩,
⟨(some 7),.p (.bin .eql),[.t 6,.c (.int .i64 0)],none,[]⟩,
⟨(some 2),.p .mv,[.t 7],none,[]⟩] false []) <|
 .ret, [.tmp 2]⟩
structure D303 (T : Tab) : Prop where
  fn : T.fn 303 = some ir303
  pr : T.prim 303 = none
/-- internal/strconv.formatBits -/
def ir299 : AFunc := ⟨.seq (.region [
⟨(some 10),.p .mv,[.c (.slc none 0 0 none)],none,[]⟩,
⟨(some 11),.p .mv,[.c (.str [])],none,[]⟩] false []) <|
 .seq (.seq (.region [
⟨(some 19),.p .mv,[.t 2],none,[]⟩,
⟨(some 20),.p (.bin .lss),[.t 19,.c (.int .i64 2)],none,[]⟩,
⟨(some 21),.p .mv,[.t 20],none,[]⟩,
⟨(some 22),.p .mv,[.t 2],(some (21,false)),[]⟩,
⟨(some 23),.p (.bin .eql),[.t 22,.c (.int .i64 10)],(some (21,false)),[]⟩,
⟨(some 24),.p .pick,[.t 21,.c (.bool true),.t 23],none,[]⟩,
⟨(some 25),.p .mv,[.t 24],none,[]⟩,
⟨(some 26),.p .mv,[.t 2],(some (25,false)),[]⟩,
⟨(some 27),.p (.bin .gtr),[.t 26,.c (.int .i64 36)],(some (25,false)),[]⟩,
⟨(some 28),.p .pick,[.t 25,.c (.bool true),.t 27],none,[]⟩] false []) <|
 .cond (.t 28) (.region [
⟨(some 29),.p .fail,[.c (.str [115,116,114,99,111,110,118,58,32,105,108,108,101,103,97,108,32,65,112,112,101,110,100,73,110,116,47,70,111,114,109,97,116,73,110,116,32,98,97,115,101])],none,[]⟩,
⟨none,.p .fail,[.t 29],none,[]⟩] false []) (.skip)) <|
 .seq (.region [
⟨(some 12),.w .box,[.c (.agg [(.int .u8 0),(.int .u8 0),(.int .u8 0),(.int .u8 0),(.int .u8 0),(.int .u8 0),(.int .u8 0),(.int .u8 0),(.int .u8 0),(.int .u8 0),(.int .u8 0),(.int .u8 0),(.int .u8 0),(.int .u8 0),(.int .u8 0),(.int .u8 0),(.int .u8 0),(.int .u8 0),(.int .u8 0),(.int .u8 0),(.int .u8 0),(.int .u8 0),(.int .u8 0),(.int .u8 0),(.int .u8 0),(.int .u8 0),(.int .u8 0),(.int .u8 0),(.int .u8 0),(.int .u8 0),(.int .u8 0),(.int .u8 0),(.int .u8 0),(.int .u8 0),(.int .u8 0),(.int .u8 0),(.int .u8 0),(.int .u8 0),(.int .u8 0),(.int .u8 0),(.int .u8 0),(.int .u8 0),(.int .u8 0),(.int .u8 0),(.int .u8 0),(.int .u8 0),(.int .u8 0),(.int .u8 0),(.int .u8 0),(.int .u8 0),(.int .u8 0),(.int .u8 0),(.int .u8 0),(.int .u8 0),(.int .u8 0),(.int .u8 0),(.int .u8 0),(.int .u8 0),(.int .u8 0),(.int .u8 0),(.int .u8 0),(.int .u8 0),(.int .u8 0),(.int .u8 0),(.int .u8 0)])],none,[]⟩] false []) <|
 .seq (.region [
⟨(some 13),.p .mv,[.c (.int .i64 65)],none,[]⟩] false []) <|
 .seq (.seq (.region [
⟨(some 30),.p .mv,[.t 3],none,[]⟩] false []) <|
 .cond (.t 30) (.region [
⟨(some 31),.p .mv,[.t 1],none,[]⟩,
⟨(some 32),.p (.un .neg),[.t 31],none,[]⟩,
⟨(some 1),.p .mv,[.t 32],none,[]⟩] false []) (.skip)) <|
 .seq (.seq (.region [
⟨(some 33),.p .mv,[.t 2],none,[]⟩,
⟨(some 34),.w .call,[.c (.fn 303 [] []),.t 33],none,[]⟩] false []) <|
 .cond (.t 34) (.seq (.region [
⟨(some 35),.p .mv,[.t 2],none,[]⟩,
⟨(some 36),.p (.conv .u64),[.t 35],none,[]⟩,
⟨(some 37),.w .call,[.c (.fn 304 [] []),.t 36],none,[]⟩,
⟨(some 38),.p (.conv .u64),[.t 37],none,[]⟩,
⟨(some 14),.p .mv,[.t 38],none,[]⟩] false []) <|
 .seq (.region [
⟨(some 39),.p .mv,[.t 2],none,[]⟩,
⟨(some 40),.p (.conv .u64),[.t 39],none,[]⟩,
⟨(some 15),.p .mv,[.t 40],none,[]⟩] false []) <|
 .seq (.region [
⟨(some 41),.p .mv,[.t 2],none,[]⟩,
⟨(some 42),.p (.conv .u64),[.t 41],none,[]⟩,
⟨(some 43),.p (.bin .sub),[.t 42,.c (.int .u64 1)],none,[]⟩,
⟨(some 16),.p .mv,[.t 43],none,[]⟩] false []) <|
 .seq (.block 0 (.loop (.seq (.seq (.region [
⟨(some 44),.p .mv,[.t 1],none,[]⟩,
⟨(some 45),.p .mv,[.t 15],none,[]⟩,
⟨(some 46),.p (.bin .geq),[.t 44,.t 45],none,[]⟩] false []) <|
 .cond (.t 46) (.skip) (.exit 0)) <|
 .block 1 (.seq (.region [
⟨(some 47),.p .mv,[.t 13],none,[]⟩,
⟨(some 48),.p (.bin .sub),[.t 47,.c (.int .i64 1)],none,[]⟩,
⟨(some 13),.p .mv,[.t 48],none,[]⟩] false []) <|
 .seq (.region [
⟨(some 49),.p .mv,[.t 13],none,[]⟩,
⟨(some 50),.p .mv,[.t 1],none,[]⟩,
⟨(some 51),.p .mv,[.t 16],none,[]⟩,
⟨(some 52),.p (.bin .and),[.t 50,.t 51],none,[]⟩,
⟨(some 53),.p .idxS,[.c (.str [48,49,50,51,52,53,54,55,56,57,97,98,99,100,101,102,103,104,105,106,107,108,109,110,111,112,113,114,115,116,117,118,119,120,121,122]),.t 52],none,[]⟩,
⟨(some 54),.p (.iap 65 1),[.t 12,.t 49],none,[]⟩,
⟨none,.w (.st 1),[.t 54,.t 53],none,[]⟩] false []) <|
 .region [
⟨(some 55),.p .mv,[.t 1],none,[]⟩,
⟨(some 56),.p .mv,[.t 14],none,[]⟩,
⟨(some 57),.p (.bin .shr),[.t 55,.t 56],none,[]⟩,
⟨(some 1),.p .mv,[.t 57],none,[]⟩] false [])))) <|
 .seq (.region [
⟨(some 58),.p .mv,[.t 13],none,[]⟩,
⟨(some 59),.p (.bin .sub),[.t 58,.c (.int .i64 1)],none,[]⟩,
⟨(some 13),.p .mv,[.t 59],none,[]⟩] false []) <|
 .region [
⟨(some 60),.p .mv,[.t 13],none,[]⟩,
⟨(some 61),.p .mv,[.t 1],none,[]⟩,
⟨(some 62),.p .idxS,[.c (.str [48,49,50,51,52,53,54,55,56,57,97,98,99,100,101,102,103,104,105,106,107,108,109,110,111,112,113,114,115,116,117,118,119,120,121,122]),.t 61],none,[]⟩,
⟨(some 63),.p (.iap 65 1),[.t 12,.t 60],none,[]⟩,
⟨none,.w (.st 1),[.t 63,.t 62],none,[]⟩] false []) (.seq (.region [
⟨(some 64),.p .mv,[.t 2],none,[]⟩,
⟨(some 65),.p (.conv .u64),[.t 64],none,[]⟩,
⟨(some 17),.p .mv,[.t 65],none,[]⟩] false []) <|
 .seq (.block 2 (.loop (.seq (.seq (.region [
⟨(some 66),.p .mv,[.t 1],none,[]⟩,
⟨(some 67),.p .mv,[.t 17],none,[]⟩,
⟨(some 68),.p (.bin .geq),[.t 66,.t 67],none,[]⟩] false []) <|
 .cond (.t 68) (.skip) (.exit 2)) <|
 .block 3 (.seq (.region [
⟨(some 69),.p .mv,[.t 13],none,[]⟩,
⟨(some 70),.p (.bin .sub),[.t 69,.c (.int .i64 1)],none,[]⟩,
⟨(some 13),.p .mv,[.t 70],none,[]⟩] false []) <|
 .seq (.region [
⟨(some 71),.p .mv,[.t 1],none,[]⟩,
⟨(some 72),.p .mv,[.t 17],none,[]⟩,
⟨(some 73),.p (.bin .quo),[.t 71,.t 72],none,[]⟩,
⟨(some 18),.p .mv,[.t 73],none,[]⟩] false []) <|
 .seq (.region [
⟨(some 74),.p .mv,[.t 13],none,[]⟩,
⟨(some 75),.p .mv,[.t 1],none,[]⟩,
⟨(some 76),.p .mv,[.t 18],none,[]⟩,
⟨(some 77),.p .mv,[.t 17],none,[]⟩,
⟨(some 78),.p (.bin .mul),[.t 76,.t 77],none,[]⟩,
⟨(some 79),.p (.bin .sub),[.t 75,.t 78],none,[]⟩,
⟨(some 80),.p .idxS,[.c (.str [48,49,50,51,52,53,54,55,56,57,97,98,99,100,101,102,103,104,105,106,107,108,109,110,111,112,113,114,115,116,117,118,119,120,121,122]),.t 79],none,[]⟩,
⟨(some 81),.p (.iap 65 1),[.t 12,.t 74],none,[]⟩,
⟨none,.w (.st 1),[.t 81,.t 80],none,[]⟩] false []) <|
 .region [
⟨(some 82),.p .mv,[.t 18],none,[]⟩,
⟨(some 1),.p .mv,[.t 82],none,[]⟩] false [])))) <|
 .seq (.region [
⟨(some 83),.p .mv,[.t 13],none,[]⟩,
⟨(some 84),.p (.bin .sub),[.t 83,.c (.int .i64 1)],none,[]⟩,
⟨(some 13),.p .mv,[.t 84],none,[]⟩] false []) <|
 .region [
⟨(some 85),.p .mv,[.t 13],none,[]⟩,
⟨(some 86),.p .mv,[.t 1],none,[]⟩,
⟨(some 87),.p .idxS,[.c (.str [48,49,50,51,52,53,54,55,56,57,97,98,99,100,101,102,103,104,105,106,107,108,109,110,111,112,113,114,115,116,117,118,119,120,121,122]),.t 86],none,[]⟩,
⟨(some 88),.p (.iap 65 1),[.t 12,.t 85],none,[]⟩,
⟨none,.w (.st 1),[.t 88,.t 87],none,[]⟩] false [])) <|
 .seq (.seq (.region [
⟨(some 89),.p .mv,[.t 3],none,[]⟩] false []) <|
 .cond (.t 89) (.seq (.region [
⟨(some 90),.p .mv,[.t 13],none,[]⟩,
⟨(some 91),.p (.bin .sub),[.t 90,.c (.int .i64 1)],none,[]⟩,
⟨(some 13),.p .mv,[.t 91],none,[]⟩] false []) <|
 .region [
⟨(some 92),.p .mv,[.t 13],none,[]⟩,
⟨(some 93),.p (.iap 65 1),[.t 12,.t 92],none,[]⟩,
⟨none,.w (.st 1),[.t 93,.c (.int .u8 45)],none,[]⟩] false []) (.skip)) <|
 .seq (.seq (.region [
⟨(some 94),.p .mv,[.t 4],none,[]⟩] false []) <|
 .cond (.t 94) (.seq (.region [
⟨(some 95),.p .mv,[.t 0],none,[]⟩,
⟨(some 96),.p .mv,[.t 13],none,[]⟩,
⟨(some 97),.r (.slp 65 1 true false),[.t 12,.t 96],none,[]⟩,
⟨(some 98),.w (.app 1 1),[.t 95,.t 97],none,[]⟩,
⟨(some 10),.p .mv,[.t 98],none,[]⟩] false []) <|
 .ret) (.skip)) <|
 .seq (.region [
⟨(some 99),.p .mv,[.t 13],none,[]⟩,
⟨(some 100),.r (.slp 65 1 true false),[.t 12,.t 99],none,[]⟩,
⟨(some 101),.r .b2s,[.t 100],none,[]⟩,
⟨(some 11),.p .mv,[.t 101],none,[]⟩] false []) <|
 .ret, [.tmp 10,.tmp 11]⟩
structure D299 (T : Tab) : Prop where
  fn : T.fn 299 = some ir299
  pr : T.prim 299 = none
  d303 : D303 T
  p304 : T.prim 304 = some tzPrim
/-- internal/strconv.FormatInt -/
def ir294 : AFunc := ⟨.seq (.region [
⟨(some 4),.p .mv,[.c (.str [])],none,[]⟩] false []) <|
 .seq (.seq (.region [
⟨(some 10),.p .mv,[.t 1],none,[]⟩,
⟨(some 11),.p (.bin .eql),[.t 10,.c (.int .i64 10)],none,[]⟩] false []) <|
 .cond (.t 11) (.seq (.seq (.region [
⟨(some 12),.p .mv,[.t 0],none,[]⟩,
⟨(some 13),.p (.bin .leq),[.c (.int .i64 0),.t 12],none,[]⟩,
⟨(some 14),.p .mv,[.t 13],none,[]⟩,
⟨(some 15),.p .mv,[.t 0],(some (14,true)),[]⟩,
⟨(some 16),.p (.bin .lss),[.t 15,.c (.int .i64 100)],(some (14,true)),[]⟩,
⟨(some 17),.p .pick,[.t 14,.t 16,.c (.bool false)],none,[]⟩] false []) <|
 .cond (.t 17) (.seq (.region [
⟨(some 18),.p .mv,[.t 0],none,[]⟩,
⟨(some 19),.w .call,[.c (.fn 296 [] []),.t 18],none,[]⟩,
⟨(some 4),.p .mv,[.t 19],none,[]⟩] false []) <|
 .ret) (.skip)) <|
 .seq (.region [
⟨(some 5),.w .box,[.c (.agg [(.int .u8 0),(.int .u8 0),(.int .u8 0),(.int .u8 0),(.int .u8 0),(.int .u8 0),(.int .u8 0),(.int .u8 0),(.int .u8 0),(.int .u8 0),(.int .u8 0),(.int .u8 0),(.int .u8 0),(.int .u8 0),(.int .u8 0),(.int .u8 0),(.int .u8 0),(.int .u8 0),(.int .u8 0),(.int .u8 0),(.int .u8 0),(.int .u8 0),(.int .u8 0),(.int .u8 0)])],none,[]⟩] false []) <|
 .seq (.region [
⟨(some 20),.p .mv,[.t 0],none,[]⟩,
⟨(some 21),.p (.conv .u64),[.t 20],none,[]⟩,
⟨(some 6),.p .mv,[.t 21],none,[]⟩] false []) <|
 .seq (.seq (.region [
⟨(some 22),.p .mv,[.t 0],none,[]⟩,
⟨(some 23),.p (.bin .lss),[.t 22,.c (.int .i64 0)],none,[]⟩] false []) <|
 .cond (.t 23) (.region [
⟨(some 24),.p .mv,[.t 6],none,[]⟩,
⟨(some 25),.p (.un .neg),[.t 24],none,[]⟩,
⟨(some 6),.p .mv,[.t 25],none,[]⟩] false []) (.skip)) <|
 .seq (.region [
⟨(some 26),.p .mv,[.t 6],none,[]⟩,
⟨(some 27),.w .call,[.c (.fn 297 [] []),.t 26],none,[]⟩,
⟨(some 7),.p .mv,[.t 27],none,[]⟩] false []) <|
 .seq (.region [
⟨(some 28),.p .mv,[.t 7],none,[]⟩,
⟨(some 29),.p (.bin .add),[.c (.int .i64 1),.t 28],none,[]⟩,
⟨(some 30),.r (.slp 24 1 true true),[.t 5,.c (.int .i64 1),.t 29],none,[]⟩,
⟨(some 31),.p .mv,[.t 6],none,[]⟩,
⟨(some 32),.w .call,[.c (.fn 298 [] []),.t 30,.t 31],none,[]⟩] false []) <|
 .seq (.seq (.region [
⟨(some 33),.p .mv,[.t 0],none,[]⟩,
⟨(some 34),.p (.bin .lss),[.t 33,.c (.int .i64 0)],none,[]⟩] false []) <|
 .cond (.t 34) (.seq (.region [
⟨(some 35),.p (.iap 24 1),[.t 5,.c (.int .i64 0)],none,[]⟩,
⟨none,.w (.st 1),[.t 35,.c (.int .u8 45)],none,[]⟩] false []) <|
 .seq (.region [
⟨(some 36),.p .mv,[.t 7],none,[]⟩,
⟨(some 37),.p (.bin .add),[.c (.int .i64 1),.t 36],none,[]⟩,
⟨(some 38),.r (.slp 24 1 false true),[.t 5,.t 37],none,[]⟩,
⟨(some 39),.r .b2s,[.t 38],none,[]⟩,
⟨(some 4),.p .mv,[.t 39],none,[]⟩] false []) <|
 .ret) (.skip)) <|
 .seq (.region [
⟨(some 40),.p .mv,[.t 7],none,[]⟩,
⟨(some 41),.p (.bin .add),[.c (.int .i64 1),.t 40],none,[]⟩,
⟨(some 42),.r (.slp 24 1 true true),[.t 5,.c (.int .i64 1),.t 41],none,[]⟩,
⟨(some 43),.r .b2s,[.t 42],none,[]⟩,
⟨(some 4),.p .mv,[.t 43],none,[]⟩] false []) <|
 .ret) (.skip)) <|
 .seq (.region [
⟨(some 45),.p .mv,[.t 0],none,[]⟩,
⟨(some 46),.p (.conv .u64),[.t 45],none,[]⟩,
⟨(some 47),.p .mv,[.t 1],none,[]⟩,
⟨(some 48),.p .mv,[.t 0],none,[]⟩,
⟨(some 49),.p (.bin .lss),[.t 48,.c (.int .i64 0)],none,[]⟩,
⟨(some 50),.w .call,[.c (.fn 299 [] []),.c (.slc none 0 0 none),.t 46,.t 47,.t 49,.c (.bool false)],none,[]⟩,
⟨(some 44),.p .mv,[.t 50],none,[]⟩,
⟨(some 51),.p (.ext 0),[.t 44],none,[]⟩,
⟨(some 52),.p (.ext 1),[.t 44],none,[]⟩,
⟨(some 8),.p .mv,[.t 51],none,[]⟩,
⟨(some 9),.p .mv,[.t 52],none,[]⟩] false []) <|
 .seq (.region [
⟨(some 53),.p .mv,[.t 9],none,[]⟩,
⟨(some 4),.p .mv,[.t 53],none,[]⟩] false []) <|
 .ret, [.tmp 4]⟩
structure D294 (T : Tab) : Prop where
  fn : T.fn 294 = some ir294
  pr : T.prim 294 = none
  d296 : D296 T
  d299 : D299 T
/-- internal/strconv.Itoa -/
def ir290 : AFunc := ⟨.seq (.region [
⟨(some 2),.p .mv,[.c (.str [])],none,[]⟩] false []) <|
 .seq (.region [
⟨(some 3),.p .mv,[.t 0],none,[]⟩,
⟨(some 4),.w .call,[.c (.fn 294 [] []),.t 3,.c (.int .i64 10)],none,[]⟩,
⟨(some 2),.p .mv,[.t 4],none,[]⟩] false []) <|
 .ret, [.tmp 2]⟩
structure D290 (T : Tab) : Prop where
  fn : T.fn 290 = some ir290
  pr : T.prim 290 = none
  d294 : D294 T
/-- strconv.Itoa -/
def ir283 : AFunc := ⟨.seq (.region [
⟨(some 2),.p .mv,[.c (.str [])],none,[]⟩] false []) <|
 .seq (.region [
⟨(some 3),.p .mv,[.t 0],none,[]⟩,
⟨(some 4),.w .call,[.c (.fn 290 [] []),.t 3],none,[]⟩,
⟨(some 2),.p .mv,[.t 4],none,[]⟩] false []) <|
 .ret, [.tmp 2]⟩
structure D283 (T : Tab) : Prop where
  fn : T.fn 283 = some ir283
  pr : T.prim 283 = none
  d290 : D290 T
/-- strconv.FormatInt -/
def ir289 : AFunc := ⟨.seq (.region [
⟨(some 4),.p .mv,[.c (.str [])],none,[]⟩] false []) <|
 .seq (.region [
⟨(some 5),.p .mv,[.t 0],none,[]⟩,
⟨(some 6),.p .mv,[.t 1],none,[]⟩,
⟨(some 7),.w .call,[.c (.fn 294 [] []),.t 5,.t 6],none,[]⟩,
⟨(some 4),.p .mv,[.t 7],none,[]⟩] false []) <|
 .ret, [.tmp 4]⟩
structure D289 (T : Tab) : Prop where
  fn : T.fn 289 = some ir289
  pr : T.prim 289 = some fmtPrim
  d294 : D294 T
/-- internal/strconv.log10Pow2 -/
def ir300 : AFunc := ⟨.seq (.region [
⟨(some 2),.p .mv,[.c (.int .i64 0)],none,[]⟩] false []) <|
 .seq (.region [
⟨(some 3),.p .mv,[.t 0],none,[]⟩,
⟨(some 4),.p (.bin .mul),[.t 3,.c (.int .i64 78913)],none,[]⟩,
⟨(some 5),.p (.bin .shr),[.t 4,.c (.int .u64 18)],none,[]⟩,
⟨(some 2),.p .mv,[.t 5],none,[]⟩] false []) <|
 .ret, [.tmp 2]⟩
structure D300 (T : Tab) : Prop where
  fn : T.fn 300 = some ir300
  pr : T.prim 300 = none
/-- math/bits.Len64 -/
def ir301 : AFunc := ⟨.seq (.region [
⟨(some 2),.p .mv,[.c (.int .i64 0)],none,[]⟩] false []) <|
 .seq (.seq (.region [
⟨(some 3),.p .mv,[.t 0],none,[]⟩,
⟨(some 4),.p (.bin .geq),[.t 3,.c (.int .u64 4294967296)],none,[]⟩] false []) <|
 .cond (.t 4) (.seq (.region [
⟨(some 5),.p .mv,[.t 0],none,[]⟩,
⟨(some 6),.p (.bin .shr),[.t 5,.c (.int .u64 32)],none,[]⟩,
⟨(some 0),.p .mv,[.t 6],none,[]⟩] false []) <|
 .region [
⟨(some 2),.p .mv,[.c (.int .i64 32)],none,[]⟩] false []) (.skip)) <|
 .seq (.seq (.region [
⟨(some 7),.p .mv,[.t 0],none,[]⟩,
⟨(some 8),.p (.bin .geq),[.t 7,.c (.int .u64 65536)],none,[]⟩] false []) <|
 .cond (.t 8) (.seq (.region [
⟨(some 9),.p .mv,[.t 0],none,[]⟩,
⟨(some 10),.p (.bin .shr),[.t 9,.c (.int .u64 16)],none,[]⟩,
⟨(some 0),.p .mv,[.t 10],none,[]⟩] false []) <|
 .region [
⟨(some 11),.p .mv,[.t 2],none,[]⟩,
⟨(some 12),.p (.bin .add),[.t 11,.c (.int .i64 16)],none,[]⟩,
⟨(some 2),.p .mv,[.t 12],none,[]⟩] false []) (.skip)) <|
 .seq (.seq (.region [
⟨(some 13),.p .mv,[.t 0],none,[]⟩,
⟨(some 14),.p (.bin .geq),[.t 13,.c (.int .u64 256)],none,[]⟩] false []) <|
 .cond (.t 14) (.seq (.region [
⟨(some 15),.p .mv,[.t 0],none,[]⟩,
⟨(some 16),.p (.bin .shr),[.t 15,.c (.int .u64 8)],none,[]⟩,
⟨(some 0),.p .mv,[.t 16],none,[]⟩] false []) <|
 .region [
⟨(some 17),.p .mv,[.t 2],none,[]⟩,
⟨(some 18),.p (.bin .add),[.t 17,.c (.int .i64 8)],none,[]⟩,
⟨(some 2),.p .mv,[.t 18],none,[]⟩] false []) (.skip)) <|
 .seq (.region [
⟨(some 19),.p .mv,[.t 2],none,[]⟩,
⟨(some 20),.p .mv,[.t 0],none,[]⟩,
⟨(some 21),.p (.conv .u8),[.t 20],none,[]⟩,
⟨(some 22),.p .idxS,[.c (.str [0,1,2,2,3,3,3,3,4,4,4,4,4,4,4,4,5,5,5,5,5,5,5,5,5,5,5,5,5,5,5,5,6,6,6,6,6,6,6,6,6,6,6,6,6,6,6,6,6,6,6,6,6,6,6,6,6,6,6,6,6,6,6,6,7,7,7,7,7,7,7,7,7,7,7,7,7,7,7,7,7,7,7,7,7,7,7,7,7,7,7,7,7,7,7,7,7,7,7,7,7,7,7,7,7,7,7,7,7,7,7,7,7,7,7,7,7,7,7,7,7,7,7,7,7,7,7,7,8,8,8,8,8,8,8,8,8,8,8,8,8,8,8,8,8,8,8,8,8,8,8,8,8,8,8,8,8,8,8,8,8,8,8,8,8,8,8,8,8,8,8,8,8,8,8,8,8,8,8,8,8,8,8,8,8,8,8,8,8,8,8,8,8,8,8,8,8,8,8,8,8,8,8,8,8,8,8,8,8,8,8,8,8,8,8,8,8,8,8,8,8,8,8,8,8,8,8,8,8,8,8,8,8,8,8,8,8,8,8,8,8,8,8,8,8,8,8,8,8,8,8,8,8,8,8,8]),.t 21],none,[]⟩,
⟨(some 23),.p (.conv .i64),[.t 22],none,[]⟩,
⟨(some 24),.p (.bin .add),[.t 19,.t 23],none,[]⟩,
⟨(some 2),.p .mv,[.t 24],none,[]⟩] false []) <|
 .ret, [.tmp 2]⟩
structure D301 (T : Tab) : Prop where
  fn : T.fn 301 = some ir301
  pr : T.prim 301 = none
/-- internal/strconv.bool2[int] -/
def ir302 : AFunc := ⟨.seq (.region [
⟨(some 2),.p .mv,[.c (.int .i64 0)],none,[]⟩] false []) <|
 .seq (.seq (.region [
⟨(some 3),.p .mv,[.t 0],none,[]⟩] false []) <|
 .cond (.t 3) (.seq (.region [
⟨(some 2),.p .mv,[.c (.int .i64 1)],none,[]⟩] false []) <|
 .ret) (.skip)) <|
 .seq (.region [
⟨(some 2),.p .mv,[.c (.int .i64 0)],none,[]⟩] false []) <|
 .ret, [.tmp 2]⟩
structure D302 (T : Tab) : Prop where
  fn : T.fn 302 = some ir302
  pr : T.prim 302 = none
/-- slices.Clone[[]motley/heap.field,motley/heap.field] -/
def ir362 : AFunc := ⟨.seq (.region [
⟨(some 2),.p .mv,[.c (.slc none 0 0 none)],none,[]⟩] false []) <|
 .seq (.seq (.region [
⟨(some 3),.p .mv,[.t 0],none,[]⟩,
⟨(some 4),.p (.isNil .slc false),[.t 3],none,[]⟩] false []) <|
 .cond (.t 4) (.seq (.region [
⟨(some 2),.p .mv,[.c (.slc none 0 0 none)],none,[]⟩] false []) <|
 .ret) (.skip)) <|
 .seq (.region [
⟨(some 5),.w (.bsl 3 0 [] []),[],none,[]⟩,
⟨(some 6),.p .mv,[.t 0],none,[]⟩,
⟨(some 7),.w (.app 3 16),[.t 5,.t 6],none,[]⟩,
⟨(some 2),.p .mv,[.t 7],none,[]⟩] false []) <|
 .ret, [.tmp 2]⟩
structure D362 (T : Tab) : Prop where
  fn : T.fn 362 = some ir362
  pr : T.prim 362 = none
/-- slices.EqualFunc[[]motley/heap.cell,[]motley/heap.cell,motley/heap.cell,motley/heap.cell] -/
def ir363 : AFunc := ⟨.seq (.region [
⟨(some 6),.p .mv,[.c (.bool false)],none,[]⟩] false []) <|
 .seq (.seq (.region [
⟨(some 10),.p .mv,[.t 0],none,[]⟩,
⟨(some 11),.p .len,[.t 10],none,[]⟩,
⟨(some 12),.p .mv,[.t 1],none,[]⟩,
⟨(some 13),.p .len,[.t 12],none,[]⟩,
⟨(some 14),.p (.bin .neq),[.t 11,.t 13],none,[]⟩] false []) <|
 .cond (.t 14) (.seq (.region [
⟨(some 6),.p .mv,[.c (.bool false)],none,[]⟩] false []) <|
 .ret) (.skip)) <|
 .seq (.seq (.region [
⟨(some 15),.p .mv,[.t 0],none,[]⟩,
⟨(some 16),.p .len,[.t 15],none,[]⟩,
⟨(some 17),.p .mv,[.c (.int .i64 0)],none,[]⟩] false []) <|
 .block 0 (.loop (.seq (.region [
⟨(some 18),.p (.bin .lss),[.t 17,.t 16],none,[]⟩] false []) <|
 .seq (.cond (.t 18) (.skip) (.exit 0)) <|
 .seq (.block 1 (.seq (.region [
⟨(some 19),.p .mv,[.t 17],none,[]⟩,
⟨(some 20),.p (.ia 5),[.t 15,.t 17],none,[]⟩,
⟨(some 21),.r (.ld 5 true),[.t 20],none,[]⟩,
⟨(some 8),.w .box,[.c (.agg [(.slc none 0 0 none),(.bool false),(.bool false),(.bool false),(.int .i64 0)])],none,[]⟩,
⟨(some 7),.p .mv,[.t 19],none,[]⟩,
⟨none,.w (.st 5),[.t 8,.t 21],none,[]⟩] false []) <|
 .seq (.region [
⟨(some 22),.p .mv,[.t 1],none,[]⟩,
⟨(some 23),.p .mv,[.t 7],none,[]⟩,
⟨(some 24),.p (.ia 5),[.t 22,.t 23],none,[]⟩,
⟨(some 25),.r (.ld 5 true),[.t 24],none,[]⟩,
⟨(some 9),.w .box,[.c (.agg [(.slc none 0 0 none),(.bool false),(.bool false),(.bool false),(.int .i64 0)])],none,[]⟩,
⟨none,.w (.st 5),[.t 9,.t 25],none,[]⟩] false []) <|
 .seq (.region [
⟨(some 26),.p .mv,[.t 2],none,[]⟩,
⟨(some 27),.r (.ld 5 true),[.t 8],none,[]⟩,
⟨(some 28),.r (.ld 5 true),[.t 9],none,[]⟩,
⟨(some 29),.w .call,[.t 26,.t 27,.t 28],none,[]⟩,
⟨(some 30),.p (.un .not),[.t 29],none,[]⟩] false []) <|
 .cond (.t 30) (.seq (.region [
⟨(some 6),.p .mv,[.c (.bool false)],none,[]⟩] false []) <|
 .ret) (.skip))) <|
 .region [
⟨(some 31),.p (.bin .add),[.t 17,.c (.int .i64 1)],none,[]⟩,
⟨(some 17),.p .mv,[.t 31],none,[]⟩] false []))) <|
 .seq (.region [
⟨(some 6),.p .mv,[.c (.bool true)],none,[]⟩] false []) <|
 .ret, [.tmp 6]⟩
structure D363 (T : Tab) : Prop where
  fn : T.fn 363 = some ir363
  pr : T.prim 363 = none
/-- slices.Equal[[]int,int] -/
def ir365 : AFunc := ⟨.seq (.region [
⟨(some 4),.p .mv,[.c (.bool false)],none,[]⟩] false []) <|
 .seq (.seq (.region [
⟨(some 6),.p .mv,[.t 0],none,[]⟩,
⟨(some 7),.p .len,[.t 6],none,[]⟩,
⟨(some 8),.p .mv,[.t 1],none,[]⟩,
⟨(some 9),.p .len,[.t 8],none,[]⟩,
⟨(some 10),.p (.bin .neq),[.t 7,.t 9],none,[]⟩] false []) <|
 .cond (.t 10) (.seq (.region [
⟨(some 4),.p .mv,[.c (.bool false)],none,[]⟩] false []) <|
 .ret) (.skip)) <|
 .seq (.seq (.region [
⟨(some 11),.p .mv,[.t 0],none,[]⟩,
⟨(some 12),.p .len,[.t 11],none,[]⟩,
⟨(some 13),.p .mv,[.c (.int .i64 0)],none,[]⟩] false []) <|
 .block 0 (.loop (.seq (.region [
⟨(some 14),.p (.bin .lss),[.t 13,.t 12],none,[]⟩] false []) <|
 .seq (.cond (.t 14) (.skip) (.exit 0)) <|
 .seq (.block 1 (.seq (.region [
⟨(some 15),.p .mv,[.t 13],none,[]⟩,
⟨(some 5),.p .mv,[.t 15],none,[]⟩] false []) <|
 .seq (.region [
⟨(some 16),.p .mv,[.t 0],none,[]⟩,
⟨(some 17),.p .mv,[.t 5],none,[]⟩,
⟨(some 18),.p (.ia 1),[.t 16,.t 17],none,[]⟩,
⟨(some 19),.r (.ld 1 false),[.t 18],none,[]⟩,
⟨(some 20),.p .mv,[.t 1],none,[]⟩,
⟨(some 21),.p .mv,[.t 5],none,[]⟩,
⟨(some 22),.p (.ia 1),[.t 20,.t 21],none,[]⟩,
⟨(some 23),.r (.ld 1 false),[.t 22],none,[]⟩,
⟨(some 24),.p (.bin .neq),[.t 19,.t 23],none,[]⟩] true []) <|
 .cond (.t 24) (.seq (.region [
⟨(some 4),.p .mv,[.c (.bool false)],none,[]⟩] false []) <|
 .ret) (.skip))) <|
 .region [
⟨(some 25),.p (.bin .add),[.t 13,.c (.int .i64 1)],none,[]⟩,
⟨(some 13),.p .mv,[.t 25],none,[]⟩] false []))) <|
 .seq (.region [
⟨(some 4),.p .mv,[.c (.bool true)],none,[]⟩] false []) <|
 .ret, [.tmp 4]⟩
structure D365 (T : Tab) : Prop where
  fn : T.fn 365 = some ir365
  pr : T.prim 365 = none
/-- slices.Equal[[]motley/heap.field,motley/heap.field] -/
def ir384 : AFunc := ⟨.seq (.region [
⟨(some 4),.p .mv,[.c (.bool false)],none,[]⟩] false []) <|
 .seq (.seq (.region [
⟨(some 6),.p .mv,[.t 0],none,[]⟩,
⟨(some 7),.p .len,[.t 6],none,[]⟩,
⟨(some 8),.p .mv,[.t 1],none,[]⟩,
⟨(some 9),.p .len,[.t 8],none,[]⟩,
⟨(some 10),.p (.bin .neq),[.t 7,.t 9],none,[]⟩] false []) <|
 .cond (.t 10) (.seq (.region [
⟨(some 4),.p .mv,[.c (.bool false)],none,[]⟩] false []) <|
 .ret) (.skip)) <|
 .seq (.seq (.region [
⟨(some 11),.p .mv,[.t 0],none,[]⟩,
⟨(some 12),.p .len,[.t 11],none,[]⟩,
⟨(some 13),.p .mv,[.c (.int .i64 0)],none,[]⟩] false []) <|
 .block 0 (.loop (.seq (.region [
⟨(some 14),.p (.bin .lss),[.t 13,.t 12],none,[]⟩] false []) <|
 .seq (.cond (.t 14) (.skip) (.exit 0)) <|
 .seq (.block 1 (.seq (.region [
⟨(some 15),.p .mv,[.t 13],none,[]⟩,
⟨(some 5),.p .mv,[.t 15],none,[]⟩] false []) <|
 .seq (.region [
⟨(some 16),.p .mv,[.t 0],none,[]⟩,
⟨(some 17),.p .mv,[.t 5],none,[]⟩,
⟨(some 18),.p (.ia 3),[.t 16,.t 17],none,[]⟩,
⟨(some 19),.r (.ld 3 true),[.t 18],none,[]⟩,
⟨(some 20),.p .mv,[.t 1],none,[]⟩,
⟨(some 21),.p .mv,[.t 5],none,[]⟩,
⟨(some 22),.p (.ia 3),[.t 20,.t 21],none,[]⟩,
⟨(some 23),.r (.ld 3 true),[.t 22],none,[]⟩,
⟨(some 24),.p (.eqCells true [.bool,.bool,.int]),[.t 19,.t 23],none,[]⟩] true []) <|
 .cond (.t 24) (.seq (.region [
⟨(some 4),.p .mv,[.c (.bool false)],none,[]⟩] false []) <|
 .ret) (.skip))) <|
 .region [
⟨(some 25),.p (.bin .add),[.t 13,.c (.int .i64 1)],none,[]⟩,
⟨(some 13),.p .mv,[.t 25],none,[]⟩] false []))) <|
 .seq (.region [
⟨(some 4),.p .mv,[.c (.bool true)],none,[]⟩] false []) <|
 .ret, [.tmp 4]⟩
structure D384 (T : Tab) : Prop where
  fn : T.fn 384 = some ir384
  pr : T.prim 384 = none
/-- slices.Clip[motley/big.nat,int] -/
def ir457 : AFunc := ⟨.seq (.region [
⟨(some 2),.p .mv,[.c (.slc none 0 0 none)],none,[]⟩] false []) <|
 .seq (.region [
⟨(some 3),.p .mv,[.t 0],none,[]⟩,
⟨(some 4),.p .mv,[.t 0],none,[]⟩,
⟨(some 5),.p .len,[.t 4],none,[]⟩,
⟨(some 6),.p .mv,[.t 0],none,[]⟩,
⟨(some 7),.p .len,[.t 6],none,[]⟩,
⟨(some 8),.p (.sl 1 false true true),[.t 3,.t 5,.t 7],none,[]⟩,
⟨(some 2),.p .mv,[.t 8],none,[]⟩] false []) <|
 .ret, [.tmp 2]⟩
structure D457 (T : Tab) : Prop where
  fn : T.fn 457 = some ir457
  pr : T.prim 457 = none
/-- slices.IndexFunc[[]string,string] -/
def ir501 : AFunc := ⟨.seq (.region [
⟨(some 4),.p .mv,[.c (.int .i64 0)],none,[]⟩] false []) <|
 .seq (.seq (.region [
⟨(some 6),.p .mv,[.t 0],none,[]⟩,
⟨(some 7),.p .len,[.t 6],none,[]⟩,
⟨(some 8),.p .mv,[.c (.int .i64 0)],none,[]⟩] false []) <|
 .block 0 (.loop (.seq (.region [
⟨(some 9),.p (.bin .lss),[.t 8,.t 7],none,[]⟩] false []) <|
 .seq (.cond (.t 9) (.skip) (.exit 0)) <|
 .seq (.block 1 (.seq (.region [
⟨(some 10),.p .mv,[.t 8],none,[]⟩,
⟨(some 5),.p .mv,[.t 10],none,[]⟩] false []) <|
 .seq (.region [
⟨(some 11),.p .mv,[.t 1],none,[]⟩,
⟨(some 12),.p .mv,[.t 0],none,[]⟩,
⟨(some 13),.p .mv,[.t 5],none,[]⟩,
⟨(some 14),.p (.ia 1),[.t 12,.t 13],none,[]⟩,
⟨(some 15),.r (.ld 1 false),[.t 14],none,[]⟩,
⟨(some 16),.w .call,[.t 11,.t 15],none,[]⟩] false []) <|
 .cond (.t 16) (.seq (.region [
⟨(some 17),.p .mv,[.t 5],none,[]⟩,
⟨(some 4),.p .mv,[.t 17],none,[]⟩] false []) <|
 .ret) (.skip))) <|
 .region [
⟨(some 18),.p (.bin .add),[.t 8,.c (.int .i64 1)],none,[]⟩,
⟨(some 8),.p .mv,[.t 18],none,[]⟩] false []))) <|
 .seq (.region [
⟨(some 4),.p .mv,[.c (.int .i64 (-1))],none,[]⟩] false []) <|
 .ret, [.tmp 4]⟩
structure D501 (T : Tab) : Prop where
  fn : T.fn 501 = some ir501
  pr : T.prim 501 = none
/-- slices.ContainsFunc[[]string,string] -/
def ir490 : AFunc := ⟨.seq (.region [
⟨(some 4),.p .mv,[.c (.bool false)],none,[]⟩] false []) <|
 .seq (.region [
⟨(some 5),.p .mv,[.t 0],none,[]⟩,
⟨(some 6),.p .mv,[.t 1],none,[]⟩,
⟨(some 7),.w .call,[.c (.fn 501 [] []),.t 5,.t 6],none,[]⟩,
⟨(some 8),.p (.bin .geq),[.t 7,.c (.int .i64 0)],none,[]⟩,
⟨(some 4),.p .mv,[.t 8],none,[]⟩] false []) <|
 .ret, [.tmp 4]⟩
structure D490 (T : Tab) : Prop where
  fn : T.fn 490 = some ir490
  pr : T.prim 490 = none
  d501 : D501 T
/-- slices.Backward[motley/big.nat,int]$1 -/
def ir502 : AFunc := ⟨.seq (.region [
⟨(some 4),.r (.ld 1 false),[.t 1],none,[]⟩,
⟨(some 5),.p .len,[.t 4],none,[]⟩,
⟨(some 6),.p (.bin .sub),[.t 5,.c (.int .i64 1)],none,[]⟩,
⟨(some 3),.p .mv,[.t 6],none,[]⟩] false []) <|
 .block 0 (.loop (.seq (.seq (.region [
⟨(some 7),.p .mv,[.t 3],none,[]⟩,
⟨(some 8),.p (.bin .geq),[.t 7,.c (.int .i64 0)],none,[]⟩] false []) <|
 .cond (.t 8) (.skip) (.exit 0)) <|
 .seq (.block 1 (.seq (.region [
⟨(some 11),.p .mv,[.t 0],none,[]⟩,
⟨(some 12),.p .mv,[.t 3],none,[]⟩,
⟨(some 13),.r (.ld 1 false),[.t 1],none,[]⟩,
⟨(some 14),.p .mv,[.t 3],none,[]⟩,
⟨(some 15),.p (.ia 1),[.t 13,.t 14],none,[]⟩,
⟨(some 16),.r (.ld 1 false),[.t 15],none,[]⟩,
⟨(some 17),.w .call,[.t 11,.t 12,.t 16],none,[]⟩,
⟨(some 18),.p (.un .not),[.t 17],none,[]⟩] false []) <|
 .cond (.t 18) (.ret) (.skip))) <|
 .region [
⟨(some 9),.p .mv,[.t 3],none,[]⟩,
⟨(some 10),.p (.bin .sub),[.t 9,.c (.int .i64 1)],none,[]⟩,
⟨(some 3),.p .mv,[.t 10],none,[]⟩] false [])), []⟩
structure D502 (T : Tab) : Prop where
  fn : T.fn 502 = some ir502
  pr : T.prim 502 = none
/-- slices.Backward[motley/big.nat,int] -/
def ir492 : AFunc := ⟨.seq (.region [
⟨(some 1),.w .box,[.t 0],none,[]⟩,
⟨(some 2),.p .mv,[.c .nilFn],none,[]⟩] false []) <|
 .seq (.region [
⟨(some 3),.p (.mkF 502 0),[.t 1],none,[]⟩,
⟨(some 2),.p .mv,[.t 3],none,[]⟩] false []) <|
 .ret, [.tmp 2]⟩
structure D492 (T : Tab) : Prop where
  fn : T.fn 492 = some ir492
  pr : T.prim 492 = none
  d502 : D502 T
/-- slices.Compare[motley/big.nat,int] -/
def ir494 : AFunc := ⟨.seq (.region [
⟨(some 4),.p .mv,[.c (.int .i64 0)],none,[]⟩] false []) <|
 .seq (.seq (.region [
⟨(some 9),.p .mv,[.t 0],none,[]⟩,
⟨(some 10),.p .len,[.t 9],none,[]⟩,
⟨(some 11),.p .mv,[.c (.int .i64 0)],none,[]⟩] false []) <|
 .block 0 (.loop (.seq (.region [
⟨(some 12),.p (.bin .lss),[.t 11,.t 10],none,[]⟩] false []) <|
 .seq (.cond (.t 12) (.skip) (.exit 0)) <|
 .seq (.block 1 (.seq (.region [
⟨(some 13),.p .mv,[.t 11],none,[]⟩,
⟨(some 14),.p (.ia 1),[.t 9,.t 11],none,[]⟩,
⟨(some 15),.r (.ld 1 false),[.t 14],none,[]⟩,
⟨(some 5),.p .mv,[.t 13],none,[]⟩,
⟨(some 6),.p .mv,[.t 15],none,[]⟩] false []) <|
 .seq (.seq (.region [
⟨(some 16),.p .mv,[.t 5],none,[]⟩,
⟨(some 17),.p .mv,[.t 1],none,[]⟩,
⟨(some 18),.p .len,[.t 17],none,[]⟩,
⟨(some 19),.p (.bin .geq),[.t 16,.t 18],none,[]⟩] false []) <|
 .cond (.t 19) (.seq (.region [
⟨(some 4),.p .mv,[.c (.int .i64 1)],none,[]⟩] false []) <|
 .ret) (.skip)) <|
 .seq (.region [
⟨(some 20),.p .mv,[.t 1],none,[]⟩,
⟨(some 21),.p .mv,[.t 5],none,[]⟩,
⟨(some 22),.p (.ia 1),[.t 20,.t 21],none,[]⟩,
⟨(some 23),.r (.ld 1 false),[.t 22],none,[]⟩,
⟨(some 7),.p .mv,[.t 23],none,[]⟩] false []) <|
 .seq (.region [
⟨(some 24),.p .mv,[.t 6],none,[]⟩,
⟨(some 25),.p .mv,[.t 7],none,[]⟩,
⟨(some 26),.w .call,[.c (.fn 178 [] []),.t 24,.t 25],none,[]⟩,
⟨(some 8),.p .mv,[.t 26],none,[]⟩] false []) <|
 .seq (.region [
⟨(some 27),.p .mv,[.t 8],none,[]⟩,
⟨(some 28),.p (.bin .neq),[.t 27,.c (.int .i64 0)],none,[]⟩] false []) <|
 .cond (.t 28) (.seq (.region [
⟨(some 29),.p .mv,[.t 8],none,[]⟩,
⟨(some 4),.p .mv,[.t 29],none,[]⟩] false []) <|
 .ret) (.skip))) <|
 .region [
⟨(some 30),.p (.bin .add),[.t 11,.c (.int .i64 1)],none,[]⟩,
⟨(some 11),.p .mv,[.t 30],none,[]⟩] false []))) <|
 .seq (.seq (.region [
⟨(some 31),.p .mv,[.t 0],none,[]⟩,
⟨(some 32),.p .len,[.t 31],none,[]⟩,
⟨(some 33),.p .mv,[.t 1],none,[]⟩,
⟨(some 34),.p .len,[.t 33],none,[]⟩,
⟨(some 35),.p (.bin .lss),[.t 32,.t 34],none,[]⟩] false []) <|
 .cond (.t 35) (.seq (.region [
⟨(some 4),.p .mv,[.c (.int .i64 (-1))],none,[]⟩] false []) <|
 .ret) (.skip)) <|
 .seq (.region [
⟨(some 4),.p .mv,[.c (.int .i64 0)],none,[]⟩] false []) <|
 .ret, [.tmp 4]⟩
structure D494 (T : Tab) : Prop where
  fn : T.fn 494 = some ir494
  pr : T.prim 494 = none
  d178 : D178 T
/-- slices.Reverse[motley/big.nat,int] -/
def ir495 : AFunc := ⟨.seq (.region [
⟨(some 4),.p .mv,[.t 0],none,[]⟩,
⟨(some 5),.p .len,[.t 4],none,[]⟩,
⟨(some 6),.p (.bin .sub),[.t 5,.c (.int .i64 1)],none,[]⟩,
⟨(some 2),.p .mv,[.c (.int .i64 0)],none,[]⟩,
⟨(some 3),.p .mv,[.t 6],none,[]⟩] false []) <|
 .block 0 (.loop (.seq (.seq (.region [
⟨(some 7),.p .mv,[.t 2],none,[]⟩,
⟨(some 8),.p .mv,[.t 3],none,[]⟩,
⟨(some 9),.p (.bin .lss),[.t 7,.t 8],none,[]⟩] false []) <|
 .cond (.t 9) (.skip) (.exit 0)) <|
 .seq (.block 1 (.region [
⟨(some 14),.p .mv,[.t 0],none,[]⟩,
⟨(some 15),.p .mv,[.t 2],none,[]⟩,
⟨(some 16),.p .mv,[.t 0],none,[]⟩,
⟨(some 17),.p .mv,[.t 3],none,[]⟩,
⟨(some 18),.p .mv,[.t 0],none,[]⟩,
⟨(some 19),.p .mv,[.t 3],none,[]⟩,
⟨(some 20),.p (.ia 1),[.t 18,.t 19],none,[]⟩,
⟨(some 21),.r (.ld 1 false),[.t 20],none,[]⟩,
⟨(some 22),.p .mv,[.t 0],none,[]⟩,
⟨(some 23),.p .mv,[.t 2],none,[]⟩,
⟨(some 24),.p (.ia 1),[.t 22,.t 23],none,[]⟩,
⟨(some 25),.r (.ld 1 false),[.t 24],none,[]⟩,
⟨(some 26),.p (.ia 1),[.t 14,.t 15],none,[]⟩,
⟨none,.w (.st 1),[.t 26,.t 21],none,[]⟩,
⟨(some 27),.p (.ia 1),[.t 16,.t 17],none,[]⟩,
⟨none,.w (.st 1),[.t 27,.t 25],none,[]⟩] true [])) <|
 .region [
⟨(some 10),.p .mv,[.t 2],none,[]⟩,
⟨(some 11),.p (.bin .add),[.t 10,.c (.int .i64 1)],none,[]⟩,
⟨(some 12),.p .mv,[.t 3],none,[]⟩,
⟨(some 13),.p (.bin .sub),[.t 12,.c (.int .i64 1)],none,[]⟩,
⟨(some 2),.p .mv,[.t 11],none,[]⟩,
⟨(some 3),.p .mv,[.t 13],none,[]⟩] false [])), []⟩
structure D495 (T : Tab) : Prop where
  fn : T.fn 495 = some ir495
  pr : T.prim 495 = none
/-- slices.Backward[[]int,int]$1 -/
def ir503 : AFunc := ⟨.seq (.region [
⟨(some 4),.r (.ld 1 false),[.t 1],none,[]⟩,
⟨(some 5),.p .len,[.t 4],none,[]⟩,
⟨(some 6),.p (.bin .sub),[.t 5,.c (.int .i64 1)],none,[]⟩,
⟨(some 3),.p .mv,[.t 6],none,[]⟩] false []) <|
 .block 0 (.loop (.seq (.seq (.region [
⟨(some 7),.p .mv,[.t 3],none,[]⟩,
⟨(some 8),.p (.bin .geq),[.t 7,.c (.int .i64 0)],none,[]⟩] false []) <|
 .cond (.t 8) (.skip) (.exit 0)) <|
 .seq (.block 1 (.seq (.region [
⟨(some 11),.p .mv,[.t 0],none,[]⟩,
⟨(some 12),.p .mv,[.t 3],none,[]⟩,
⟨(some 13),.r (.ld 1 false),[.t 1],none,[]⟩,
⟨(some 14),.p .mv,[.t 3],none,[]⟩,
⟨(some 15),.p (.ia 1),[.t 13,.t 14],none,[]⟩,
⟨(some 16),.r (.ld 1 false),[.t 15],none,[]⟩,
⟨(some 17),.w .call,[.t 11,.t 12,.t 16],none,[]⟩,
⟨(some 18),.p (.un .not),[.t 17],none,[]⟩] false []) <|
 .cond (.t 18) (.ret) (.skip))) <|
 .region [
⟨(some 9),.p .mv,[.t 3],none,[]⟩,
⟨(some 10),.p (.bin .sub),[.t 9,.c (.int .i64 1)],none,[]⟩,
⟨(some 3),.p .mv,[.t 10],none,[]⟩] false [])), []⟩
structure D503 (T : Tab) : Prop where
  fn : T.fn 503 = some ir503
  pr : T.prim 503 = none
/-- slices.Backward[[]int,int] -/
def ir497 : AFunc := ⟨.seq (.region [
⟨(some 1),.w .box,[.t 0],none,[]⟩,
⟨(some 2),.p .mv,[.c .nilFn],none,[]⟩] false []) <|
 .seq (.region [
⟨(some 3),.p (.mkF 503 0),[.t 1],none,[]⟩,
⟨(some 2),.p .mv,[.t 3],none,[]⟩] false []) <|
 .ret, [.tmp 2]⟩
structure D497 (T : Tab) : Prop where
  fn : T.fn 497 = some ir497
  pr : T.prim 497 = none
  d503 : D503 T
/-- internal/stringslite.CutPrefix -/
def ir504 : AFunc := ⟨.seq (.region [
⟨(some 4),.p .mv,[.c (.str [])],none,[]⟩,
⟨(some 5),.p .mv,[.c (.bool false)],none,[]⟩] false []) <|
 .seq (.seq (.region [
⟨(some 6),.p .mv,[.t 0],none,[]⟩,
⟨(some 7),.p .mv,[.t 1],none,[]⟩,
⟨(some 8),.w .call,[.c (.fn 256 [] []),.t 6,.t 7],none,[]⟩,
⟨(some 9),.p (.un .not),[.t 8],none,[]⟩] false []) <|
 .cond (.t 9) (.seq (.region [
⟨(some 10),.p .mv,[.t 0],none,[]⟩,
⟨(some 4),.p .mv,[.t 10],none,[]⟩,
⟨(some 5),.p .mv,[.c (.bool false)],none,[]⟩] false []) <|
 .ret) (.skip)) <|
 .seq (.region [
⟨(some 11),.p .mv,[.t 0],none,[]⟩,
⟨(some 12),.p .mv,[.t 1],none,[]⟩,
⟨(some 13),.p .lenS,[.t 12],none,[]⟩,
⟨(some 14),.p (.slS true false),[.t 11,.t 13],none,[]⟩,
⟨(some 4),.p .mv,[.t 14],none,[]⟩,
⟨(some 5),.p .mv,[.c (.bool true)],none,[]⟩] false []) <|
 .ret, [.tmp 4,.tmp 5]⟩
structure D504 (T : Tab) : Prop where
  fn : T.fn 504 = some ir504
  pr : T.prim 504 = none
  d256 : D256 T
/-- strings.CutPrefix -/
def ir498 : AFunc := ⟨.seq (.region [
⟨(some 4),.p .mv,[.c (.str [])],none,[]⟩,
⟨(some 5),.p .mv,[.c (.bool false)],none,[]⟩] false []) <|
 .seq (.region [
⟨(some 6),.p .mv,[.t 0],none,[]⟩,
⟨(some 7),.p .mv,[.t 1],none,[]⟩,
⟨(some 8),.w .call,[.c (.fn 504 [] []),.t 6,.t 7],none,[]⟩,
⟨(some 9),.p (.ext 0),[.t 8],none,[]⟩,
⟨(some 10),.p (.ext 1),[.t 8],none,[]⟩,
⟨(some 4),.p .mv,[.t 9],none,[]⟩,
⟨(some 5),.p .mv,[.t 10],none,[]⟩] false []) <|
 .ret, [.tmp 4,.tmp 5]⟩
structure D498 (T : Tab) : Prop where
  fn : T.fn 498 = some ir498
  pr : T.prim 498 = none
  d504 : D504 T
/-- strings.trimLeftByte -/
def ir505 : AFunc := ⟨.seq (.region [
⟨(some 4),.p .mv,[.c (.str [])],none,[]⟩] false []) <|
 .seq (.block 0 (.loop (.seq (.seq (.region [
⟨(some 5),.p .mv,[.t 0],none,[]⟩,
⟨(some 6),.p .lenS,[.t 5],none,[]⟩,
⟨(some 7),.p (.bin .gtr),[.t 6,.c (.int .i64 0)],none,[]⟩,
⟨(some 8),.p .mv,[.t 7],none,[]⟩,
⟨(some 9),.p .mv,[.t 0],(some (8,true)),[]⟩,
⟨(some 10),.p .idxS,[.t 9,.c (.int .i64 0)],(some (8,true)),[]⟩,
⟨(some 11),.p .mv,[.t 1],(some (8,true)),[]⟩,
⟨(some 12),.p (.bin .eql),[.t 10,.t 11],(some (8,true)),[]⟩,
⟨(some 13),.p .pick,[.t 8,.t 12,.c (.bool false)],none,[]⟩] false []) <|
 .cond (.t 13) (.skip) (.exit 0)) <|
 .block 1 (.region [
⟨(some 14),.p .mv,[.t 0],none,[]⟩,
⟨(some 15),.p (.slS true false),[.t 14,.c (.int .i64 1)],none,[]⟩,
⟨(some 0),.p .mv,[.t 15],none,[]⟩] false [])))) <|
 .seq (.region [
⟨(some 16),.p .mv,[.t 0],none,[]⟩,
⟨(some 4),.p .mv,[.t 16],none,[]⟩] false []) <|
 .ret, [.tmp 4]⟩
structure D505 (T : Tab) : Prop where
  fn : T.fn 505 = some ir505
  pr : T.prim 505 = none
/-- strings.trimRightByte -/
def ir506 : AFunc := ⟨.seq (.region [
⟨(some 4),.p .mv,[.c (.str [])],none,[]⟩] false []) <|
 .seq (.block 0 (.loop (.seq (.seq (.region [
⟨(some 5),.p .mv,[.t 0],none,[]⟩,
⟨(some 6),.p .lenS,[.t 5],none,[]⟩,
⟨(some 7),.p (.bin .gtr),[.t 6,.c (.int .i64 0)],none,[]⟩,
⟨(some 8),.p .mv,[.t 7],none,[]⟩,
⟨(some 9),.p .mv,[.t 0],(some (8,true)),[]⟩,
⟨(some 10),.p .mv,[.t 0],(some (8,true)),[]⟩,
⟨(some 11),.p .lenS,[.t 10],(some (8,true)),[]⟩,
⟨(some 12),.p (.bin .sub),[.t 11,.c (.int .i64 1)],(some (8,true)),[]⟩,
⟨(some 13),.p .idxS,[.t 9,.t 12],(some (8,true)),[]⟩,
⟨(some 14),.p .mv,[.t 1],(some (8,true)),[]⟩,
⟨(some 15),.p (.bin .eql),[.t 13,.t 14],(some (8,true)),[]⟩,
⟨(some 16),.p .pick,[.t 8,.t 15,.c (.bool false)],none,[]⟩] false []) <|
 .cond (.t 16) (.skip) (.exit 0)) <|
 .block 1 (.region [
⟨(some 17),.p .mv,[.t 0],none,[]⟩,
⟨(some 18),.p .mv,[.t 0],none,[]⟩,
⟨(some 19),.p .lenS,[.t 18],none,[]⟩,
⟨(some 20),.p (.bin .sub),[.t 19,.c (.int .i64 1)],none,[]⟩,
⟨(some 21),.p (.slS false true),[.t 17,.t 20],none,[]⟩,
⟨(some 0),.p .mv,[.t 21],none,[]⟩] false [])))) <|
 .seq (.region [
⟨(some 22),.p .mv,[.t 0],none,[]⟩,
⟨(some 4),.p .mv,[.t 22],none,[]⟩] false []) <|
 .ret, [.tmp 4]⟩
structure D506 (T : Tab) : Prop where
  fn : T.fn 506 = some ir506
  pr : T.prim 506 = none
/-- strings.makeASCIISet -/
def ir507 : AFunc := ⟨.seq (.region [
⟨(some 2),.w .box,[.c (.agg [(.bool false),(.bool false),(.bool false),(.bool false),(.bool false),(.bool false),(.bool false),(.bool false),(.bool false),(.bool false),(.bool false),(.bool false),(.bool false),(.bool false),(.bool false),(.bool false),(.bool false),(.bool false),(.bool false),(.bool false),(.bool false),(.bool false),(.bool false),(.bool false),(.bool false),(.bool false),(.bool false),(.bool false),(.bool false),(.bool false),(.bool false),(.bool false),(.bool false),(.bool false),(.bool false),(.bool false),(.bool false),(.bool false),(.bool false),(.bool false),(.bool false),(.bool false),(.bool false),(.bool false),(.bool false),(.bool false),(.bool false),(.bool false),(.bool false),(.bool false),(.bool false),(.bool false),(.bool false),(.bool false),(.bool false),(.bool false),(.bool false),(.bool false),(.bool false),(.bool false),(.bool false),(.bool false),(.bool false),(.bool false),(.bool false),(.bool false),(.bool false),(.bool false),(.bool false),(.bool false),(.bool false),(.bool false),(.bool false),(.bool false),(.bool false),(.bool false),(.bool false),(.bool false),(.bool false),(.bool false),(.bool false),(.bool false),(.bool false),(.bool false),(.bool false),(.bool false),(.bool false),(.bool false),(.bool false),(.bool false),(.bool false),(.bool false),(.bool false),(.bool false),(.bool false),(.bool false),(.bool false),(.bool false),(.bool false),(.bool false),(.bool false),(.bool false),(.bool false),(.bool false),(.bool false),(.bool false),(.bool false),(.bool false),(.bool false),(.bool false),(.bool false),(.bool false),(.bool false),(.bool false),(.bool false),(.bool false),(.bool false),(.bool false),(.bool false),(.bool false),(.bool false),(.bool false),(.bool false),(.bool false),(.bool false),(.bool false),(.bool false),(.bool false),(.bool false),(.bool false),(.bool false),(.bool false),(.bool false),(.bool false),(.bool false),(.bool false),(.bool false),(.bool false),(.bool false),(.bool false),(.bool false),(.bool false),(.bool false),(.bool false),(.bool false),(.bool false),(.bool false),(.bool false),(.bool false),(.bool false),(.bool false),(.bool false),(.bool false),(.bool false),(.bool false),(.bool false),(.bool false),(.bool false),(.bool false),(.bool false),(.bool false),(.bool false),(.bool false),(.bool false),(.bool false),(.bool false),(.bool false),(.bool false),(.bool false),(.bool false),(.bool false),(.bool false),(.bool false),(.bool false),(.bool false),(.bool false),(.bool false),(.bool false),(.bool false),(.bool false),(.bool false),(.bool false),(.bool false),(.bool false),(.bool false),(.bool false),(.bool false),(.bool false),(.bool false),(.bool false),(.bool false),(.bool false),(.bool false),(.bool false),(.bool false),(.bool false),(.bool false),(.bool false),(.bool false),(.bool false),(.bool false),(.bool false),(.bool false),(.bool false),(.bool false),(.bool false),(.bool false),(.bool false),(.bool false),(.bool false),(.bool false),(.bool false),(.bool false),(.bool false),(.bool false),(.bool false),(.bool false),(.bool false),(.bool false),(.bool false),(.bool false),(.bool false),(.bool false),(.bool false),(.bool false),(.bool false),(.bool false),(.bool false),(.bool false),(.bool false),(.bool false),(.bool false),(.bool false),(.bool false),(.bool false),(.bool false),(.bool false),(.bool false),(.bool false),(.bool false),(.bool false),(.bool false),(.bool false),(.bool false),(.bool false),(.bool false),(.bool false),(.bool false),(.bool false),(.bool false),(.bool false),(.bool false),(.bool false),(.bool false),(.bool false),(.bool false)])],none,[]⟩,
⟨(some 3),.p .mv,[.c (.bool false)],none,[]⟩] false []) <|
 .seq (.seq (.region [
⟨(some 4),.p .mv,[.c (.int .i64 0)],none,[]⟩] false []) <|
 .block 0 (.loop (.seq (.seq (.region [
⟨(some 6),.p .mv,[.t 4],none,[]⟩,
⟨(some 7),.p .mv,[.t 0],none,[]⟩,
⟨(some 8),.p .lenS,[.t 7],none,[]⟩,
⟨(some 9),.p (.bin .lss),[.t 6,.t 8],none,[]⟩] false []) <|
 .cond (.t 9) (.skip) (.exit 0)) <|
 .seq (.block 1 (.seq (.region [
⟨(some 12),.p .mv,[.t 0],none,[]⟩,
⟨(some 13),.p .mv,[.t 4],none,[]⟩,
⟨(some 14),.p .idxS,[.t 12,.t 13],none,[]⟩,
⟨(some 5),.p .mv,[.t 14],none,[]⟩] false []) <|
 .seq (.seq (.region [
⟨(some 15),.p .mv,[.t 5],none,[]⟩,
⟨(some 16),.p (.bin .geq),[.t 15,.c (.int .u8 128)],none,[]⟩] false []) <|
 .cond (.t 16) (.seq (.region [
⟨(some 17),.r (.ld 256 true),[.t 2],none,[]⟩,
⟨none,.w (.st 256),[.t 2,.t 17],none,[]⟩,
⟨(some 3),.p .mv,[.c (.bool false)],none,[]⟩] false []) <|
 .ret) (.skip)) <|
 .region [
⟨(some 18),.p .mv,[.t 5],none,[]⟩,
⟨(some 19),.p (.iap 256 1),[.t 2,.t 18],none,[]⟩,
⟨none,.w (.st 1),[.t 19,.c (.bool true)],none,[]⟩] false [])) <|
 .region [
⟨(some 10),.p .mv,[.t 4],none,[]⟩,
⟨(some 11),.p (.bin .add),[.t 10,.c (.int .i64 1)],none,[]⟩,
⟨(some 4),.p .mv,[.t 11],none,[]⟩] false []))) <|
 .seq (.region [
⟨(some 20),.r (.ld 256 true),[.t 2],none,[]⟩,
⟨none,.w (.st 256),[.t 2,.t 20],none,[]⟩,
⟨(some 3),.p .mv,[.c (.bool true)],none,[]⟩] false []) <|
 .ret, [.cell 2 256 true,.tmp 3]⟩
structure D507 (T : Tab) : Prop where
  fn : T.fn 507 = some ir507
  pr : T.prim 507 = none
/-- (*strings.asciiSet).contains -/
def ir512 : AFunc := ⟨.seq (.region [
⟨(some 4),.p .mv,[.c (.bool false)],none,[]⟩] false []) <|
 .seq (.region [
⟨(some 5),.p .mv,[.t 0],none,[]⟩,
⟨(some 6),.p .mv,[.t 1],none,[]⟩,
⟨(some 7),.p .nilC,[.t 5],none,[]⟩,
⟨(some 8),.p (.iap 256 1),[.t 7,.t 6],none,[]⟩,
⟨(some 9),.r (.ld 1 false),[.t 8],none,[]⟩,
⟨(some 4),.p .mv,[.t 9],none,[]⟩] false []) <|
 .ret, [.tmp 4]⟩
structure D512 (T : Tab) : Prop where
  fn : T.fn 512 = some ir512
  pr : T.prim 512 = none
/-- strings.trimLeftASCII -/
def ir508 : AFunc := ⟨.seq (.region [
⟨(some 4),.p .mv,[.c (.str [])],none,[]⟩] false []) <|
 .seq (.block 0 (.loop (.seq (.seq (.region [
⟨(some 5),.p .mv,[.t 0],none,[]⟩,
⟨(some 6),.p .lenS,[.t 5],none,[]⟩,
⟨(some 7),.p (.bin .gtr),[.t 6,.c (.int .i64 0)],none,[]⟩] false []) <|
 .cond (.t 7) (.skip) (.exit 0)) <|
 .block 1 (.seq (.seq (.region [
⟨(some 8),.p .mv,[.t 1],none,[]⟩,
⟨(some 9),.p .mv,[.t 0],none,[]⟩,
⟨(some 10),.p .idxS,[.t 9,.c (.int .i64 0)],none,[]⟩,
⟨(some 11),.w .call,[.c (.fn 512 [] []),.t 8,.t 10],none,[]⟩,
⟨(some 12),.p (.un .not),[.t 11],none,[]⟩] false []) <|
 .cond (.t 12) (.exit 0) (.skip)) <|
 .region [
⟨(some 13),.p .mv,[.t 0],none,[]⟩,
⟨(some 14),.p (.slS true false),[.t 13,.c (.int .i64 1)],none,[]⟩,
⟨(some 0),.p .mv,[.t 14],none,[]⟩] false [])))) <|
 .seq (.region [
⟨(some 15),.p .mv,[.t 0],none,[]⟩,
⟨(some 4),.p .mv,[.t 15],none,[]⟩] false []) <|
 .ret, [.tmp 4]⟩
structure D508 (T : Tab) : Prop where
  fn : T.fn 508 = some ir508
  pr : T.prim 508 = none
  d512 : D512 T
/-- strings.trimRightASCII -/
def ir509 : AFunc := ⟨.seq (.region [
⟨(some 4),.p .mv,[.c (.str [])],none,[]⟩] false []) <|
 .seq (.block 0 (.loop (.seq (.seq (.region [
⟨(some 5),.p .mv,[.t 0],none,[]⟩,
⟨(some 6),.p .lenS,[.t 5],none,[]⟩,
⟨(some 7),.p (.bin .gtr),[.t 6,.c (.int .i64 0)],none,[]⟩] false []) <|
 .cond (.t 7) (.skip) (.exit 0)) <|
 .block 1 (.seq (.seq (.region [
⟨(some 8),.p .mv,[.t 1],none,[]⟩,
⟨(some 9),.p .mv,[.t 0],none,[]⟩,
⟨(some 10),.p .mv,[.t 0],none,[]⟩,
⟨(some 11),.p .lenS,[.t 10],none,[]⟩,
⟨(some 12),.p (.bin .sub),[.t 11,.c (.int .i64 1)],none,[]⟩,
⟨(some 13),.p .idxS,[.t 9,.t 12],none,[]⟩,
⟨(some 14),.w .call,[.c (.fn 512 [] []),.t 8,.t 13],none,[]⟩,
⟨(some 15),.p (.un .not),[.t 14],none,[]⟩] false []) <|
 .cond (.t 15) (.exit 0) (.skip)) <|
 .region [
⟨(some 16),.p .mv,[.t 0],none,[]⟩,
⟨(some 17),.p .mv,[.t 0],none,[]⟩,
⟨(some 18),.p .lenS,[.t 17],none,[]⟩,
⟨(some 19),.p (.bin .sub),[.t 18,.c (.int .i64 1)],none,[]⟩,
⟨(some 20),.p (.slS false true),[.t 16,.t 19],none,[]⟩,
⟨(some 0),.p .mv,[.t 20],none,[]⟩] false [])))) <|
 .seq (.region [
⟨(some 21),.p .mv,[.t 0],none,[]⟩,
⟨(some 4),.p .mv,[.t 21],none,[]⟩] false []) <|
 .ret, [.tmp 4]⟩
structure D509 (T : Tab) : Prop where
  fn : T.fn 509 = some ir509
  pr : T.prim 509 = none
  d512 : D512 T
/-- unicode/utf8.RuneStart -/
def ir518 : AFunc := ⟨.seq (.region [
⟨(some 2),.p .mv,[.c (.bool false)],none,[]⟩] false []) <|
 .seq (.region [
⟨(some 3),.p .mv,[.t 0],none,[]⟩,
⟨(some 4),.p (.bin .and),[.t 3,.c (.int .u8 192)],none,[]⟩,
⟨(some 5),.p (.bin .neq),[.t 4,.c (.int .u8 128)],none,[]⟩,
⟨(some 2),.p .mv,[.t 5],none,[]⟩] false []) <|
 .ret, [.tmp 2]⟩
structure D518 (T : Tab) : Prop where
  fn : T.fn 518 = some ir518
  pr : T.prim 518 = none
/-- unicode/utf8.ValidRune -/
def ir520 : AFunc := ⟨.seq (.region [
⟨(some 2),.p .mv,[.c (.bool false)],none,[]⟩] false []) <|
 .seq (.block 0 (.seq (.region [
⟨(some 4),.p .mv,[.t 0],none,[]⟩,
⟨(some 5),.p (.bin .leq),[.c (.int .i32 0),.t 4],none,[]⟩,
⟨(some 6),.p .mv,[.t 5],none,[]⟩,
⟨(some 7),.p .mv,[.t 0],(some (6,true)),[]⟩,
⟨(some 8),.p (.bin .lss),[.t 7,.c (.int .i32 55296)],(some (6,true)),[]⟩,
⟨(some 9),.p .pick,[.t 6,.t 8,.c (.bool false)],none,[]⟩,
⟨(some 3),.p .mv,[.t 9],none,[]⟩] false []) <|
 .cond (.t 3) (.seq (.region [
⟨(some 2),.p .mv,[.c (.bool true)],none,[]⟩] false []) <|
 .ret) (.seq (.region [
⟨(some 11),.p .mv,[.t 0],none,[]⟩,
⟨(some 12),.p (.bin .lss),[.c (.int .i32 57343),.t 11],none,[]⟩,
⟨(some 13),.p .mv,[.t 12],none,[]⟩,
⟨(some 14),.p .mv,[.t 0],(some (13,true)),[]⟩,
⟨(some 15),.p (.bin .leq),[.t 14,.c (.int .i32 1114111)],(some (13,true)),[]⟩,
⟨(some 16),.p .pick,[.t 13,.t 15,.c (.bool false)],none,[]⟩,
⟨(some 10),.p .mv,[.t 16],none,[]⟩] false []) <|
 .cond (.t 10) (.seq (.region [
⟨(some 2),.p .mv,[.c (.bool true)],none,[]⟩] false []) <|
 .ret) (.skip)))) <|
 .seq (.region [
⟨(some 2),.p .mv,[.c (.bool false)],none,[]⟩] false []) <|
 .ret, [.tmp 2]⟩
structure D520 (T : Tab) : Prop where
  fn : T.fn 520 = some ir520
  pr : T.prim 520 = none
/-- internal/bytealg.Cutover -/
def ir521 : AFunc := ⟨.seq (.region [
⟨(some 2),.p .mv,[.c (.int .i64 0)],none,[]⟩] false []) <|
 .seq (.region [
⟨(some 3),.p .mv,[.t 0],none,[]⟩,
⟨(some 4),.p (.bin .add),[.t 3,.c (.int .i64 16)],none,[]⟩,
⟨(some 5),.p (.bin .quo),[.t 4,.c (.int .i64 8)],none,[]⟩,
⟨(some 2),.p .mv,[.t 5],none,[]⟩] false []) <|
 .ret, [.tmp 2]⟩
structure D521 (T : Tab) : Prop where
  fn : T.fn 521 = some ir521
  pr : T.prim 521 = none
/-- slices.Index[[]bool,bool] -/
def ir530 : AFunc := ⟨.seq (.region [
⟨(some 4),.p .mv,[.c (.int .i64 0)],none,[]⟩] false []) <|
 .seq (.seq (.region [
⟨(some 6),.p .mv,[.t 0],none,[]⟩,
⟨(some 7),.p .len,[.t 6],none,[]⟩,
⟨(some 8),.p .mv,[.c (.int .i64 0)],none,[]⟩] false []) <|
 .block 0 (.loop (.seq (.region [
⟨(some 9),.p (.bin .lss),[.t 8,.t 7],none,[]⟩] false []) <|
 .seq (.cond (.t 9) (.skip) (.exit 0)) <|
 .seq (.block 1 (.seq (.region [
⟨(some 10),.p .mv,[.t 8],none,[]⟩,
⟨(some 5),.p .mv,[.t 10],none,[]⟩] false []) <|
 .seq (.region [
⟨(some 11),.p .mv,[.t 1],none,[]⟩,
⟨(some 12),.p .mv,[.t 0],none,[]⟩,
⟨(some 13),.p .mv,[.t 5],none,[]⟩,
⟨(some 14),.p (.ia 1),[.t 12,.t 13],none,[]⟩,
⟨(some 15),.r (.ld 1 false),[.t 14],none,[]⟩,
⟨(some 16),.p (.eqB false),[.t 11,.t 15],none,[]⟩] false []) <|
 .cond (.t 16) (.seq (.region [
⟨(some 17),.p .mv,[.t 5],none,[]⟩,
⟨(some 4),.p .mv,[.t 17],none,[]⟩] false []) <|
 .ret) (.skip))) <|
 .region [
⟨(some 18),.p (.bin .add),[.t 8,.c (.int .i64 1)],none,[]⟩,
⟨(some 8),.p .mv,[.t 18],none,[]⟩] false []))) <|
 .seq (.region [
⟨(some 4),.p .mv,[.c (.int .i64 (-1))],none,[]⟩] false []) <|
 .ret, [.tmp 4]⟩
structure D530 (T : Tab) : Prop where
  fn : T.fn 530 = some ir530
  pr : T.prim 530 = none
end Go.Am
