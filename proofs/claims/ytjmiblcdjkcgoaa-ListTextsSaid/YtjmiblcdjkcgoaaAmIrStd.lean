/- Texts of functions for the small machine, printed by mkfile.py out of the compiled functions, and for each what a table has to hold. -/
import Derived.Test.YtjmiblcdjkcgoaaAmPrimD
set_option linter.unusedVariables false
namespace Go.Am
/-- slices.IndexFunc[[]int,int] -/
def ir174 : AFunc := ⟨.seq (.region [
  ⟨(some 4),.p .mv,[.c (.int .i64 0)],none,[]⟩] false []) <|
 .seq (.seq (.region [
  ⟨(some 6),.p .mv,[.t 0],none,[]⟩,
  ⟨(some 7),.p .len,[.t 6],none,[]⟩,
  ⟨(some 8),.p .mv,[.c (.int .i64 0)],none,[]⟩] false []) <|
 .block 0 (.loop (.seq (.region [
  ⟨(some 9),.p (.bin .lss),[.t 8,.t 7],none,[]⟩] false []) <|
 .seq (.cond (.t 9) (.skip) (.exit 0)) <|
 .seq (.block 1 (.seq (.region [
  ⟨(some 10),.p .mv,[.t 8],none,[]⟩,
  ⟨(some 5),.p .mv,[.t 10],none,[]⟩] false []) <|
 .seq (.region [
  ⟨(some 11),.p .mv,[.t 1],none,[]⟩,
  ⟨(some 12),.p .mv,[.t 0],none,[]⟩,
  ⟨(some 13),.p .mv,[.t 5],none,[]⟩,
  ⟨(some 14),.p (.ia 1),[.t 12,.t 13],none,[]⟩,
  ⟨(some 15),.r (.ld 1 false),[.t 14],none,[]⟩,
  ⟨(some 16),.w .call,[.t 11,.t 15],none,[]⟩] false []) <|
 .cond (.t 16) (.seq (.region [
  ⟨(some 17),.p .mv,[.t 5],none,[]⟩,
  ⟨(some 4),.p .mv,[.t 17],none,[]⟩] false []) <|
 .ret) (.skip))) <|
 .region [
  ⟨(some 18),.p (.bin .add),[.t 8,.c (.int .i64 1)],none,[]⟩,
  ⟨(some 8),.p .mv,[.t 18],none,[]⟩] false []))) <|
 .seq (.region [
  ⟨(some 4),.p .mv,[.c (.int .i64 (-1))],none,[]⟩] false []) <|
 .ret, [.tmp 4]⟩
structure D174 (T : Tab) : Prop where
  fn : T.fn 174 = some ir174
  pr : T.prim 174 = none
/-- slices.ContainsFunc[[]int,int] -/
def ir151 : AFunc := ⟨.seq (.region [
  ⟨(some 4),.p .mv,[.c (.bool false)],none,[]⟩] false []) <|
 .seq (.region [
  ⟨(some 5),.p .mv,[.t 0],none,[]⟩,
  ⟨(some 6),.p .mv,[.t 1],none,[]⟩,
  ⟨(some 7),.w .call,[.c (.fn 174 [] []),.t 5,.t 6],none,[]⟩,
  ⟨(some 8),.p (.bin .geq),[.t 7,.c (.int .i64 0)],none,[]⟩,
  ⟨(some 4),.p .mv,[.t 8],none,[]⟩] false []) <|
 .ret, [.tmp 4]⟩
structure D151 (T : Tab) : Prop where
  fn : T.fn 151 = some ir151
  pr : T.prim 151 = none
  d174 : D174 T
/-- slices.Clone[[]string,string] -/
def ir153 : AFunc := ⟨.seq (.region [
  ⟨(some 2),.p .mv,[.c (.slc none 0 0 none)],none,[]⟩] false []) <|
 .seq (.seq (.region [
  ⟨(some 3),.p .mv,[.t 0],none,[]⟩,
  ⟨(some 4),.p (.isNil .slc false),[.t 3],none,[]⟩] false []) <|
 .cond (.t 4) (.seq (.region [
  ⟨(some 2),.p .mv,[.c (.slc none 0 0 none)],none,[]⟩] false []) <|
 .ret) (.skip)) <|
 .seq (.region [
  ⟨(some 5),.w (.bsl 1 0 [] []),[],none,[]⟩,
  ⟨(some 6),.p .mv,[.t 0],none,[]⟩,
  ⟨(some 7),.w (.app 1 16),[.t 5,.t 6],none,[]⟩,
  ⟨(some 2),.p .mv,[.t 7],none,[]⟩] false []) <|
 .ret, [.tmp 2]⟩
structure D153 (T : Tab) : Prop where
  fn : T.fn 153 = some ir153
  pr : T.prim 153 = none
/-- slices.Grow[[]string,string] -/
def ir175 : AFunc := ⟨.seq (.region [
  ⟨(some 4),.p .mv,[.c (.slc none 0 0 none)],none,[]⟩] false []) <|
 .seq (.seq (.region [
  ⟨(some 5),.p .mv,[.t 1],none,[]⟩,
  ⟨(some 6),.p (.bin .lss),[.t 5,.c (.int .i64 0)],none,[]⟩] false []) <|
 .cond (.t 6) (.region [
  ⟨(some 7),.p .fail,[.c (.str [99,97,110,110,111,116,32,98,101,32,110,101,103,97,116,105,118,101])],none,[]⟩,
  ⟨none,.p .fail,[.t 7],none,[]⟩] false []) (.skip)) <|
 .seq (.seq (.region [
  ⟨(some 8),.p .mv,[.t 1],none,[]⟩,
  ⟨(some 9),.p .mv,[.t 0],none,[]⟩,
  ⟨(some 10),.p .cap,[.t 9],none,[]⟩,
  ⟨(some 11),.p .mv,[.t 0],none,[]⟩,
  ⟨(some 12),.p .len,[.t 11],none,[]⟩,
  ⟨(some 13),.p (.bin .sub),[.t 10,.t 12],none,[]⟩,
  ⟨(some 14),.p (.bin .sub),[.t 8,.t 13],none,[]⟩,
  ⟨(some 1),.p .mv,[.t 14],none,[]⟩] false []) <|
 .seq (.region [
  ⟨(some 15),.p .mv,[.t 1],none,[]⟩,
  ⟨(some 16),.p (.bin .gtr),[.t 15,.c (.int .i64 0)],none,[]⟩] false []) <|
 .cond (.t 16) (.region [
  ⟨(some 17),.p .mv,[.t 0],none,[]⟩,
  ⟨(some 18),.p .mv,[.t 0],none,[]⟩,
  ⟨(some 19),.p .cap,[.t 18],none,[]⟩,
  ⟨(some 20),.p (.sl 1 false true false),[.t 17,.t 19],none,[]⟩,
  ⟨(some 21),.p .mv,[.t 1],none,[]⟩,
  ⟨(some 22),.w (.grow 1 16 [(.str [])]),[.t 20,.t 21],none,[]⟩,
  ⟨(some 23),.p .mv,[.t 0],none,[]⟩,
  ⟨(some 24),.p .len,[.t 23],none,[]⟩,
  ⟨(some 25),.p (.sl 1 false true false),[.t 22,.t 24],none,[]⟩,
  ⟨(some 0),.p .mv,[.t 25],none,[]⟩] false []) (.skip)) <|
 .seq (.region [
  ⟨(some 26),.p .mv,[.t 0],none,[]⟩,
  ⟨(some 4),.p .mv,[.t 26],none,[]⟩] false []) <|
 .ret, [.tmp 4]⟩
structure D175 (T : Tab) : Prop where
  fn : T.fn 175 = some ir175
  pr : T.prim 175 = none
/-- slices.Concat[[]string,string] -/
def ir154 : AFunc := ⟨.seq (.region [
  ⟨(some 2),.p .mv,[.c (.slc none 0 0 none)],none,[]⟩] false []) <|
 .seq (.region [
  ⟨(some 3),.p .mv,[.c (.int .i64 0)],none,[]⟩] false []) <|
 .seq (.seq (.region [
  ⟨(some 9),.p .mv,[.t 0],none,[]⟩,
  ⟨(some 10),.p .len,[.t 9],none,[]⟩,
  ⟨(some 11),.p .mv,[.c (.int .i64 0)],none,[]⟩] false []) <|
 .block 0 (.loop (.seq (.region [
  ⟨(some 12),.p (.bin .lss),[.t 11,.t 10],none,[]⟩] false []) <|
 .seq (.cond (.t 12) (.skip) (.exit 0)) <|
 .seq (.block 1 (.seq (.region [
  ⟨(some 13),.p (.ia 1),[.t 9,.t 11],none,[]⟩,
  ⟨(some 14),.r (.ld 1 false),[.t 13],none,[]⟩,
  ⟨(some 5),.p .mv,[.t 14],none,[]⟩] false []) <|
 .seq (.region [
  ⟨(some 15),.p .mv,[.t 3],none,[]⟩,
  ⟨(some 16),.p .mv,[.t 5],none,[]⟩,
  ⟨(some 17),.p .len,[.t 16],none,[]⟩,
  ⟨(some 18),.p (.bin .add),[.t 15,.t 17],none,[]⟩,
  ⟨(some 3),.p .mv,[.t 18],none,[]⟩] false []) <|
 .seq (.region [
  ⟨(some 19),.p .mv,[.t 3],none,[]⟩,
  ⟨(some 20),.p (.bin .lss),[.t 19,.c (.int .i64 0)],none,[]⟩] false []) <|
 .cond (.t 20) (.region [
  ⟨(some 21),.p .fail,[.c (.str [108,101,110,32,111,117,116,32,111,102,32,114,97,110,103,101])],none,[]⟩,
  ⟨none,.p .fail,[.t 21],none,[]⟩] false []) (.skip))) <|
 .region [
  ⟨(some 22),.p (.bin .add),[.t 11,.c (.int .i64 1)],none,[]⟩,
  ⟨(some 11),.p .mv,[.t 22],none,[]⟩] false []))) <|
 .seq (.region [
  ⟨(some 23),.p .mv,[.t 3],none,[]⟩,
  ⟨(some 24),.w .call,[.c (.fn 175 [] []),.c (.slc none 0 0 none),.t 23],none,[]⟩,
  ⟨(some 6),.p .mv,[.t 24],none,[]⟩] false []) <|
 .seq (.seq (.region [
  ⟨(some 25),.p .mv,[.t 0],none,[]⟩,
  ⟨(some 26),.p .len,[.t 25],none,[]⟩,
  ⟨(some 27),.p .mv,[.c (.int .i64 0)],none,[]⟩] false []) <|
 .block 2 (.loop (.seq (.region [
  ⟨(some 28),.p (.bin .lss),[.t 27,.t 26],none,[]⟩] false []) <|
 .seq (.cond (.t 28) (.skip) (.exit 2)) <|
 .seq (.block 3 (.seq (.region [
  ⟨(some 29),.p (.ia 1),[.t 25,.t 27],none,[]⟩,
  ⟨(some 30),.r (.ld 1 false),[.t 29],none,[]⟩,
  ⟨(some 8),.p .mv,[.t 30],none,[]⟩] false []) <|
 .region [
  ⟨(some 31),.p .mv,[.t 6],none,[]⟩,
  ⟨(some 32),.p .mv,[.t 8],none,[]⟩,
  ⟨(some 33),.w (.app 1 16),[.t 31,.t 32],none,[]⟩,
  ⟨(some 6),.p .mv,[.t 33],none,[]⟩] false [])) <|
 .region [
  ⟨(some 34),.p (.bin .add),[.t 27,.c (.int .i64 1)],none,[]⟩,
  ⟨(some 27),.p .mv,[.t 34],none,[]⟩] false []))) <|
 .seq (.region [
  ⟨(some 35),.p .mv,[.t 6],none,[]⟩,
  ⟨(some 2),.p .mv,[.t 35],none,[]⟩] false []) <|
 .ret, [.tmp 2]⟩
structure D154 (T : Tab) : Prop where
  fn : T.fn 154 = some ir154
  pr : T.prim 154 = none
  d175 : D175 T
/-- internal/bytealg.CompareString -/
def ir177 : AFunc := ⟨.seq (.region [
  ⟨(some 4),.p .mv,[.c (.int .i64 0)],none,[]⟩] false []) <|
 .seq (.region [
  ⟨(some 5),.p .mv,[.t 0],none,[]⟩,
  ⟨(some 6),.p .mv,[.t 1],none,[]⟩,
  ⟨(some 7),.w .call,[.c (.fn 191 [] []),.t 5,.t 6],none,[]⟩,
  ⟨(some 4),.p .mv,[.t 7],none,[]⟩] false []) <|
 .ret, [.tmp 4]⟩
structure D177 (T : Tab) : Prop where
  fn : T.fn 177 = some ir177
  pr : T.prim 177 = none
  p191 : T.prim 191 = some cmpPrim
/-- strings.Compare -/
def ir158 : AFunc := ⟨.seq (.region [
  ⟨(some 4),.p .mv,[.c (.int .i64 0)],none,[]⟩] false []) <|
 .seq (.region [
  ⟨(some 5),.p .mv,[.t 0],none,[]⟩,
  ⟨(some 6),.p .mv,[.t 1],none,[]⟩,
  ⟨(some 7),.w .call,[.c (.fn 177 [] []),.t 5,.t 6],none,[]⟩,
  ⟨(some 4),.p .mv,[.t 7],none,[]⟩] false []) <|
 .ret, [.tmp 4]⟩
structure D158 (T : Tab) : Prop where
  fn : T.fn 158 = some ir158
  pr : T.prim 158 = none
  d177 : D177 T
/-- slices.Clone[[]int,int] -/
def ir173 : AFunc := ⟨.seq (.region [
  ⟨(some 2),.p .mv,[.c (.slc none 0 0 none)],none,[]⟩] false []) <|
 .seq (.seq (.region [
  ⟨(some 3),.p .mv,[.t 0],none,[]⟩,
  ⟨(some 4),.p (.isNil .slc false),[.t 3],none,[]⟩] false []) <|
 .cond (.t 4) (.seq (.region [
  ⟨(some 2),.p .mv,[.c (.slc none 0 0 none)],none,[]⟩] false []) <|
 .ret) (.skip)) <|
 .seq (.region [
  ⟨(some 5),.w (.bsl 1 0 [] []),[],none,[]⟩,
  ⟨(some 6),.p .mv,[.t 0],none,[]⟩,
  ⟨(some 7),.w (.app 1 8),[.t 5,.t 6],none,[]⟩,
  ⟨(some 2),.p .mv,[.t 7],none,[]⟩] false []) <|
 .ret, [.tmp 2]⟩
structure D173 (T : Tab) : Prop where
  fn : T.fn 173 = some ir173
  pr : T.prim 173 = none
/-- cmp.isNaN[int] -/
def ir192 : AFunc := ⟨.seq (.region [
  ⟨(some 2),.p .mv,[.c (.bool false)],none,[]⟩] false []) <|
 .seq (.region [
  ⟨(some 3),.p .mv,[.t 0],none,[]⟩,
  ⟨(some 4),.p .mv,[.t 0],none,[]⟩,
  ⟨(some 5),.p (.bin .neq),[.t 3,.t 4],none,[]⟩,
  ⟨(some 2),.p .mv,[.t 5],none,[]⟩] false []) <|
 .ret, [.tmp 2]⟩
structure D192 (T : Tab) : Prop where
  fn : T.fn 192 = some ir192
  pr : T.prim 192 = none
/-- cmp.Compare[int] -/
def ir178 : AFunc := ⟨.seq (.region [
  ⟨(some 4),.p .mv,[.c (.int .i64 0)],none,[]⟩] false []) <|
 .seq (.region [
  ⟨(some 7),.p .mv,[.t 0],none,[]⟩,
  ⟨(some 8),.w .call,[.c (.fn 192 [] []),.t 7],none,[]⟩,
  ⟨(some 5),.p .mv,[.t 8],none,[]⟩] false []) <|
 .seq (.region [
  ⟨(some 9),.p .mv,[.t 1],none,[]⟩,
  ⟨(some 10),.w .call,[.c (.fn 192 [] []),.t 9],none,[]⟩,
  ⟨(some 6),.p .mv,[.t 10],none,[]⟩] false []) <|
 .seq (.seq (.region [
  ⟨(some 11),.p .mv,[.t 5],none,[]⟩] false []) <|
 .cond (.t 11) (.seq (.seq (.region [
  ⟨(some 12),.p .mv,[.t 6],none,[]⟩] false []) <|
 .cond (.t 12) (.seq (.region [
  ⟨(some 4),.p .mv,[.c (.int .i64 0)],none,[]⟩] false []) <|
 .ret) (.skip)) <|
 .seq (.region [
  ⟨(some 4),.p .mv,[.c (.int .i64 (-1))],none,[]⟩] false []) <|
 .ret) (.skip)) <|
 .seq (.seq (.region [
  ⟨(some 13),.p .mv,[.t 6],none,[]⟩] false []) <|
 .cond (.t 13) (.seq (.region [
  ⟨(some 4),.p .mv,[.c (.int .i64 1)],none,[]⟩] false []) <|
 .ret) (.skip)) <|
 .seq (.seq (.region [
  ⟨(some 14),.p .mv,[.t 0],none,[]⟩,
  ⟨(some 15),.p .mv,[.t 1],none,[]⟩,
  ⟨(some 16),.p (.bin .lss),[.t 14,.t 15],none,[]⟩] false []) <|
 .cond (.t 16) (.seq (.region [
  ⟨(some 4),.p .mv,[.c (.int .i64 (-1))],none,[]⟩] false []) <|
 .ret) (.skip)) <|
 .seq (.seq (.region [
  ⟨(some 17),.p .mv,[.t 0],none,[]⟩,
  ⟨(some 18),.p .mv,[.t 1],none,[]⟩,
  ⟨(some 19),.p (.bin .gtr),[.t 17,.t 18],none,[]⟩] false []) <|
 .cond (.t 19) (.seq (.region [
  ⟨(some 4),.p .mv,[.c (.int .i64 1)],none,[]⟩] false []) <|
 .ret) (.skip)) <|
 .seq (.region [
  ⟨(some 4),.p .mv,[.c (.int .i64 0)],none,[]⟩] false []) <|
 .ret, [.tmp 4]⟩
structure D178 (T : Tab) : Prop where
  fn : T.fn 178 = some ir178
  pr : T.prim 178 = none
  d192 : D192 T
/-- slices.Index[[]string,string] -/
def ir193 : AFunc := ⟨.seq (.region [
  ⟨(some 4),.p .mv,[.c (.int .i64 0)],none,[]⟩] false []) <|
 .seq (.seq (.region [
  ⟨(some 6),.p .mv,[.t 0],none,[]⟩,
  ⟨(some 7),.p .len,[.t 6],none,[]⟩,
  ⟨(some 8),.p .mv,[.c (.int .i64 0)],none,[]⟩] false []) <|
 .block 0 (.loop (.seq (.region [
  ⟨(some 9),.p (.bin .lss),[.t 8,.t 7],none,[]⟩] false []) <|
 .seq (.cond (.t 9) (.skip) (.exit 0)) <|
 .seq (.block 1 (.seq (.region [
  ⟨(some 10),.p .mv,[.t 8],none,[]⟩,
  ⟨(some 5),.p .mv,[.t 10],none,[]⟩] false []) <|
 .seq (.region [
  ⟨(some 11),.p .mv,[.t 1],none,[]⟩,
  ⟨(some 12),.p .mv,[.t 0],none,[]⟩,
  ⟨(some 13),.p .mv,[.t 5],none,[]⟩,
  ⟨(some 14),.p (.ia 1),[.t 12,.t 13],none,[]⟩,
  ⟨(some 15),.r (.ld 1 false),[.t 14],none,[]⟩,
  ⟨(some 16),.p (.bin .eql),[.t 11,.t 15],none,[]⟩] false []) <|
 .cond (.t 16) (.seq (.region [
  ⟨(some 17),.p .mv,[.t 5],none,[]⟩,
  ⟨(some 4),.p .mv,[.t 17],none,[]⟩] false []) <|
 .ret) (.skip))) <|
 .region [
  ⟨(some 18),.p (.bin .add),[.t 8,.c (.int .i64 1)],none,[]⟩,
  ⟨(some 8),.p .mv,[.t 18],none,[]⟩] false []))) <|
 .seq (.region [
  ⟨(some 4),.p .mv,[.c (.int .i64 (-1))],none,[]⟩] false []) <|
 .ret, [.tmp 4]⟩
structure D193 (T : Tab) : Prop where
  fn : T.fn 193 = some ir193
  pr : T.prim 193 = none
/-- slices.Contains[[]string,string] -/
def ir179 : AFunc := ⟨.seq (.region [
  ⟨(some 4),.p .mv,[.c (.bool false)],none,[]⟩] false []) <|
 .seq (.region [
  ⟨(some 5),.p .mv,[.t 0],none,[]⟩,
  ⟨(some 6),.p .mv,[.t 1],none,[]⟩,
  ⟨(some 7),.w .call,[.c (.fn 193 [] []),.t 5,.t 6],none,[]⟩,
  ⟨(some 8),.p (.bin .geq),[.t 7,.c (.int .i64 0)],none,[]⟩,
  ⟨(some 4),.p .mv,[.t 8],none,[]⟩] false []) <|
 .ret, [.tmp 4]⟩
structure D179 (T : Tab) : Prop where
  fn : T.fn 179 = some ir179
  pr : T.prim 179 = none
  d193 : D193 T
/-- slices.Clone[[]motley/list.pair,motley/list.pair] -/
def ir190 : AFunc := ⟨.seq (.region [
  ⟨(some 2),.p .mv,[.c (.slc none 0 0 none)],none,[]⟩] false []) <|
 .seq (.seq (.region [
  ⟨(some 3),.p .mv,[.t 0],none,[]⟩,
  ⟨(some 4),.p (.isNil .slc false),[.t 3],none,[]⟩] false []) <|
 .cond (.t 4) (.seq (.region [
  ⟨(some 2),.p .mv,[.c (.slc none 0 0 none)],none,[]⟩] false []) <|
 .ret) (.skip)) <|
 .seq (.region [
  ⟨(some 5),.w (.bsl 5 0 [] []),[],none,[]⟩,
  ⟨(some 6),.p .mv,[.t 0],none,[]⟩,
  ⟨(some 7),.w (.app 5 48),[.t 5,.t 6],none,[]⟩,
  ⟨(some 2),.p .mv,[.t 7],none,[]⟩] false []) <|
 .ret, [.tmp 2]⟩
structure D190 (T : Tab) : Prop where
  fn : T.fn 190 = some ir190
  pr : T.prim 190 = none
/-- (*strings.Builder).Len -/
def ir260 : AFunc := ⟨.seq (.region [
  ⟨(some 2),.p .mv,[.c (.int .i64 0)],none,[]⟩] false []) <|
 .seq (.region [
  ⟨(some 3),.p .mv,[.t 0],none,[]⟩,
  ⟨(some 4),.p .nilC,[.t 3],none,[]⟩,
  ⟨(some 5),.p (.fa 1),[.t 4],none,[]⟩,
  ⟨(some 6),.r (.ld 1 false),[.t 5],none,[]⟩,
  ⟨(some 7),.p .len,[.t 6],none,[]⟩,
  ⟨(some 2),.p .mv,[.t 7],none,[]⟩] false []) <|
 .ret, [.tmp 2]⟩
structure D260 (T : Tab) : Prop where
  fn : T.fn 260 = some ir260
  pr : T.prim 260 = none
/-- slices.Clone[[]motley/heap.field,motley/heap.field] -/
def ir362 : AFunc := ⟨.seq (.region [
  ⟨(some 2),.p .mv,[.c (.slc none 0 0 none)],none,[]⟩] false []) <|
 .seq (.seq (.region [
  ⟨(some 3),.p .mv,[.t 0],none,[]⟩,
  ⟨(some 4),.p (.isNil .slc false),[.t 3],none,[]⟩] false []) <|
 .cond (.t 4) (.seq (.region [
  ⟨(some 2),.p .mv,[.c (.slc none 0 0 none)],none,[]⟩] false []) <|
 .ret) (.skip)) <|
 .seq (.region [
  ⟨(some 5),.w (.bsl 3 0 [] []),[],none,[]⟩,
  ⟨(some 6),.p .mv,[.t 0],none,[]⟩,
  ⟨(some 7),.w (.app 3 16),[.t 5,.t 6],none,[]⟩,
  ⟨(some 2),.p .mv,[.t 7],none,[]⟩] false []) <|
 .ret, [.tmp 2]⟩
structure D362 (T : Tab) : Prop where
  fn : T.fn 362 = some ir362
  pr : T.prim 362 = none
/-- slices.EqualFunc[[]motley/heap.cell,[]motley/heap.cell,motley/heap.cell,motley/heap.cell] -/
def ir363 : AFunc := ⟨.seq (.region [
  ⟨(some 6),.p .mv,[.c (.bool false)],none,[]⟩] false []) <|
 .seq (.seq (.region [
  ⟨(some 10),.p .mv,[.t 0],none,[]⟩,
  ⟨(some 11),.p .len,[.t 10],none,[]⟩,
  ⟨(some 12),.p .mv,[.t 1],none,[]⟩,
  ⟨(some 13),.p .len,[.t 12],none,[]⟩,
  ⟨(some 14),.p (.bin .neq),[.t 11,.t 13],none,[]⟩] false []) <|
 .cond (.t 14) (.seq (.region [
  ⟨(some 6),.p .mv,[.c (.bool false)],none,[]⟩] false []) <|
 .ret) (.skip)) <|
 .seq (.seq (.region [
  ⟨(some 15),.p .mv,[.t 0],none,[]⟩,
  ⟨(some 16),.p .len,[.t 15],none,[]⟩,
  ⟨(some 17),.p .mv,[.c (.int .i64 0)],none,[]⟩] false []) <|
 .block 0 (.loop (.seq (.region [
  ⟨(some 18),.p (.bin .lss),[.t 17,.t 16],none,[]⟩] false []) <|
 .seq (.cond (.t 18) (.skip) (.exit 0)) <|
 .seq (.block 1 (.seq (.region [
  ⟨(some 19),.p .mv,[.t 17],none,[]⟩,
  ⟨(some 20),.p (.ia 5),[.t 15,.t 17],none,[]⟩,
  ⟨(some 21),.r (.ld 5 true),[.t 20],none,[]⟩,
  ⟨(some 8),.w .box,[.c (.agg [(.slc none 0 0 none),(.bool false),(.bool false),(.bool false),(.int .i64 0)])],none,[]⟩,
  ⟨(some 7),.p .mv,[.t 19],none,[]⟩,
  ⟨none,.w (.st 5),[.t 8,.t 21],none,[]⟩] false []) <|
 .seq (.region [
  ⟨(some 22),.p .mv,[.t 1],none,[]⟩,
  ⟨(some 23),.p .mv,[.t 7],none,[]⟩,
  ⟨(some 24),.p (.ia 5),[.t 22,.t 23],none,[]⟩,
  ⟨(some 25),.r (.ld 5 true),[.t 24],none,[]⟩,
  ⟨(some 9),.w .box,[.c (.agg [(.slc none 0 0 none),(.bool false),(.bool false),(.bool false),(.int .i64 0)])],none,[]⟩,
  ⟨none,.w (.st 5),[.t 9,.t 25],none,[]⟩] false []) <|
 .seq (.region [
  ⟨(some 26),.p .mv,[.t 2],none,[]⟩,
  ⟨(some 27),.r (.ld 5 true),[.t 8],none,[]⟩,
  ⟨(some 28),.r (.ld 5 true),[.t 9],none,[]⟩,
  ⟨(some 29),.w .call,[.t 26,.t 27,.t 28],none,[]⟩,
  ⟨(some 30),.p (.un .not),[.t 29],none,[]⟩] false []) <|
 .cond (.t 30) (.seq (.region [
  ⟨(some 6),.p .mv,[.c (.bool false)],none,[]⟩] false []) <|
 .ret) (.skip))) <|
 .region [
  ⟨(some 31),.p (.bin .add),[.t 17,.c (.int .i64 1)],none,[]⟩,
  ⟨(some 17),.p .mv,[.t 31],none,[]⟩] false []))) <|
 .seq (.region [
  ⟨(some 6),.p .mv,[.c (.bool true)],none,[]⟩] false []) <|
 .ret, [.tmp 6]⟩
structure D363 (T : Tab) : Prop where
  fn : T.fn 363 = some ir363
  pr : T.prim 363 = none
/-- slices.Equal[[]int,int] -/
def ir365 : AFunc := ⟨.seq (.region [
  ⟨(some 4),.p .mv,[.c (.bool false)],none,[]⟩] false []) <|
 .seq (.seq (.region [
  ⟨(some 6),.p .mv,[.t 0],none,[]⟩,
  ⟨(some 7),.p .len,[.t 6],none,[]⟩,
  ⟨(some 8),.p .mv,[.t 1],none,[]⟩,
  ⟨(some 9),.p .len,[.t 8],none,[]⟩,
  ⟨(some 10),.p (.bin .neq),[.t 7,.t 9],none,[]⟩] false []) <|
 .cond (.t 10) (.seq (.region [
  ⟨(some 4),.p .mv,[.c (.bool false)],none,[]⟩] false []) <|
 .ret) (.skip)) <|
 .seq (.seq (.region [
  ⟨(some 11),.p .mv,[.t 0],none,[]⟩,
  ⟨(some 12),.p .len,[.t 11],none,[]⟩,
  ⟨(some 13),.p .mv,[.c (.int .i64 0)],none,[]⟩] false []) <|
 .block 0 (.loop (.seq (.region [
  ⟨(some 14),.p (.bin .lss),[.t 13,.t 12],none,[]⟩] false []) <|
 .seq (.cond (.t 14) (.skip) (.exit 0)) <|
 .seq (.block 1 (.seq (.region [
  ⟨(some 15),.p .mv,[.t 13],none,[]⟩,
  ⟨(some 5),.p .mv,[.t 15],none,[]⟩] false []) <|
 .seq (.region [
  ⟨(some 16),.p .mv,[.t 0],none,[]⟩,
  ⟨(some 17),.p .mv,[.t 5],none,[]⟩,
  ⟨(some 18),.p (.ia 1),[.t 16,.t 17],none,[]⟩,
  ⟨(some 19),.r (.ld 1 false),[.t 18],none,[]⟩,
  ⟨(some 20),.p .mv,[.t 1],none,[]⟩,
  ⟨(some 21),.p .mv,[.t 5],none,[]⟩,
  ⟨(some 22),.p (.ia 1),[.t 20,.t 21],none,[]⟩,
  ⟨(some 23),.r (.ld 1 false),[.t 22],none,[]⟩,
  ⟨(some 24),.p (.bin .neq),[.t 19,.t 23],none,[]⟩] true []) <|
 .cond (.t 24) (.seq (.region [
  ⟨(some 4),.p .mv,[.c (.bool false)],none,[]⟩] false []) <|
 .ret) (.skip))) <|
 .region [
  ⟨(some 25),.p (.bin .add),[.t 13,.c (.int .i64 1)],none,[]⟩,
  ⟨(some 13),.p .mv,[.t 25],none,[]⟩] false []))) <|
 .seq (.region [
  ⟨(some 4),.p .mv,[.c (.bool true)],none,[]⟩] false []) <|
 .ret, [.tmp 4]⟩
structure D365 (T : Tab) : Prop where
  fn : T.fn 365 = some ir365
  pr : T.prim 365 = none
/-- slices.Equal[[]motley/heap.field,motley/heap.field] -/
def ir384 : AFunc := ⟨.seq (.region [
  ⟨(some 4),.p .mv,[.c (.bool false)],none,[]⟩] false []) <|
 .seq (.seq (.region [
  ⟨(some 6),.p .mv,[.t 0],none,[]⟩,
  ⟨(some 7),.p .len,[.t 6],none,[]⟩,
  ⟨(some 8),.p .mv,[.t 1],none,[]⟩,
  ⟨(some 9),.p .len,[.t 8],none,[]⟩,
  ⟨(some 10),.p (.bin .neq),[.t 7,.t 9],none,[]⟩] false []) <|
 .cond (.t 10) (.seq (.region [
  ⟨(some 4),.p .mv,[.c (.bool false)],none,[]⟩] false []) <|
 .ret) (.skip)) <|
 .seq (.seq (.region [
  ⟨(some 11),.p .mv,[.t 0],none,[]⟩,
  ⟨(some 12),.p .len,[.t 11],none,[]⟩,
  ⟨(some 13),.p .mv,[.c (.int .i64 0)],none,[]⟩] false []) <|
 .block 0 (.loop (.seq (.region [
  ⟨(some 14),.p (.bin .lss),[.t 13,.t 12],none,[]⟩] false []) <|
 .seq (.cond (.t 14) (.skip) (.exit 0)) <|
 .seq (.block 1 (.seq (.region [
  ⟨(some 15),.p .mv,[.t 13],none,[]⟩,
  ⟨(some 5),.p .mv,[.t 15],none,[]⟩] false []) <|
 .seq (.region [
  ⟨(some 16),.p .mv,[.t 0],none,[]⟩,
  ⟨(some 17),.p .mv,[.t 5],none,[]⟩,
  ⟨(some 18),.p (.ia 3),[.t 16,.t 17],none,[]⟩,
  ⟨(some 19),.r (.ld 3 true),[.t 18],none,[]⟩,
  ⟨(some 20),.p .mv,[.t 1],none,[]⟩,
  ⟨(some 21),.p .mv,[.t 5],none,[]⟩,
  ⟨(some 22),.p (.ia 3),[.t 20,.t 21],none,[]⟩,
  ⟨(some 23),.r (.ld 3 true),[.t 22],none,[]⟩,
  ⟨(some 24),.p (.eqCells true [.bool,.bool,.int]),[.t 19,.t 23],none,[]⟩] true []) <|
 .cond (.t 24) (.seq (.region [
  ⟨(some 4),.p .mv,[.c (.bool false)],none,[]⟩] false []) <|
 .ret) (.skip))) <|
 .region [
  ⟨(some 25),.p (.bin .add),[.t 13,.c (.int .i64 1)],none,[]⟩,
  ⟨(some 13),.p .mv,[.t 25],none,[]⟩] false []))) <|
 .seq (.region [
  ⟨(some 4),.p .mv,[.c (.bool true)],none,[]⟩] false []) <|
 .ret, [.tmp 4]⟩
structure D384 (T : Tab) : Prop where
  fn : T.fn 384 = some ir384
  pr : T.prim 384 = none
/-- slices.Clip[motley/big.nat,int] -/
def ir457 : AFunc := ⟨.seq (.region [
  ⟨(some 2),.p .mv,[.c (.slc none 0 0 none)],none,[]⟩] false []) <|
 .seq (.region [
  ⟨(some 3),.p .mv,[.t 0],none,[]⟩,
  ⟨(some 4),.p .mv,[.t 0],none,[]⟩,
  ⟨(some 5),.p .len,[.t 4],none,[]⟩,
  ⟨(some 6),.p .mv,[.t 0],none,[]⟩,
  ⟨(some 7),.p .len,[.t 6],none,[]⟩,
  ⟨(some 8),.p (.sl 1 false true true),[.t 3,.t 5,.t 7],none,[]⟩,
  ⟨(some 2),.p .mv,[.t 8],none,[]⟩] false []) <|
 .ret, [.tmp 2]⟩
structure D457 (T : Tab) : Prop where
  fn : T.fn 457 = some ir457
  pr : T.prim 457 = none
/-- slices.IndexFunc[[]string,string] -/
def ir501 : AFunc := ⟨.seq (.region [
  ⟨(some 4),.p .mv,[.c (.int .i64 0)],none,[]⟩] false []) <|
 .seq (.seq (.region [
  ⟨(some 6),.p .mv,[.t 0],none,[]⟩,
  ⟨(some 7),.p .len,[.t 6],none,[]⟩,
  ⟨(some 8),.p .mv,[.c (.int .i64 0)],none,[]⟩] false []) <|
 .block 0 (.loop (.seq (.region [
  ⟨(some 9),.p (.bin .lss),[.t 8,.t 7],none,[]⟩] false []) <|
 .seq (.cond (.t 9) (.skip) (.exit 0)) <|
 .seq (.block 1 (.seq (.region [
  ⟨(some 10),.p .mv,[.t 8],none,[]⟩,
  ⟨(some 5),.p .mv,[.t 10],none,[]⟩] false []) <|
 .seq (.region [
  ⟨(some 11),.p .mv,[.t 1],none,[]⟩,
  ⟨(some 12),.p .mv,[.t 0],none,[]⟩,
  ⟨(some 13),.p .mv,[.t 5],none,[]⟩,
  ⟨(some 14),.p (.ia 1),[.t 12,.t 13],none,[]⟩,
  ⟨(some 15),.r (.ld 1 false),[.t 14],none,[]⟩,
  ⟨(some 16),.w .call,[.t 11,.t 15],none,[]⟩] false []) <|
 .cond (.t 16) (.seq (.region [
  ⟨(some 17),.p .mv,[.t 5],none,[]⟩,
  ⟨(some 4),.p .mv,[.t 17],none,[]⟩] false []) <|
 .ret) (.skip))) <|
 .region [
  ⟨(some 18),.p (.bin .add),[.t 8,.c (.int .i64 1)],none,[]⟩,
  ⟨(some 8),.p .mv,[.t 18],none,[]⟩] false []))) <|
 .seq (.region [
  ⟨(some 4),.p .mv,[.c (.int .i64 (-1))],none,[]⟩] false []) <|
 .ret, [.tmp 4]⟩
structure D501 (T : Tab) : Prop where
  fn : T.fn 501 = some ir501
  pr : T.prim 501 = none
/-- slices.ContainsFunc[[]string,string] -/
def ir490 : AFunc := ⟨.seq (.region [
  ⟨(some 4),.p .mv,[.c (.bool false)],none,[]⟩] false []) <|
 .seq (.region [
  ⟨(some 5),.p .mv,[.t 0],none,[]⟩,
  ⟨(some 6),.p .mv,[.t 1],none,[]⟩,
  ⟨(some 7),.w .call,[.c (.fn 501 [] []),.t 5,.t 6],none,[]⟩,
  ⟨(some 8),.p (.bin .geq),[.t 7,.c (.int .i64 0)],none,[]⟩,
  ⟨(some 4),.p .mv,[.t 8],none,[]⟩] false []) <|
 .ret, [.tmp 4]⟩
structure D490 (T : Tab) : Prop where
  fn : T.fn 490 = some ir490
  pr : T.prim 490 = none
  d501 : D501 T
/-- slices.Backward[motley/big.nat,int]$1 -/
def ir502 : AFunc := ⟨.seq (.region [
  ⟨(some 4),.r (.ld 1 false),[.t 1],none,[]⟩,
  ⟨(some 5),.p .len,[.t 4],none,[]⟩,
  ⟨(some 6),.p (.bin .sub),[.t 5,.c (.int .i64 1)],none,[]⟩,
  ⟨(some 3),.p .mv,[.t 6],none,[]⟩] false []) <|
 .block 0 (.loop (.seq (.seq (.region [
  ⟨(some 7),.p .mv,[.t 3],none,[]⟩,
  ⟨(some 8),.p (.bin .geq),[.t 7,.c (.int .i64 0)],none,[]⟩] false []) <|
 .cond (.t 8) (.skip) (.exit 0)) <|
 .seq (.block 1 (.seq (.region [
  ⟨(some 11),.p .mv,[.t 0],none,[]⟩,
  ⟨(some 12),.p .mv,[.t 3],none,[]⟩,
  ⟨(some 13),.r (.ld 1 false),[.t 1],none,[]⟩,
  ⟨(some 14),.p .mv,[.t 3],none,[]⟩,
  ⟨(some 15),.p (.ia 1),[.t 13,.t 14],none,[]⟩,
  ⟨(some 16),.r (.ld 1 false),[.t 15],none,[]⟩,
  ⟨(some 17),.w .call,[.t 11,.t 12,.t 16],none,[]⟩,
  ⟨(some 18),.p (.un .not),[.t 17],none,[]⟩] false []) <|
 .cond (.t 18) (.ret) (.skip))) <|
 .region [
  ⟨(some 9),.p .mv,[.t 3],none,[]⟩,
  ⟨(some 10),.p (.bin .sub),[.t 9,.c (.int .i64 1)],none,[]⟩,
  ⟨(some 3),.p .mv,[.t 10],none,[]⟩] false [])), []⟩
structure D502 (T : Tab) : Prop where
  fn : T.fn 502 = some ir502
  pr : T.prim 502 = none
/-- slices.Backward[motley/big.nat,int] -/
def ir492 : AFunc := ⟨.seq (.region [
  ⟨(some 1),.w .box,[.t 0],none,[]⟩,
  ⟨(some 2),.p .mv,[.c .nilFn],none,[]⟩] false []) <|
 .seq (.region [
  ⟨(some 3),.p (.mkF 502 0),[.t 1],none,[]⟩,
  ⟨(some 2),.p .mv,[.t 3],none,[]⟩] false []) <|
 .ret, [.tmp 2]⟩
structure D492 (T : Tab) : Prop where
  fn : T.fn 492 = some ir492
  pr : T.prim 492 = none
  d502 : D502 T
/-- slices.Compare[motley/big.nat,int] -/
def ir494 : AFunc := ⟨.seq (.region [
  ⟨(some 4),.p .mv,[.c (.int .i64 0)],none,[]⟩] false []) <|
 .seq (.seq (.region [
  ⟨(some 9),.p .mv,[.t 0],none,[]⟩,
  ⟨(some 10),.p .len,[.t 9],none,[]⟩,
  ⟨(some 11),.p .mv,[.c (.int .i64 0)],none,[]⟩] false []) <|
 .block 0 (.loop (.seq (.region [
  ⟨(some 12),.p (.bin .lss),[.t 11,.t 10],none,[]⟩] false []) <|
 .seq (.cond (.t 12) (.skip) (.exit 0)) <|
 .seq (.block 1 (.seq (.region [
  ⟨(some 13),.p .mv,[.t 11],none,[]⟩,
  ⟨(some 14),.p (.ia 1),[.t 9,.t 11],none,[]⟩,
  ⟨(some 15),.r (.ld 1 false),[.t 14],none,[]⟩,
  ⟨(some 5),.p .mv,[.t 13],none,[]⟩,
  ⟨(some 6),.p .mv,[.t 15],none,[]⟩] false []) <|
 .seq (.seq (.region [
  ⟨(some 16),.p .mv,[.t 5],none,[]⟩,
  ⟨(some 17),.p .mv,[.t 1],none,[]⟩,
  ⟨(some 18),.p .len,[.t 17],none,[]⟩,
  ⟨(some 19),.p (.bin .geq),[.t 16,.t 18],none,[]⟩] false []) <|
 .cond (.t 19) (.seq (.region [
  ⟨(some 4),.p .mv,[.c (.int .i64 1)],none,[]⟩] false []) <|
 .ret) (.skip)) <|
 .seq (.region [
  ⟨(some 20),.p .mv,[.t 1],none,[]⟩,
  ⟨(some 21),.p .mv,[.t 5],none,[]⟩,
  ⟨(some 22),.p (.ia 1),[.t 20,.t 21],none,[]⟩,
  ⟨(some 23),.r (.ld 1 false),[.t 22],none,[]⟩,
  ⟨(some 7),.p .mv,[.t 23],none,[]⟩] false []) <|
 .seq (.region [
  ⟨(some 24),.p .mv,[.t 6],none,[]⟩,
  ⟨(some 25),.p .mv,[.t 7],none,[]⟩,
  ⟨(some 26),.w .call,[.c (.fn 178 [] []),.t 24,.t 25],none,[]⟩,
  ⟨(some 8),.p .mv,[.t 26],none,[]⟩] false []) <|
 .seq (.region [
  ⟨(some 27),.p .mv,[.t 8],none,[]⟩,
  ⟨(some 28),.p (.bin .neq),[.t 27,.c (.int .i64 0)],none,[]⟩] false []) <|
 .cond (.t 28) (.seq (.region [
  ⟨(some 29),.p .mv,[.t 8],none,[]⟩,
  ⟨(some 4),.p .mv,[.t 29],none,[]⟩] false []) <|
 .ret) (.skip))) <|
 .region [
  ⟨(some 30),.p (.bin .add),[.t 11,.c (.int .i64 1)],none,[]⟩,
  ⟨(some 11),.p .mv,[.t 30],none,[]⟩] false []))) <|
 .seq (.seq (.region [
  ⟨(some 31),.p .mv,[.t 0],none,[]⟩,
  ⟨(some 32),.p .len,[.t 31],none,[]⟩,
  ⟨(some 33),.p .mv,[.t 1],none,[]⟩,
  ⟨(some 34),.p .len,[.t 33],none,[]⟩,
  ⟨(some 35),.p (.bin .lss),[.t 32,.t 34],none,[]⟩] false []) <|
 .cond (.t 35) (.seq (.region [
  ⟨(some 4),.p .mv,[.c (.int .i64 (-1))],none,[]⟩] false []) <|
 .ret) (.skip)) <|
 .seq (.region [
  ⟨(some 4),.p .mv,[.c (.int .i64 0)],none,[]⟩] false []) <|
 .ret, [.tmp 4]⟩
structure D494 (T : Tab) : Prop where
  fn : T.fn 494 = some ir494
  pr : T.prim 494 = none
  d178 : D178 T
/-- slices.Reverse[motley/big.nat,int] -/
def ir495 : AFunc := ⟨.seq (.region [
  ⟨(some 4),.p .mv,[.t 0],none,[]⟩,
  ⟨(some 5),.p .len,[.t 4],none,[]⟩,
  ⟨(some 6),.p (.bin .sub),[.t 5,.c (.int .i64 1)],none,[]⟩,
  ⟨(some 2),.p .mv,[.c (.int .i64 0)],none,[]⟩,
  ⟨(some 3),.p .mv,[.t 6],none,[]⟩] false []) <|
 .block 0 (.loop (.seq (.seq (.region [
  ⟨(some 7),.p .mv,[.t 2],none,[]⟩,
  ⟨(some 8),.p .mv,[.t 3],none,[]⟩,
  ⟨(some 9),.p (.bin .lss),[.t 7,.t 8],none,[]⟩] false []) <|
 .cond (.t 9) (.skip) (.exit 0)) <|
 .seq (.block 1 (.region [
  ⟨(some 14),.p .mv,[.t 0],none,[]⟩,
  ⟨(some 15),.p .mv,[.t 2],none,[]⟩,
  ⟨(some 16),.p .mv,[.t 0],none,[]⟩,
  ⟨(some 17),.p .mv,[.t 3],none,[]⟩,
  ⟨(some 18),.p .mv,[.t 0],none,[]⟩,
  ⟨(some 19),.p .mv,[.t 3],none,[]⟩,
  ⟨(some 20),.p (.ia 1),[.t 18,.t 19],none,[]⟩,
  ⟨(some 21),.r (.ld 1 false),[.t 20],none,[]⟩,
  ⟨(some 22),.p .mv,[.t 0],none,[]⟩,
  ⟨(some 23),.p .mv,[.t 2],none,[]⟩,
  ⟨(some 24),.p (.ia 1),[.t 22,.t 23],none,[]⟩,
  ⟨(some 25),.r (.ld 1 false),[.t 24],none,[]⟩,
  ⟨(some 26),.p (.ia 1),[.t 14,.t 15],none,[]⟩,
  ⟨none,.w (.st 1),[.t 26,.t 21],none,[]⟩,
  ⟨(some 27),.p (.ia 1),[.t 16,.t 17],none,[]⟩,
  ⟨none,.w (.st 1),[.t 27,.t 25],none,[]⟩] true [])) <|
 .region [
  ⟨(some 10),.p .mv,[.t 2],none,[]⟩,
  ⟨(some 11),.p (.bin .add),[.t 10,.c (.int .i64 1)],none,[]⟩,
  ⟨(some 12),.p .mv,[.t 3],none,[]⟩,
  ⟨(some 13),.p (.bin .sub),[.t 12,.c (.int .i64 1)],none,[]⟩,
  ⟨(some 2),.p .mv,[.t 11],none,[]⟩,
  ⟨(some 3),.p .mv,[.t 13],none,[]⟩] false [])), []⟩
structure D495 (T : Tab) : Prop where
  fn : T.fn 495 = some ir495
  pr : T.prim 495 = none
/-- slices.Backward[[]int,int]$1 -/
def ir503 : AFunc := ⟨.seq (.region [
  ⟨(some 4),.r (.ld 1 false),[.t 1],none,[]⟩,
  ⟨(some 5),.p .len,[.t 4],none,[]⟩,
  ⟨(some 6),.p (.bin .sub),[.t 5,.c (.int .i64 1)],none,[]⟩,
  ⟨(some 3),.p .mv,[.t 6],none,[]⟩] false []) <|
 .block 0 (.loop (.seq (.seq (.region [
  ⟨(some 7),.p .mv,[.t 3],none,[]⟩,
  ⟨(some 8),.p (.bin .geq),[.t 7,.c (.int .i64 0)],none,[]⟩] false []) <|
 .cond (.t 8) (.skip) (.exit 0)) <|
 .seq (.block 1 (.seq (.region [
  ⟨(some 11),.p .mv,[.t 0],none,[]⟩,
  ⟨(some 12),.p .mv,[.t 3],none,[]⟩,
  ⟨(some 13),.r (.ld 1 false),[.t 1],none,[]⟩,
  ⟨(some 14),.p .mv,[.t 3],none,[]⟩,
  ⟨(some 15),.p (.ia 1),[.t 13,.t 14],none,[]⟩,
  ⟨(some 16),.r (.ld 1 false),[.t 15],none,[]⟩,
  ⟨(some 17),.w .call,[.t 11,.t 12,.t 16],none,[]⟩,
  ⟨(some 18),.p (.un .not),[.t 17],none,[]⟩] false []) <|
 .cond (.t 18) (.ret) (.skip))) <|
 .region [
  ⟨(some 9),.p .mv,[.t 3],none,[]⟩,
  ⟨(some 10),.p (.bin .sub),[.t 9,.c (.int .i64 1)],none,[]⟩,
  ⟨(some 3),.p .mv,[.t 10],none,[]⟩] false [])), []⟩
structure D503 (T : Tab) : Prop where
  fn : T.fn 503 = some ir503
  pr : T.prim 503 = none
/-- slices.Backward[[]int,int] -/
def ir497 : AFunc := ⟨.seq (.region [
  ⟨(some 1),.w .box,[.t 0],none,[]⟩,
  ⟨(some 2),.p .mv,[.c .nilFn],none,[]⟩] false []) <|
 .seq (.region [
  ⟨(some 3),.p (.mkF 503 0),[.t 1],none,[]⟩,
  ⟨(some 2),.p .mv,[.t 3],none,[]⟩] false []) <|
 .ret, [.tmp 2]⟩
structure D497 (T : Tab) : Prop where
  fn : T.fn 497 = some ir497
  pr : T.prim 497 = none
  d503 : D503 T
/-- strings.trimLeftByte -/
def ir505 : AFunc := ⟨.seq (.region [
  ⟨(some 4),.p .mv,[.c (.str [])],none,[]⟩] false []) <|
 .seq (.block 0 (.loop (.seq (.seq (.region [
  ⟨(some 5),.p .mv,[.t 0],none,[]⟩,
  ⟨(some 6),.p .lenS,[.t 5],none,[]⟩,
  ⟨(some 7),.p (.bin .gtr),[.t 6,.c (.int .i64 0)],none,[]⟩,
  ⟨(some 8),.p .mv,[.t 7],none,[]⟩,
  ⟨(some 9),.p .mv,[.t 0],(some (8,true)),[]⟩,
  ⟨(some 10),.p .idxS,[.t 9,.c (.int .i64 0)],(some (8,true)),[]⟩,
  ⟨(some 11),.p .mv,[.t 1],(some (8,true)),[]⟩,
  ⟨(some 12),.p (.bin .eql),[.t 10,.t 11],(some (8,true)),[]⟩,
  ⟨(some 13),.p .pick,[.t 8,.t 12,.c (.bool false)],none,[]⟩] false []) <|
 .cond (.t 13) (.skip) (.exit 0)) <|
 .block 1 (.region [
  ⟨(some 14),.p .mv,[.t 0],none,[]⟩,
  ⟨(some 15),.p (.slS true false),[.t 14,.c (.int .i64 1)],none,[]⟩,
  ⟨(some 0),.p .mv,[.t 15],none,[]⟩] false [])))) <|
 .seq (.region [
  ⟨(some 16),.p .mv,[.t 0],none,[]⟩,
  ⟨(some 4),.p .mv,[.t 16],none,[]⟩] false []) <|
 .ret, [.tmp 4]⟩
structure D505 (T : Tab) : Prop where
  fn : T.fn 505 = some ir505
  pr : T.prim 505 = none
/-- strings.trimRightByte -/
def ir506 : AFunc := ⟨.seq (.region [
  ⟨(some 4),.p .mv,[.c (.str [])],none,[]⟩] false []) <|
 .seq (.block 0 (.loop (.seq (.seq (.region [
  ⟨(some 5),.p .mv,[.t 0],none,[]⟩,
  ⟨(some 6),.p .lenS,[.t 5],none,[]⟩,
  ⟨(some 7),.p (.bin .gtr),[.t 6,.c (.int .i64 0)],none,[]⟩,
  ⟨(some 8),.p .mv,[.t 7],none,[]⟩,
  ⟨(some 9),.p .mv,[.t 0],(some (8,true)),[]⟩,
  ⟨(some 10),.p .mv,[.t 0],(some (8,true)),[]⟩,
  ⟨(some 11),.p .lenS,[.t 10],(some (8,true)),[]⟩,
  ⟨(some 12),.p (.bin .sub),[.t 11,.c (.int .i64 1)],(some (8,true)),[]⟩,
  ⟨(some 13),.p .idxS,[.t 9,.t 12],(some (8,true)),[]⟩,
  ⟨(some 14),.p .mv,[.t 1],(some (8,true)),[]⟩,
  ⟨(some 15),.p (.bin .eql),[.t 13,.t 14],(some (8,true)),[]⟩,
  ⟨(some 16),.p .pick,[.t 8,.t 15,.c (.bool false)],none,[]⟩] false []) <|
 .cond (.t 16) (.skip) (.exit 0)) <|
 .block 1 (.region [
  ⟨(some 17),.p .mv,[.t 0],none,[]⟩,
  ⟨(some 18),.p .mv,[.t 0],none,[]⟩,
  ⟨(some 19),.p .lenS,[.t 18],none,[]⟩,
  ⟨(some 20),.p (.bin .sub),[.t 19,.c (.int .i64 1)],none,[]⟩,
  ⟨(some 21),.p (.slS false true),[.t 17,.t 20],none,[]⟩,
  ⟨(some 0),.p .mv,[.t 21],none,[]⟩] false [])))) <|
 .seq (.region [
  ⟨(some 22),.p .mv,[.t 0],none,[]⟩,
  ⟨(some 4),.p .mv,[.t 22],none,[]⟩] false []) <|
 .ret, [.tmp 4]⟩
structure D506 (T : Tab) : Prop where
  fn : T.fn 506 = some ir506
  pr : T.prim 506 = none
/-- strings.makeASCIISet -/
def ir507 : AFunc := ⟨.seq (.region [
  ⟨(some 2),.w .box,[.c (.agg [(.bool false),(.bool false),(.bool false),(.bool false),(.bool false),(.bool false),(.bool false),(.bool false),(.bool false),(.bool false),(.bool false),(.bool false),(.bool false),(.bool false),(.bool false),(.bool false),(.bool false),(.bool false),(.bool false),(.bool false),(.bool false),(.bool false),(.bool false),(.bool false),(.bool false),(.bool false),(.bool false),(.bool false),(.bool false),(.bool false),(.bool false),(.bool false),(.bool false),(.bool false),(.bool false),(.bool false),(.bool false),(.bool false),(.bool false),(.bool false),(.bool false),(.bool false),(.bool false),(.bool false),(.bool false),(.bool false),(.bool false),(.bool false),(.bool false),(.bool false),(.bool false),(.bool false),(.bool false),(.bool false),(.bool false),(.bool false),(.bool false),(.bool false),(.bool false),(.bool false),(.bool false),(.bool false),(.bool false),(.bool false),(.bool false),(.bool false),(.bool false),(.bool false),(.bool false),(.bool false),(.bool false),(.bool false),(.bool false),(.bool false),(.bool false),(.bool false),(.bool false),(.bool false),(.bool false),(.bool false),(.bool false),(.bool false),(.bool false),(.bool false),(.bool false),(.bool false),(.bool false),(.bool false),(.bool false),(.bool false),(.bool false),(.bool false),(.bool false),(.bool false),(.bool false),(.bool false),(.bool false),(.bool false),(.bool false),(.bool false),(.bool false),(.bool false),(.bool false),(.bool false),(.bool false),(.bool false),(.bool false),(.bool false),(.bool false),(.bool false),(.bool false),(.bool false),(.bool false),(.bool false),(.bool false),(.bool false),(.bool false),(.bool false),(.bool false),(.bool false),(.bool false),(.bool false),(.bool false),(.bool false),(.bool false),(.bool false),(.bool false),(.bool false),(.bool false),(.bool false),(.bool false),(.bool false),(.bool false),(.bool false),(.bool false),(.bool false),(.bool false),(.bool false),(.bool false),(.bool false),(.bool false),(.bool false),(.bool false),(.bool false),(.bool false),(.bool false),(.bool false),(.bool false),(.bool false),(.bool false),(.bool false),(.bool false),(.bool false),(.bool false),(.bool false),(.bool false),(.bool false),(.bool false),(.bool false),(.bool false),(.bool false),(.bool false),(.bool false),(.bool false),(.bool false),(.bool false),(.bool false),(.bool false),(.bool false),(.bool false),(.bool false),(.bool false),(.bool false),(.bool false),(.bool false),(.bool false),(.bool false),(.bool false),(.bool false),(.bool false),(.bool false),(.bool false),(.bool false),(.bool false),(.bool false),(.bool false),(.bool false),(.bool false),(.bool false),(.bool false),(.bool false),(.bool false),(.bool false),(.bool false),(.bool false),(.bool false),(.bool false),(.bool false),(.bool false),(.bool false),(.bool false),(.bool false),(.bool false),(.bool false),(.bool false),(.bool false),(.bool false),(.bool false),(.bool false),(.bool false),(.bool false),(.bool false),(.bool false),(.bool false),(.bool false),(.bool false),(.bool false),(.bool false),(.bool false),(.bool false),(.bool false),(.bool false),(.bool false),(.bool false),(.bool false),(.bool false),(.bool false),(.bool false),(.bool false),(.bool false),(.bool false),(.bool false),(.bool false),(.bool false),(.bool false),(.bool false),(.bool false),(.bool false),(.bool false),(.bool false),(.bool false),(.bool false),(.bool false),(.bool false),(.bool false),(.bool false),(.bool false),(.bool false),(.bool false),(.bool false),(.bool false),(.bool false),(.bool false),(.bool false),(.bool false),(.bool false)])],none,[]⟩,
  ⟨(some 3),.p .mv,[.c (.bool false)],none,[]⟩] false []) <|
 .seq (.seq (.region [
  ⟨(some 4),.p .mv,[.c (.int .i64 0)],none,[]⟩] false []) <|
 .block 0 (.loop (.seq (.seq (.region [
  ⟨(some 6),.p .mv,[.t 4],none,[]⟩,
  ⟨(some 7),.p .mv,[.t 0],none,[]⟩,
  ⟨(some 8),.p .lenS,[.t 7],none,[]⟩,
  ⟨(some 9),.p (.bin .lss),[.t 6,.t 8],none,[]⟩] false []) <|
 .cond (.t 9) (.skip) (.exit 0)) <|
 .seq (.block 1 (.seq (.region [
  ⟨(some 12),.p .mv,[.t 0],none,[]⟩,
  ⟨(some 13),.p .mv,[.t 4],none,[]⟩,
  ⟨(some 14),.p .idxS,[.t 12,.t 13],none,[]⟩,
  ⟨(some 5),.p .mv,[.t 14],none,[]⟩] false []) <|
 .seq (.seq (.region [
  ⟨(some 15),.p .mv,[.t 5],none,[]⟩,
  ⟨(some 16),.p (.bin .geq),[.t 15,.c (.int .u8 128)],none,[]⟩] false []) <|
 .cond (.t 16) (.seq (.region [
  ⟨(some 17),.r (.ld 256 true),[.t 2],none,[]⟩,
  ⟨none,.w (.st 256),[.t 2,.t 17],none,[]⟩,
  ⟨(some 3),.p .mv,[.c (.bool false)],none,[]⟩] false []) <|
 .ret) (.skip)) <|
 .region [
  ⟨(some 18),.p .mv,[.t 5],none,[]⟩,
  ⟨(some 19),.p (.iap 256 1),[.t 2,.t 18],none,[]⟩,
  ⟨none,.w (.st 1),[.t 19,.c (.bool true)],none,[]⟩] false [])) <|
 .region [
  ⟨(some 10),.p .mv,[.t 4],none,[]⟩,
  ⟨(some 11),.p (.bin .add),[.t 10,.c (.int .i64 1)],none,[]⟩,
  ⟨(some 4),.p .mv,[.t 11],none,[]⟩] false []))) <|
 .seq (.region [
  ⟨(some 20),.r (.ld 256 true),[.t 2],none,[]⟩,
  ⟨none,.w (.st 256),[.t 2,.t 20],none,[]⟩,
  ⟨(some 3),.p .mv,[.c (.bool true)],none,[]⟩] false []) <|
 .ret, [.cell 2 256 true,.tmp 3]⟩
structure D507 (T : Tab) : Prop where
  fn : T.fn 507 = some ir507
  pr : T.prim 507 = none
/-- (*strings.asciiSet).contains -/
def ir512 : AFunc := ⟨.seq (.region [
  ⟨(some 4),.p .mv,[.c (.bool false)],none,[]⟩] false []) <|
 .seq (.region [
  ⟨(some 5),.p .mv,[.t 0],none,[]⟩,
  ⟨(some 6),.p .mv,[.t 1],none,[]⟩,
  ⟨(some 7),.p .nilC,[.t 5],none,[]⟩,
  ⟨(some 8),.p (.iap 256 1),[.t 7,.t 6],none,[]⟩,
  ⟨(some 9),.r (.ld 1 false),[.t 8],none,[]⟩,
  ⟨(some 4),.p .mv,[.t 9],none,[]⟩] false []) <|
 .ret, [.tmp 4]⟩
structure D512 (T : Tab) : Prop where
  fn : T.fn 512 = some ir512
  pr : T.prim 512 = none
/-- strings.trimLeftASCII -/
def ir508 : AFunc := ⟨.seq (.region [
  ⟨(some 4),.p .mv,[.c (.str [])],none,[]⟩] false []) <|
 .seq (.block 0 (.loop (.seq (.seq (.region [
  ⟨(some 5),.p .mv,[.t 0],none,[]⟩,
  ⟨(some 6),.p .lenS,[.t 5],none,[]⟩,
  ⟨(some 7),.p (.bin .gtr),[.t 6,.c (.int .i64 0)],none,[]⟩] false []) <|
 .cond (.t 7) (.skip) (.exit 0)) <|
 .block 1 (.seq (.seq (.region [
  ⟨(some 8),.p .mv,[.t 1],none,[]⟩,
  ⟨(some 9),.p .mv,[.t 0],none,[]⟩,
  ⟨(some 10),.p .idxS,[.t 9,.c (.int .i64 0)],none,[]⟩,
  ⟨(some 11),.w .call,[.c (.fn 512 [] []),.t 8,.t 10],none,[]⟩,
  ⟨(some 12),.p (.un .not),[.t 11],none,[]⟩] false []) <|
 .cond (.t 12) (.exit 0) (.skip)) <|
 .region [
  ⟨(some 13),.p .mv,[.t 0],none,[]⟩,
  ⟨(some 14),.p (.slS true false),[.t 13,.c (.int .i64 1)],none,[]⟩,
  ⟨(some 0),.p .mv,[.t 14],none,[]⟩] false [])))) <|
 .seq (.region [
  ⟨(some 15),.p .mv,[.t 0],none,[]⟩,
  ⟨(some 4),.p .mv,[.t 15],none,[]⟩] false []) <|
 .ret, [.tmp 4]⟩
structure D508 (T : Tab) : Prop where
  fn : T.fn 508 = some ir508
  pr : T.prim 508 = none
  d512 : D512 T
/-- strings.trimRightASCII -/
def ir509 : AFunc := ⟨.seq (.region [
  ⟨(some 4),.p .mv,[.c (.str [])],none,[]⟩] false []) <|
 .seq (.block 0 (.loop (.seq (.seq (.region [
  ⟨(some 5),.p .mv,[.t 0],none,[]⟩,
  ⟨(some 6),.p .lenS,[.t 5],none,[]⟩,
  ⟨(some 7),.p (.bin .gtr),[.t 6,.c (.int .i64 0)],none,[]⟩] false []) <|
 .cond (.t 7) (.skip) (.exit 0)) <|
 .block 1 (.seq (.seq (.region [
  ⟨(some 8),.p .mv,[.t 1],none,[]⟩,
  ⟨(some 9),.p .mv,[.t 0],none,[]⟩,
  ⟨(some 10),.p .mv,[.t 0],none,[]⟩,
  ⟨(some 11),.p .lenS,[.t 10],none,[]⟩,
  ⟨(some 12),.p (.bin .sub),[.t 11,.c (.int .i64 1)],none,[]⟩,
  ⟨(some 13),.p .idxS,[.t 9,.t 12],none,[]⟩,
  ⟨(some 14),.w .call,[.c (.fn 512 [] []),.t 8,.t 13],none,[]⟩,
  ⟨(some 15),.p (.un .not),[.t 14],none,[]⟩] false []) <|
 .cond (.t 15) (.exit 0) (.skip)) <|
 .region [
  ⟨(some 16),.p .mv,[.t 0],none,[]⟩,
  ⟨(some 17),.p .mv,[.t 0],none,[]⟩,
  ⟨(some 18),.p .lenS,[.t 17],none,[]⟩,
  ⟨(some 19),.p (.bin .sub),[.t 18,.c (.int .i64 1)],none,[]⟩,
  ⟨(some 20),.p (.slS false true),[.t 16,.t 19],none,[]⟩,
  ⟨(some 0),.p .mv,[.t 20],none,[]⟩] false [])))) <|
 .seq (.region [
  ⟨(some 21),.p .mv,[.t 0],none,[]⟩,
  ⟨(some 4),.p .mv,[.t 21],none,[]⟩] false []) <|
 .ret, [.tmp 4]⟩
structure D509 (T : Tab) : Prop where
  fn : T.fn 509 = some ir509
  pr : T.prim 509 = none
  d512 : D512 T
/-- internal/bytealg.Cutover -/
def ir521 : AFunc := ⟨.seq (.region [
  ⟨(some 2),.p .mv,[.c (.int .i64 0)],none,[]⟩] false []) <|
 .seq (.region [
  ⟨(some 3),.p .mv,[.t 0],none,[]⟩,
  ⟨(some 4),.p (.bin .add),[.t 3,.c (.int .i64 16)],none,[]⟩,
  ⟨(some 5),.p (.bin .quo),[.t 4,.c (.int .i64 8)],none,[]⟩,
  ⟨(some 2),.p .mv,[.t 5],none,[]⟩] false []) <|
 .ret, [.tmp 2]⟩
structure D521 (T : Tab) : Prop where
  fn : T.fn 521 = some ir521
  pr : T.prim 521 = none
end Go.Am
