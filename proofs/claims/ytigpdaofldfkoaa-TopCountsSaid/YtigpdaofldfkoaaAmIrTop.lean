/- Texts of functions for the small machine, printed by mkir2.py out of the compiled functions, and for each what a table has to hold. -/
import Derived.Test.YtigpdaofldfkoaaAmIrHeap
set_option linter.unusedVariables false
namespace Go.Am
/-- (*motley/motleytop.keptCells).tell -/
def ir536 : AFunc := ⟨.seq (.region [
⟨(some 4),.p .mv,[.c (.bool false)],none,[]⟩] false []) <|
 .seq (.seq (.region [
⟨(some 5),.p .mv,[.t 1],none,[]⟩,
⟨(some 6),.p (.bin .lss),[.t 5,.c (.int .i64 0)],none,[]⟩,
⟨(some 7),.p .mv,[.t 6],none,[]⟩,
⟨(some 8),.p .mv,[.t 1],(some (7,false)),[]⟩,
⟨(some 9),.p .mv,[.t 0],(some (7,false)),[]⟩,
⟨(some 10),.p .nilC,[.t 9],(some (7,false)),[]⟩,
⟨(some 11),.p (.fa 3),[.t 10],(some (7,false)),[]⟩,
⟨(some 12),.r (.ld 1 false),[.t 11],(some (7,false)),[]⟩,
⟨(some 13),.p .len,[.t 12],(some (7,false)),[]⟩,
⟨(some 14),.p (.bin .geq),[.t 8,.t 13],(some (7,false)),[]⟩,
⟨(some 15),.p .pick,[.t 7,.c (.bool true),.t 14],none,[]⟩,
⟨(some 16),.p .mv,[.t 15],none,[]⟩,
⟨(some 17),.p .mv,[.t 0],(some (16,false)),[]⟩,
⟨(some 18),.p .nilC,[.t 17],(some (16,false)),[]⟩,
⟨(some 19),.p (.fa 3),[.t 18],(some (16,false)),[]⟩,
⟨(some 20),.r (.ld 1 false),[.t 19],(some (16,false)),[]⟩,
⟨(some 21),.p .mv,[.t 1],(some (16,false)),[]⟩,
⟨(some 22),.p (.ia 1),[.t 20,.t 21],(some (16,false)),[]⟩,
⟨(some 23),.r (.ld 1 false),[.t 22],(some (16,false)),[]⟩,
⟨(some 24),.p .pick,[.t 16,.c (.bool true),.t 23],none,[]⟩] false []) <|
 .cond (.t 24) (.seq (.region [
⟨(some 4),.p .mv,[.c (.bool false)],none,[]⟩] false []) <|
 .ret) (.skip)) <|
 .seq (.region [
⟨(some 25),.p .mv,[.t 0],none,[]⟩,
⟨(some 26),.p .nilC,[.t 25],none,[]⟩,
⟨(some 27),.p (.fa 3),[.t 26],none,[]⟩,
⟨(some 28),.r (.ld 1 false),[.t 27],none,[]⟩,
⟨(some 29),.p .mv,[.t 1],none,[]⟩,
⟨(some 30),.p (.ia 1),[.t 28,.t 29],none,[]⟩,
⟨none,.w (.st 1),[.t 30,.c (.bool true)],none,[]⟩] false []) <|
 .seq (.region [
⟨(some 4),.p .mv,[.c (.bool true)],none,[]⟩] false []) <|
 .ret, [.tmp 4]⟩
structure D536 (T : Tab) : Prop where
  fn : T.fn 536 = some ir536
  pr : T.prim 536 = none
/-- (*motley/motleytop.keptCells).act -/
def ir532 : AFunc := ⟨.seq (.region [
⟨(some 3),.w .box,[.t 1],none,[]⟩,
⟨(some 4),.p .mv,[.c (.bool false)],none,[]⟩] false []) <|
 .seq (.seq (.region [
⟨(some 12),.p (.fa 0),[.t 3],none,[]⟩,
⟨(some 13),.r (.ld 1 false),[.t 12],none,[]⟩] false []) <|
 .block 0 (.seq (.region [
⟨(some 33),.p (.bin .eql),[.t 13,.c (.int .i64 0)],none,[]⟩,
⟨(some 32),.p .mv,[.t 33],none,[]⟩] false []) <|
 .cond (.t 32) (.seq (.region [
⟨(some 34),.p (.fa 1),[.t 3],none,[]⟩,
⟨(some 35),.r (.ld 1 false),[.t 34],none,[]⟩,
⟨(some 36),.p (.conv .u64),[.t 35],none,[]⟩,
⟨(some 37),.p (.bin .rem),[.t 36,.c (.int .u64 9)],none,[]⟩,
⟨(some 38),.p (.conv .i64),[.t 37],none,[]⟩,
⟨(some 5),.p .mv,[.t 38],none,[]⟩] false []) <|
 .seq (.region [
⟨(some 40),.p .mv,[.t 0],none,[]⟩,
⟨(some 41),.p .nilC,[.t 40],none,[]⟩,
⟨(some 42),.p (.fa 0),[.t 41],none,[]⟩,
⟨(some 43),.r (.ld 1 false),[.t 42],none,[]⟩,
⟨(some 44),.p .mv,[.t 5],none,[]⟩,
⟨(some 45),.p (.fa 2),[.t 3],none,[]⟩,
⟨(some 46),.r (.ld 1 false),[.t 45],none,[]⟩,
⟨(some 47),.p (.bin .rem),[.t 46,.c (.int .i64 2)],none,[]⟩,
⟨(some 48),.p (.bin .eql),[.t 47,.c (.int .i64 0)],none,[]⟩,
⟨(some 49),.w .call,[.c (.fn 343 [] []),.t 43,.t 44,.t 48],none,[]⟩,
⟨(some 39),.p .mv,[.t 49],none,[]⟩,
⟨(some 50),.p (.ext 0),[.t 39],none,[]⟩,
⟨(some 51),.p (.ext 1),[.t 39],none,[]⟩,
⟨(some 6),.p .mv,[.t 50],none,[]⟩,
⟨(some 7),.p .mv,[.t 51],none,[]⟩] true []) <|
 .seq (.seq (.region [
⟨(some 52),.p .mv,[.t 7],none,[]⟩,
⟨(some 53),.p (.bin .eql),[.t 52,.c (.int .i64 0)],none,[]⟩] false []) <|
 .cond (.t 53) (.region [
⟨(some 54),.p .mv,[.t 0],none,[]⟩,
⟨(some 55),.p .mv,[.t 0],none,[]⟩,
⟨(some 56),.p .mv,[.t 0],none,[]⟩,
⟨(some 57),.p .mv,[.t 0],none,[]⟩,
⟨(some 58),.p .nilC,[.t 57],none,[]⟩,
⟨(some 59),.p (.fa 1),[.t 58],none,[]⟩,
⟨(some 60),.r (.ld 1 false),[.t 59],none,[]⟩,
⟨(some 61),.p .mv,[.t 5],none,[]⟩,
⟨(some 62),.w (.bsl 1 1 [(.int .i64 0)] [(0,1)]),[.t 61],none,[]⟩,
⟨(some 63),.w (.app 1 8),[.t 60,.t 62],none,[]⟩,
⟨(some 64),.p .mv,[.t 0],none,[]⟩,
⟨(some 65),.p .nilC,[.t 64],none,[]⟩,
⟨(some 66),.p (.fa 2),[.t 65],none,[]⟩,
⟨(some 67),.r (.ld 1 false),[.t 66],none,[]⟩,
⟨(some 68),.w (.bsl 1 1 [(.int .i64 0)] [(0,1)]),[.c (.int .i64 0)],none,[]⟩,
⟨(some 69),.w (.app 1 8),[.t 67,.t 68],none,[]⟩,
⟨(some 70),.p .mv,[.t 0],none,[]⟩,
⟨(some 71),.p .nilC,[.t 70],none,[]⟩,
⟨(some 72),.p (.fa 3),[.t 71],none,[]⟩,
⟨(some 73),.r (.ld 1 false),[.t 72],none,[]⟩,
⟨(some 74),.w (.bsl 1 1 [(.bool false)] [(0,1)]),[.c (.bool false)],none,[]⟩,
⟨(some 75),.w (.app 1 1),[.t 73,.t 74],none,[]⟩,
⟨(some 76),.p .nilC,[.t 54],none,[]⟩,
⟨(some 77),.p (.fa 1),[.t 76],none,[]⟩,
⟨none,.w (.st 1),[.t 77,.t 63],none,[]⟩,
⟨(some 78),.p .nilC,[.t 55],none,[]⟩,
⟨(some 79),.p (.fa 2),[.t 78],none,[]⟩,
⟨none,.w (.st 1),[.t 79,.t 69],none,[]⟩,
⟨(some 80),.p .nilC,[.t 56],none,[]⟩,
⟨(some 81),.p (.fa 3),[.t 80],none,[]⟩,
⟨none,.w (.st 1),[.t 81,.t 75],none,[]⟩] true [(6,8),(13,8),(13,9),(6,14),(13,14),(19,8),(19,9),(19,14),(19,15),(6,20),(13,20),(19,20)]) (.skip)) <|
 .seq (.region [
⟨(some 82),.p .mv,[.t 7],none,[]⟩,
⟨(some 83),.p (.bin .neq),[.t 82,.c (.int .i64 0)],none,[]⟩,
⟨(some 84),.p .mv,[.t 83],none,[]⟩,
⟨(some 85),.p .mv,[.t 6],(some (84,false)),[]⟩,
⟨(some 86),.p .mv,[.t 0],(some (84,false)),[]⟩,
⟨(some 87),.p .nilC,[.t 86],(some (84,false)),[]⟩,
⟨(some 88),.p (.fa 1),[.t 87],(some (84,false)),[]⟩,
⟨(some 89),.r (.ld 1 false),[.t 88],(some (84,false)),[]⟩,
⟨(some 90),.p .len,[.t 89],(some (84,false)),[]⟩,
⟨(some 91),.p (.bin .sub),[.t 90,.c (.int .i64 1)],(some (84,false)),[]⟩,
⟨(some 92),.p (.bin .eql),[.t 85,.t 91],(some (84,false)),[]⟩,
⟨(some 93),.p .pick,[.t 84,.c (.bool true),.t 92],none,[]⟩,
⟨(some 4),.p .mv,[.t 93],none,[]⟩] false []) <|
 .ret) (.seq (.region [
⟨(some 95),.p (.bin .eql),[.t 13,.c (.int .i64 1)],none,[]⟩,
⟨(some 94),.p .mv,[.t 95],none,[]⟩] false []) <|
 .cond (.t 94) (.region [
⟨(some 96),.p .mv,[.t 0],none,[]⟩,
⟨(some 97),.p .nilC,[.t 96],none,[]⟩,
⟨(some 98),.p (.fa 0),[.t 97],none,[]⟩,
⟨(some 99),.r (.ld 1 false),[.t 98],none,[]⟩,
⟨(some 100),.p (.fa 1),[.t 3],none,[]⟩,
⟨(some 101),.r (.ld 1 false),[.t 100],none,[]⟩,
⟨(some 102),.p (.fa 2),[.t 3],none,[]⟩,
⟨(some 103),.r (.ld 1 false),[.t 102],none,[]⟩,
⟨(some 104),.p (.fa 3),[.t 3],none,[]⟩,
⟨(some 105),.r (.ld 1 false),[.t 104],none,[]⟩,
⟨(some 106),.p (.fa 4),[.t 3],none,[]⟩,
⟨(some 107),.r (.ld 1 false),[.t 106],none,[]⟩,
⟨(some 108),.p (.bin .neq),[.t 107,.c (.str [])],none,[]⟩,
⟨(some 109),.w .call,[.c (.fn 345 [] []),.t 99,.t 101,.t 103,.t 105,.t 108],none,[]⟩] true []) (.seq (.region [
⟨(some 111),.p (.bin .eql),[.t 13,.c (.int .i64 2)],none,[]⟩,
⟨(some 110),.p .mv,[.t 111],none,[]⟩] false []) <|
 .cond (.t 110) (.region [
⟨(some 112),.p .mv,[.t 0],none,[]⟩,
⟨(some 113),.p .nilC,[.t 112],none,[]⟩,
⟨(some 114),.p (.fa 0),[.t 113],none,[]⟩,
⟨(some 115),.r (.ld 1 false),[.t 114],none,[]⟩,
⟨(some 116),.p (.fa 1),[.t 3],none,[]⟩,
⟨(some 117),.r (.ld 1 false),[.t 116],none,[]⟩,
⟨(some 118),.p (.fa 2),[.t 3],none,[]⟩,
⟨(some 119),.r (.ld 1 false),[.t 118],none,[]⟩,
⟨(some 120),.w .call,[.c (.fn 346 [] []),.t 115,.t 117,.t 119],none,[]⟩] true []) (.seq (.region [
⟨(some 122),.p (.bin .eql),[.t 13,.c (.int .i64 3)],none,[]⟩,
⟨(some 121),.p .mv,[.t 122],none,[]⟩] false []) <|
 .cond (.t 121) (.seq (.region [
⟨(some 123),.p .mv,[.t 0],none,[]⟩,
⟨(some 124),.p .nilC,[.t 123],none,[]⟩,
⟨(some 125),.p (.fa 0),[.t 124],none,[]⟩,
⟨(some 126),.r (.ld 1 false),[.t 125],none,[]⟩,
⟨(some 127),.p (.fa 1),[.t 3],none,[]⟩,
⟨(some 128),.r (.ld 1 false),[.t 127],none,[]⟩,
⟨(some 129),.w .call,[.c (.fn 324 [] []),.t 126,.t 128],none,[]⟩,
⟨(some 130),.p (.bin .eql),[.t 129,.c (.int .i64 0)],none,[]⟩,
⟨(some 131),.p .mv,[.t 130],none,[]⟩,
⟨(some 132),.p (.fa 1),[.t 3],(some (131,true)),[]⟩,
⟨(some 133),.r (.ld 1 false),[.t 132],(some (131,true)),[]⟩,
⟨(some 134),.p (.bin .geq),[.t 133,.c (.int .i64 0)],(some (131,true)),[]⟩,
⟨(some 135),.p .pick,[.t 131,.t 134,.c (.bool false)],none,[]⟩,
⟨(some 136),.p .mv,[.t 135],none,[]⟩,
⟨(some 137),.p (.fa 1),[.t 3],(some (136,true)),[]⟩,
⟨(some 138),.r (.ld 1 false),[.t 137],(some (136,true)),[]⟩,
⟨(some 139),.p .mv,[.t 0],(some (136,true)),[]⟩,
⟨(some 140),.p .nilC,[.t 139],(some (136,true)),[]⟩,
⟨(some 141),.p (.fa 2),[.t 140],(some (136,true)),[]⟩,
⟨(some 142),.r (.ld 1 false),[.t 141],(some (136,true)),[]⟩,
⟨(some 143),.p .len,[.t 142],(some (136,true)),[]⟩,
⟨(some 144),.p (.bin .lss),[.t 138,.t 143],(some (136,true)),[]⟩,
⟨(some 145),.p .pick,[.t 136,.t 144,.c (.bool false)],none,[]⟩] true []) <|
 .cond (.t 145) (.region [
⟨(some 146),.p .mv,[.t 0],none,[]⟩,
⟨(some 147),.p .nilC,[.t 146],none,[]⟩,
⟨(some 148),.p (.fa 2),[.t 147],none,[]⟩,
⟨(some 149),.r (.ld 1 false),[.t 148],none,[]⟩,
⟨(some 150),.p (.fa 1),[.t 3],none,[]⟩,
⟨(some 151),.r (.ld 1 false),[.t 150],none,[]⟩,
⟨(some 152),.p (.ia 1),[.t 149,.t 151],none,[]⟩,
⟨(some 153),.r (.ld 1 false),[.t 152],none,[]⟩,
⟨(some 154),.p (.bin .add),[.t 153,.c (.int .i64 1)],none,[]⟩,
⟨(some 155),.p (.ia 1),[.t 149,.t 151],none,[]⟩,
⟨none,.w (.st 1),[.t 155,.t 154],none,[]⟩] true []) (.skip)) (.seq (.region [
⟨(some 157),.p (.bin .eql),[.t 13,.c (.int .i64 4)],none,[]⟩,
⟨(some 156),.p .mv,[.t 157],none,[]⟩] false []) <|
 .cond (.t 156) (.seq (.region [
⟨(some 158),.p .mv,[.t 0],none,[]⟩,
⟨(some 159),.p .nilC,[.t 158],none,[]⟩,
⟨(some 160),.p (.fa 0),[.t 159],none,[]⟩,
⟨(some 161),.r (.ld 1 false),[.t 160],none,[]⟩,
⟨(some 162),.p (.fa 1),[.t 3],none,[]⟩,
⟨(some 163),.r (.ld 1 false),[.t 162],none,[]⟩,
⟨(some 164),.w .call,[.c (.fn 325 [] []),.t 161,.t 163],none,[]⟩,
⟨(some 165),.p (.bin .eql),[.t 164,.c (.int .i64 0)],none,[]⟩,
⟨(some 166),.p .mv,[.t 165],none,[]⟩,
⟨(some 167),.p (.fa 1),[.t 3],(some (166,true)),[]⟩,
⟨(some 168),.r (.ld 1 false),[.t 167],(some (166,true)),[]⟩,
⟨(some 169),.p (.bin .geq),[.t 168,.c (.int .i64 0)],(some (166,true)),[]⟩,
⟨(some 170),.p .pick,[.t 166,.t 169,.c (.bool false)],none,[]⟩,
⟨(some 171),.p .mv,[.t 170],none,[]⟩,
⟨(some 172),.p (.fa 1),[.t 3],(some (171,true)),[]⟩,
⟨(some 173),.r (.ld 1 false),[.t 172],(some (171,true)),[]⟩,
⟨(some 174),.p .mv,[.t 0],(some (171,true)),[]⟩,
⟨(some 175),.p .nilC,[.t 174],(some (171,true)),[]⟩,
⟨(some 176),.p (.fa 2),[.t 175],(some (171,true)),[]⟩,
⟨(some 177),.r (.ld 1 false),[.t 176],(some (171,true)),[]⟩,
⟨(some 178),.p .len,[.t 177],(some (171,true)),[]⟩,
⟨(some 179),.p (.bin .lss),[.t 173,.t 178],(some (171,true)),[]⟩,
⟨(some 180),.p .pick,[.t 171,.t 179,.c (.bool false)],none,[]⟩] true []) <|
 .cond (.t 180) (.region [
⟨(some 181),.p .mv,[.t 0],none,[]⟩,
⟨(some 182),.p .nilC,[.t 181],none,[]⟩,
⟨(some 183),.p (.fa 2),[.t 182],none,[]⟩,
⟨(some 184),.r (.ld 1 false),[.t 183],none,[]⟩,
⟨(some 185),.p (.fa 1),[.t 3],none,[]⟩,
⟨(some 186),.r (.ld 1 false),[.t 185],none,[]⟩,
⟨(some 187),.p (.ia 1),[.t 184,.t 186],none,[]⟩,
⟨(some 188),.r (.ld 1 false),[.t 187],none,[]⟩,
⟨(some 189),.p (.bin .sub),[.t 188,.c (.int .i64 1)],none,[]⟩,
⟨(some 190),.p (.ia 1),[.t 184,.t 186],none,[]⟩,
⟨none,.w (.st 1),[.t 190,.t 189],none,[]⟩] true []) (.skip)) (.seq (.region [
⟨(some 192),.p (.bin .eql),[.t 13,.c (.int .i64 5)],none,[]⟩,
⟨(some 191),.p .mv,[.t 192],none,[]⟩] false []) <|
 .cond (.t 191) (.seq (.region [
⟨(some 194),.p .mv,[.t 0],none,[]⟩,
⟨(some 195),.p .nilC,[.t 194],none,[]⟩,
⟨(some 196),.p (.fa 0),[.t 195],none,[]⟩,
⟨(some 197),.r (.ld 1 false),[.t 196],none,[]⟩,
⟨(some 198),.w .call,[.c (.fn 323 [] []),.t 197],none,[]⟩,
⟨(some 193),.p .mv,[.t 198],none,[]⟩,
⟨(some 199),.p (.ext 0),[.t 193],none,[]⟩,
⟨(some 200),.p (.ext 1),[.t 193],none,[]⟩,
⟨(some 8),.p .mv,[.t 199],none,[]⟩,
⟨(some 9),.p .mv,[.t 200],none,[]⟩] false []) <|
 .seq (.region [
⟨(some 201),.p .mv,[.t 9],none,[]⟩] false []) <|
 .cond (.t 201) (.seq (.seq (.region [
⟨(some 202),.p .mv,[.t 0],none,[]⟩,
⟨(some 203),.p .mv,[.t 8],none,[]⟩,
⟨(some 204),.w .call,[.c (.fn 536 [] []),.t 202,.t 203],none,[]⟩,
⟨(some 205),.p (.un .not),[.t 204],none,[]⟩] false []) <|
 .cond (.t 205) (.seq (.region [
⟨(some 4),.p .mv,[.c (.bool false)],none,[]⟩] false []) <|
 .ret) (.skip)) <|
 .region [
⟨(some 206),.p .mv,[.t 0],none,[]⟩,
⟨(some 207),.p .nilC,[.t 206],none,[]⟩,
⟨(some 208),.p (.fa 2),[.t 207],none,[]⟩,
⟨(some 209),.r (.ld 1 false),[.t 208],none,[]⟩,
⟨(some 210),.p .mv,[.t 8],none,[]⟩,
⟨(some 211),.p (.ia 1),[.t 209,.t 210],none,[]⟩,
⟨(some 212),.r (.ld 1 false),[.t 211],none,[]⟩,
⟨(some 213),.p (.bin .add),[.t 212,.c (.int .i64 1)],none,[]⟩,
⟨(some 214),.p (.ia 1),[.t 209,.t 210],none,[]⟩,
⟨none,.w (.st 1),[.t 214,.t 213],none,[]⟩] false []) (.skip)) (.seq (.region [
⟨(some 14),.p .mv,[.t 0],none,[]⟩,
⟨(some 15),.p .nilC,[.t 14],none,[]⟩,
⟨(some 16),.p (.fa 0),[.t 15],none,[]⟩,
⟨(some 17),.r (.ld 1 false),[.t 16],none,[]⟩,
⟨(some 18),.w .call,[.c (.fn 339 [] []),.t 17],none,[]⟩,
⟨(some 10),.p .mv,[.t 18],none,[]⟩] false []) <|
 .seq (.region [
⟨(some 11),.p .mv,[.c (.int .i64 0)],none,[]⟩] false []) <|
 .block 1 (.loop (.seq (.seq (.region [
⟨(some 19),.p .mv,[.t 11],none,[]⟩,
⟨(some 20),.p .mv,[.t 10],none,[]⟩,
⟨(some 21),.p .len,[.t 20],none,[]⟩,
⟨(some 22),.p (.bin .lss),[.t 19,.t 21],none,[]⟩] false []) <|
 .cond (.t 22) (.skip) (.exit 1)) <|
 .seq (.block 2 (.seq (.region [
⟨(some 25),.p .mv,[.t 0],none,[]⟩,
⟨(some 26),.p .mv,[.t 10],none,[]⟩,
⟨(some 27),.p .mv,[.t 11],none,[]⟩,
⟨(some 28),.p (.ia 1),[.t 26,.t 27],none,[]⟩,
⟨(some 29),.r (.ld 1 false),[.t 28],none,[]⟩,
⟨(some 30),.w .call,[.c (.fn 536 [] []),.t 25,.t 29],none,[]⟩,
⟨(some 31),.p (.un .not),[.t 30],none,[]⟩] false []) <|
 .cond (.t 31) (.seq (.region [
⟨(some 4),.p .mv,[.c (.bool false)],none,[]⟩] false []) <|
 .ret) (.skip))) <|
 .region [
⟨(some 23),.p .mv,[.t 11],none,[]⟩,
⟨(some 24),.p (.bin .add),[.t 23,.c (.int .i64 1)],none,[]⟩,
⟨(some 11),.p .mv,[.t 24],none,[]⟩] false [])))))))))) <|
 .seq (.region [
⟨(some 4),.p .mv,[.c (.bool true)],none,[]⟩] false []) <|
 .ret, [.tmp 4]⟩
structure D532 (T : Tab) : Prop where
  fn : T.fn 532 = some ir532
  pr : T.prim 532 = none
  d343 : D343 T
  d345 : D345 T
  d346 : D346 T
  d324 : D324 T
  d325 : D325 T
  d323 : D323 T
  d536 : D536 T
  d339 : D339 T
/-- (*motley/motleytop.keptCells).counted -/
def ir533 : AFunc := ⟨.seq (.region [
⟨(some 2),.p .mv,[.c (.bool false)],none,[]⟩] false []) <|
 .seq (.region [
⟨(some 15),.p .mv,[.t 0],none,[]⟩,
⟨(some 16),.p .nilC,[.t 15],none,[]⟩,
⟨(some 17),.p (.fa 2),[.t 16],none,[]⟩,
⟨(some 18),.r (.ld 1 false),[.t 17],none,[]⟩,
⟨(some 19),.w (.app 1 8),[.c (.slc none 0 0 none),.t 18],none,[]⟩,
⟨(some 3),.p .mv,[.t 19],none,[]⟩] false []) <|
 .seq (.seq (.region [
⟨(some 4),.p .mv,[.c (.int .i64 0)],none,[]⟩] false []) <|
 .block 0 (.loop (.seq (.seq (.region [
⟨(some 20),.p .mv,[.t 4],none,[]⟩,
⟨(some 21),.p .mv,[.t 0],none,[]⟩,
⟨(some 22),.p .nilC,[.t 21],none,[]⟩,
⟨(some 23),.p (.fa 1),[.t 22],none,[]⟩,
⟨(some 24),.r (.ld 1 false),[.t 23],none,[]⟩,
⟨(some 25),.p .len,[.t 24],none,[]⟩,
⟨(some 26),.p (.bin .lss),[.t 20,.t 25],none,[]⟩] false []) <|
 .cond (.t 26) (.skip) (.exit 0)) <|
 .seq (.block 1 (.seq (.seq (.region [
⟨(some 30),.p .mv,[.t 0],none,[]⟩,
⟨(some 31),.p .nilC,[.t 30],none,[]⟩,
⟨(some 32),.p (.fa 0),[.t 31],none,[]⟩,
⟨(some 33),.r (.ld 1 false),[.t 32],none,[]⟩,
⟨(some 34),.p .mv,[.t 4],none,[]⟩,
⟨(some 35),.w .call,[.c (.fn 340 [] []),.t 33,.t 34],none,[]⟩,
⟨(some 29),.p .mv,[.t 35],none,[]⟩,
⟨(some 36),.p (.ext 0),[.t 29],none,[]⟩,
⟨(some 37),.p (.ext 1),[.t 29],none,[]⟩,
⟨(some 5),.p .mv,[.t 36],none,[]⟩,
⟨(some 6),.p .mv,[.t 37],none,[]⟩] false []) <|
 .seq (.region [
⟨(some 38),.p .mv,[.t 6],none,[]⟩,
⟨(some 39),.p (.bin .neq),[.t 38,.c (.int .i64 0)],none,[]⟩,
⟨(some 40),.p .mv,[.t 39],none,[]⟩,
⟨(some 41),.p .mv,[.t 5],(some (40,false)),[]⟩,
⟨(some 42),.p (.bin .eql),[.t 41,.c (.int .i64 2)],(some (40,false)),[]⟩,
⟨(some 43),.p .pick,[.t 40,.c (.bool true),.t 42],none,[]⟩] false []) <|
 .cond (.t 43) (.exit 1) (.skip)) <|
 .seq (.region [
⟨(some 7),.p .mv,[.c (.int .i64 0)],none,[]⟩] false []) <|
 .block 2 (.loop (.seq (.seq (.region [
⟨(some 44),.p .mv,[.t 7],none,[]⟩,
⟨(some 45),.p .mv,[.t 0],none,[]⟩,
⟨(some 46),.p .nilC,[.t 45],none,[]⟩,
⟨(some 47),.p (.fa 1),[.t 46],none,[]⟩,
⟨(some 48),.r (.ld 1 false),[.t 47],none,[]⟩,
⟨(some 49),.p .mv,[.t 4],none,[]⟩,
⟨(some 50),.p (.ia 1),[.t 48,.t 49],none,[]⟩,
⟨(some 51),.r (.ld 1 false),[.t 50],none,[]⟩,
⟨(some 52),.p (.bin .lss),[.t 44,.t 51],none,[]⟩] false []) <|
 .cond (.t 52) (.skip) (.exit 2)) <|
 .seq (.block 3 (.seq (.region [
⟨(some 56),.p .mv,[.t 0],none,[]⟩,
⟨(some 57),.p .nilC,[.t 56],none,[]⟩,
⟨(some 58),.p (.fa 0),[.t 57],none,[]⟩,
⟨(some 59),.r (.ld 1 false),[.t 58],none,[]⟩,
⟨(some 60),.p .mv,[.t 4],none,[]⟩,
⟨(some 61),.p .mv,[.t 7],none,[]⟩,
⟨(some 62),.w .call,[.c (.fn 344 [] []),.t 59,.t 60,.t 61],none,[]⟩,
⟨(some 55),.p .mv,[.t 62],none,[]⟩,
⟨(some 63),.p (.ext 0),[.t 55],none,[]⟩,
⟨(some 64),.p (.ext 1),[.t 55],none,[]⟩,
⟨(some 65),.p (.ext 2),[.t 55],none,[]⟩,
⟨(some 66),.p (.ext 3),[.t 55],none,[]⟩,
⟨(some 8),.p .mv,[.t 63],none,[]⟩,
⟨(some 9),.p .mv,[.t 64],none,[]⟩,
⟨(some 10),.p .mv,[.t 65],none,[]⟩,
⟨(some 11),.p .mv,[.t 66],none,[]⟩] false []) <|
 .seq (.seq (.region [
⟨(some 67),.p .mv,[.t 11],none,[]⟩,
⟨(some 68),.p (.bin .neq),[.t 67,.c (.int .i64 0)],none,[]⟩,
⟨(some 69),.p .mv,[.t 68],none,[]⟩,
⟨(some 70),.p .mv,[.t 9],(some (69,false)),[]⟩,
⟨(some 71),.p .mv,[.t 70],(some (69,false)),[]⟩,
⟨(some 72),.p .mv,[.t 8],(some (71,true)),[]⟩,
⟨(some 73),.p (.bin .lss),[.t 72,.c (.int .i64 0)],(some (71,true)),[]⟩,
⟨(some 74),.p .mv,[.t 73],(some (71,true)),[]⟩,
⟨(some 75),.p .mv,[.t 8],(some (74,false)),[]⟩,
⟨(some 76),.p .mv,[.t 3],(some (74,false)),[]⟩,
⟨(some 77),.p .len,[.t 76],(some (74,false)),[]⟩,
⟨(some 78),.p (.bin .geq),[.t 75,.t 77],(some (74,false)),[]⟩,
⟨(some 79),.p .pick,[.t 74,.c (.bool true),.t 78],(some (71,true)),[]⟩,
⟨(some 80),.p .pick,[.t 71,.t 79,.c (.bool false)],(some (69,false)),[]⟩,
⟨(some 81),.p .pick,[.t 69,.c (.bool true),.t 80],none,[]⟩] false []) <|
 .cond (.t 81) (.seq (.region [
⟨(some 2),.p .mv,[.c (.bool false)],none,[]⟩] false []) <|
 .ret) (.skip)) <|
 .seq (.region [
⟨(some 82),.p .mv,[.t 9],none,[]⟩,
⟨(some 83),.p .mv,[.t 82],none,[]⟩,
⟨(some 84),.p .mv,[.t 10],(some (83,true)),[]⟩,
⟨(some 85),.p (.un .not),[.t 84],(some (83,true)),[]⟩,
⟨(some 86),.p .pick,[.t 83,.t 85,.c (.bool false)],none,[]⟩] false []) <|
 .cond (.t 86) (.region [
⟨(some 87),.p .mv,[.t 3],none,[]⟩,
⟨(some 88),.p .mv,[.t 8],none,[]⟩,
⟨(some 89),.p (.ia 1),[.t 87,.t 88],none,[]⟩,
⟨(some 90),.r (.ld 1 false),[.t 89],none,[]⟩,
⟨(some 91),.p (.bin .add),[.t 90,.c (.int .i64 1)],none,[]⟩,
⟨(some 92),.p (.ia 1),[.t 87,.t 88],none,[]⟩,
⟨none,.w (.st 1),[.t 92,.t 91],none,[]⟩] false []) (.skip))) <|
 .region [
⟨(some 53),.p .mv,[.t 7],none,[]⟩,
⟨(some 54),.p (.bin .add),[.t 53,.c (.int .i64 1)],none,[]⟩,
⟨(some 7),.p .mv,[.t 54],none,[]⟩] false [])))) <|
 .region [
⟨(some 27),.p .mv,[.t 4],none,[]⟩,
⟨(some 28),.p (.bin .add),[.t 27,.c (.int .i64 1)],none,[]⟩,
⟨(some 4),.p .mv,[.t 28],none,[]⟩] false []))) <|
 .seq (.seq (.region [
⟨(some 12),.p .mv,[.c (.int .i64 0)],none,[]⟩] false []) <|
 .block 4 (.loop (.seq (.seq (.region [
⟨(some 93),.p .mv,[.t 12],none,[]⟩,
⟨(some 94),.p .mv,[.t 3],none,[]⟩,
⟨(some 95),.p .len,[.t 94],none,[]⟩,
⟨(some 96),.p (.bin .lss),[.t 93,.t 95],none,[]⟩] false []) <|
 .cond (.t 96) (.skip) (.exit 4)) <|
 .seq (.block 5 (.seq (.region [
⟨(some 100),.p .mv,[.t 0],none,[]⟩,
⟨(some 101),.p .nilC,[.t 100],none,[]⟩,
⟨(some 102),.p (.fa 0),[.t 101],none,[]⟩,
⟨(some 103),.r (.ld 1 false),[.t 102],none,[]⟩,
⟨(some 104),.p .mv,[.t 12],none,[]⟩,
⟨(some 105),.w .call,[.c (.fn 341 [] []),.t 103,.t 104],none,[]⟩,
⟨(some 99),.p .mv,[.t 105],none,[]⟩,
⟨(some 106),.p (.ext 0),[.t 99],none,[]⟩,
⟨(some 107),.p (.ext 1),[.t 99],none,[]⟩,
⟨(some 13),.p .mv,[.t 106],none,[]⟩,
⟨(some 14),.p .mv,[.t 107],none,[]⟩] false []) <|
 .seq (.region [
⟨(some 108),.p .mv,[.t 14],none,[]⟩,
⟨(some 109),.p (.bin .neq),[.t 108,.c (.int .i64 0)],none,[]⟩,
⟨(some 110),.p .mv,[.t 109],none,[]⟩,
⟨(some 111),.p .mv,[.t 13],(some (110,false)),[]⟩,
⟨(some 112),.p .mv,[.t 3],(some (110,false)),[]⟩,
⟨(some 113),.p .mv,[.t 12],(some (110,false)),[]⟩,
⟨(some 114),.p (.ia 1),[.t 112,.t 113],(some (110,false)),[]⟩,
⟨(some 115),.r (.ld 1 false),[.t 114],(some (110,false)),[]⟩,
⟨(some 116),.p (.bin .neq),[.t 111,.t 115],(some (110,false)),[]⟩,
⟨(some 117),.p .pick,[.t 110,.c (.bool true),.t 116],none,[]⟩] false []) <|
 .cond (.t 117) (.seq (.region [
⟨(some 2),.p .mv,[.c (.bool false)],none,[]⟩] false []) <|
 .ret) (.skip))) <|
 .region [
⟨(some 97),.p .mv,[.t 12],none,[]⟩,
⟨(some 98),.p (.bin .add),[.t 97,.c (.int .i64 1)],none,[]⟩,
⟨(some 12),.p .mv,[.t 98],none,[]⟩] false []))) <|
 .seq (.region [
⟨(some 2),.p .mv,[.c (.bool true)],none,[]⟩] false []) <|
 .ret, [.tmp 2]⟩
structure D533 (T : Tab) : Prop where
  fn : T.fn 533 = some ir533
  pr : T.prim 533 = none
  d340 : D340 T
  d344 : D344 T
  d341 : D341 T
/-- (*motley/motleytop.keptCells).onCycles -/
def ir534 : AFunc := ⟨.seq (.region [
⟨(some 4),.p .mv,[.c (.slc none 0 0 none)],none,[]⟩] false []) <|
 .seq (.region [
⟨(some 17),.p .mv,[.t 0],none,[]⟩,
⟨(some 18),.p .nilC,[.t 17],none,[]⟩,
⟨(some 19),.p (.fa 1),[.t 18],none,[]⟩,
⟨(some 20),.r (.ld 1 false),[.t 19],none,[]⟩,
⟨(some 21),.p .len,[.t 20],none,[]⟩,
⟨(some 22),.w (.mks 1 [(.bool false)]),[.t 21,.t 21],none,[]⟩,
⟨(some 5),.p .mv,[.t 22],none,[]⟩] false []) <|
 .seq (.region [
⟨(some 23),.p .mv,[.t 0],none,[]⟩,
⟨(some 24),.p .nilC,[.t 23],none,[]⟩,
⟨(some 25),.p (.fa 0),[.t 24],none,[]⟩,
⟨(some 26),.r (.ld 1 false),[.t 25],none,[]⟩,
⟨(some 27),.w .call,[.c (.fn 337 [] []),.t 26],none,[]⟩,
⟨(some 6),.p .mv,[.t 27],none,[]⟩] false []) <|
 .seq (.seq (.region [
⟨(some 7),.p .mv,[.c (.int .i64 0)],none,[]⟩] false []) <|
 .block 0 (.loop (.seq (.seq (.region [
⟨(some 28),.p .mv,[.t 7],none,[]⟩,
⟨(some 29),.p .mv,[.t 6],none,[]⟩,
⟨(some 30),.p .len,[.t 29],none,[]⟩,
⟨(some 31),.p (.bin .lss),[.t 28,.t 30],none,[]⟩] false []) <|
 .cond (.t 31) (.skip) (.exit 0)) <|
 .seq (.block 1 (.seq (.region [
⟨(some 8),.p .mv,[.c (.int .i64 0)],none,[]⟩] false []) <|
 .block 2 (.loop (.seq (.seq (.region [
⟨(some 34),.p .mv,[.t 8],none,[]⟩,
⟨(some 35),.p .mv,[.t 6],none,[]⟩,
⟨(some 36),.p .mv,[.t 7],none,[]⟩,
⟨(some 37),.p (.ia 1),[.t 35,.t 36],none,[]⟩,
⟨(some 38),.r (.ld 1 false),[.t 37],none,[]⟩,
⟨(some 39),.p .len,[.t 38],none,[]⟩,
⟨(some 40),.p (.bin .lss),[.t 34,.t 39],none,[]⟩] false []) <|
 .cond (.t 40) (.skip) (.exit 2)) <|
 .seq (.block 3 (.seq (.region [
⟨(some 43),.p .mv,[.t 6],none,[]⟩,
⟨(some 44),.p .mv,[.t 7],none,[]⟩,
⟨(some 45),.p (.ia 1),[.t 43,.t 44],none,[]⟩,
⟨(some 46),.r (.ld 1 false),[.t 45],none,[]⟩,
⟨(some 47),.p .mv,[.t 8],none,[]⟩,
⟨(some 48),.p (.ia 1),[.t 46,.t 47],none,[]⟩,
⟨(some 49),.r (.ld 1 false),[.t 48],none,[]⟩,
⟨(some 9),.p .mv,[.t 49],none,[]⟩] false []) <|
 .seq (.region [
⟨(some 50),.p .mv,[.t 9],none,[]⟩,
⟨(some 51),.p (.bin .geq),[.t 50,.c (.int .i64 0)],none,[]⟩,
⟨(some 52),.p .mv,[.t 51],none,[]⟩,
⟨(some 53),.p .mv,[.t 9],(some (52,true)),[]⟩,
⟨(some 54),.p .mv,[.t 5],(some (52,true)),[]⟩,
⟨(some 55),.p .len,[.t 54],(some (52,true)),[]⟩,
⟨(some 56),.p (.bin .lss),[.t 53,.t 55],(some (52,true)),[]⟩,
⟨(some 57),.p .pick,[.t 52,.t 56,.c (.bool false)],none,[]⟩,
⟨(some 58),.p .mv,[.t 57],none,[]⟩,
⟨(some 59),.p .mv,[.t 1],(some (58,true)),[]⟩,
⟨(some 60),.p .mv,[.t 9],(some (58,true)),[]⟩,
⟨(some 61),.p (.ia 1),[.t 59,.t 60],(some (58,true)),[]⟩,
⟨(some 62),.r (.ld 1 false),[.t 61],(some (58,true)),[]⟩,
⟨(some 63),.p .pick,[.t 58,.t 62,.c (.bool false)],none,[]⟩] false []) <|
 .cond (.t 63) (.region [
⟨(some 64),.p .mv,[.t 5],none,[]⟩,
⟨(some 65),.p .mv,[.t 9],none,[]⟩,
⟨(some 66),.p (.ia 1),[.t 64,.t 65],none,[]⟩,
⟨none,.w (.st 1),[.t 66,.c (.bool true)],none,[]⟩] false []) (.skip))) <|
 .region [
⟨(some 41),.p .mv,[.t 8],none,[]⟩,
⟨(some 42),.p (.bin .add),[.t 41,.c (.int .i64 1)],none,[]⟩,
⟨(some 8),.p .mv,[.t 42],none,[]⟩] false [])))) <|
 .region [
⟨(some 32),.p .mv,[.t 7],none,[]⟩,
⟨(some 33),.p (.bin .add),[.t 32,.c (.int .i64 1)],none,[]⟩,
⟨(some 7),.p .mv,[.t 33],none,[]⟩] false []))) <|
 .seq (.seq (.region [
⟨(some 10),.p .mv,[.c (.int .i64 0)],none,[]⟩] false []) <|
 .block 4 (.loop (.seq (.seq (.region [
⟨(some 67),.p .mv,[.t 10],none,[]⟩,
⟨(some 68),.p .mv,[.t 5],none,[]⟩,
⟨(some 69),.p .len,[.t 68],none,[]⟩,
⟨(some 70),.p (.bin .lss),[.t 67,.t 69],none,[]⟩] false []) <|
 .cond (.t 70) (.skip) (.exit 4)) <|
 .seq (.block 5 (.seq (.region [
⟨(some 11),.p .mv,[.c (.int .i64 0)],none,[]⟩] false []) <|
 .block 6 (.loop (.seq (.seq (.region [
⟨(some 73),.p .mv,[.t 11],none,[]⟩,
⟨(some 74),.p .mv,[.t 5],none,[]⟩,
⟨(some 75),.p .len,[.t 74],none,[]⟩,
⟨(some 76),.p (.bin .lss),[.t 73,.t 75],none,[]⟩] false []) <|
 .cond (.t 76) (.skip) (.exit 6)) <|
 .seq (.block 7 (.seq (.region [
⟨(some 12),.p .mv,[.c (.int .i64 0)],none,[]⟩] false []) <|
 .block 8 (.loop (.seq (.seq (.region [
⟨(some 79),.p .mv,[.t 5],none,[]⟩,
⟨(some 80),.p .mv,[.t 11],none,[]⟩,
⟨(some 81),.p (.ia 1),[.t 79,.t 80],none,[]⟩,
⟨(some 82),.r (.ld 1 false),[.t 81],none,[]⟩,
⟨(some 83),.p .mv,[.t 82],none,[]⟩,
⟨(some 84),.p .mv,[.t 12],(some (83,true)),[]⟩,
⟨(some 85),.p .mv,[.t 0],(some (83,true)),[]⟩,
⟨(some 86),.p .nilC,[.t 85],(some (83,true)),[]⟩,
⟨(some 87),.p (.fa 1),[.t 86],(some (83,true)),[]⟩,
⟨(some 88),.r (.ld 1 false),[.t 87],(some (83,true)),[]⟩,
⟨(some 89),.p .mv,[.t 11],(some (83,true)),[]⟩,
⟨(some 90),.p (.ia 1),[.t 88,.t 89],(some (83,true)),[]⟩,
⟨(some 91),.r (.ld 1 false),[.t 90],(some (83,true)),[]⟩,
⟨(some 92),.p (.bin .lss),[.t 84,.t 91],(some (83,true)),[]⟩,
⟨(some 93),.p .pick,[.t 83,.t 92,.c (.bool false)],none,[]⟩] false []) <|
 .cond (.t 93) (.skip) (.exit 8)) <|
 .seq (.block 9 (.seq (.region [
⟨(some 97),.p .mv,[.t 0],none,[]⟩,
⟨(some 98),.p .nilC,[.t 97],none,[]⟩,
⟨(some 99),.p (.fa 0),[.t 98],none,[]⟩,
⟨(some 100),.r (.ld 1 false),[.t 99],none,[]⟩,
⟨(some 101),.p .mv,[.t 11],none,[]⟩,
⟨(some 102),.p .mv,[.t 12],none,[]⟩,
⟨(some 103),.w .call,[.c (.fn 344 [] []),.t 100,.t 101,.t 102],none,[]⟩,
⟨(some 96),.p .mv,[.t 103],none,[]⟩,
⟨(some 104),.p (.ext 0),[.t 96],none,[]⟩,
⟨(some 105),.p (.ext 1),[.t 96],none,[]⟩,
⟨(some 106),.p (.ext 2),[.t 96],none,[]⟩,
⟨(some 107),.p (.ext 3),[.t 96],none,[]⟩,
⟨(some 13),.p .mv,[.t 104],none,[]⟩,
⟨(some 14),.p .mv,[.t 105],none,[]⟩,
⟨(some 15),.p .mv,[.t 106],none,[]⟩,
⟨(some 16),.p .mv,[.t 107],none,[]⟩] false []) <|
 .seq (.region [
⟨(some 108),.p .mv,[.t 16],none,[]⟩,
⟨(some 109),.p (.bin .eql),[.t 108,.c (.int .i64 0)],none,[]⟩,
⟨(some 110),.p .mv,[.t 109],none,[]⟩,
⟨(some 111),.p .mv,[.t 14],(some (110,true)),[]⟩,
⟨(some 112),.p .pick,[.t 110,.t 111,.c (.bool false)],none,[]⟩,
⟨(some 113),.p .mv,[.t 112],none,[]⟩,
⟨(some 114),.p .mv,[.t 15],(some (113,true)),[]⟩,
⟨(some 115),.p (.un .not),[.t 114],(some (113,true)),[]⟩,
⟨(some 116),.p .pick,[.t 113,.t 115,.c (.bool false)],none,[]⟩,
⟨(some 117),.p .mv,[.t 116],none,[]⟩,
⟨(some 118),.p .mv,[.t 13],(some (117,true)),[]⟩,
⟨(some 119),.p (.bin .geq),[.t 118,.c (.int .i64 0)],(some (117,true)),[]⟩,
⟨(some 120),.p .pick,[.t 117,.t 119,.c (.bool false)],none,[]⟩,
⟨(some 121),.p .mv,[.t 120],none,[]⟩,
⟨(some 122),.p .mv,[.t 13],(some (121,true)),[]⟩,
⟨(some 123),.p .mv,[.t 5],(some (121,true)),[]⟩,
⟨(some 124),.p .len,[.t 123],(some (121,true)),[]⟩,
⟨(some 125),.p (.bin .lss),[.t 122,.t 124],(some (121,true)),[]⟩,
⟨(some 126),.p .pick,[.t 121,.t 125,.c (.bool false)],none,[]⟩] false []) <|
 .cond (.t 126) (.region [
⟨(some 127),.p .mv,[.t 5],none,[]⟩,
⟨(some 128),.p .mv,[.t 13],none,[]⟩,
⟨(some 129),.p (.ia 1),[.t 127,.t 128],none,[]⟩,
⟨none,.w (.st 1),[.t 129,.c (.bool true)],none,[]⟩] false []) (.skip))) <|
 .region [
⟨(some 94),.p .mv,[.t 12],none,[]⟩,
⟨(some 95),.p (.bin .add),[.t 94,.c (.int .i64 1)],none,[]⟩,
⟨(some 12),.p .mv,[.t 95],none,[]⟩] false [])))) <|
 .region [
⟨(some 77),.p .mv,[.t 11],none,[]⟩,
⟨(some 78),.p (.bin .add),[.t 77,.c (.int .i64 1)],none,[]⟩,
⟨(some 11),.p .mv,[.t 78],none,[]⟩] false [])))) <|
 .region [
⟨(some 71),.p .mv,[.t 10],none,[]⟩,
⟨(some 72),.p (.bin .add),[.t 71,.c (.int .i64 1)],none,[]⟩,
⟨(some 10),.p .mv,[.t 72],none,[]⟩] false []))) <|
 .seq (.region [
⟨(some 130),.p .mv,[.t 5],none,[]⟩,
⟨(some 4),.p .mv,[.t 130],none,[]⟩] false []) <|
 .ret, [.tmp 4]⟩
structure D534 (T : Tab) : Prop where
  fn : T.fn 534 = some ir534
  pr : T.prim 534 = none
  d337 : D337 T
  d344 : D344 T
/-- motley/motleytop.heapAwake -/
def ir535 : AFunc := ⟨.seq (.region [
⟨(some 0),.p .mv,[.c (.bool false)],none,[]⟩] false []) <|
 .seq (.region [
⟨(some 9),.w .call,[.c (.fn 320 [] [])],none,[]⟩,
⟨(some 1),.p .mv,[.t 9],none,[]⟩] false []) <|
 .seq (.seq (.region [
⟨(some 10),.p .mv,[.t 1],none,[]⟩,
⟨(some 11),.p (.isNil .ptr false),[.t 10],none,[]⟩] false []) <|
 .cond (.t 11) (.seq (.region [
⟨(some 0),.p .mv,[.c (.bool false)],none,[]⟩] false []) <|
 .ret) (.skip)) <|
 .seq (.region [
⟨(some 13),.p .mv,[.t 1],none,[]⟩,
⟨(some 14),.w .call,[.c (.fn 343 [] []),.t 13,.c (.int .i64 1),.c (.bool true)],none,[]⟩,
⟨(some 12),.p .mv,[.t 14],none,[]⟩,
⟨(some 15),.p (.ext 0),[.t 12],none,[]⟩,
⟨(some 16),.p (.ext 1),[.t 12],none,[]⟩,
⟨(some 2),.p .mv,[.t 15],none,[]⟩,
⟨(some 3),.p .mv,[.t 16],none,[]⟩] false []) <|
 .seq (.region [
⟨(some 17),.p .mv,[.t 1],none,[]⟩,
⟨(some 18),.p .mv,[.t 2],none,[]⟩,
⟨(some 19),.w .call,[.c (.fn 324 [] []),.t 17,.t 18],none,[]⟩,
⟨(some 4),.p .mv,[.t 19],none,[]⟩] false []) <|
 .seq (.region [
⟨(some 21),.p .mv,[.t 1],none,[]⟩,
⟨(some 22),.p .mv,[.t 2],none,[]⟩,
⟨(some 23),.w .call,[.c (.fn 341 [] []),.t 21,.t 22],none,[]⟩,
⟨(some 20),.p .mv,[.t 23],none,[]⟩,
⟨(some 24),.p (.ext 0),[.t 20],none,[]⟩,
⟨(some 25),.p (.ext 1),[.t 20],none,[]⟩,
⟨(some 5),.p .mv,[.t 24],none,[]⟩,
⟨(some 6),.p .mv,[.t 25],none,[]⟩] false []) <|
 .seq (.region [
⟨(some 26),.p .mv,[.t 1],none,[]⟩,
⟨(some 27),.p .mv,[.t 2],none,[]⟩,
⟨(some 28),.w .call,[.c (.fn 325 [] []),.t 26,.t 27],none,[]⟩,
⟨(some 7),.p .mv,[.t 28],none,[]⟩] false []) <|
 .seq (.region [
⟨(some 29),.p .mv,[.t 1],none,[]⟩,
⟨(some 30),.w .call,[.c (.fn 339 [] []),.t 29],none,[]⟩,
⟨(some 8),.p .mv,[.t 30],none,[]⟩] false []) <|
 .seq (.region [
⟨(some 31),.p .mv,[.t 3],none,[]⟩,
⟨(some 32),.p (.bin .eql),[.t 31,.c (.int .i64 0)],none,[]⟩,
⟨(some 33),.p .mv,[.t 32],none,[]⟩,
⟨(some 34),.p .mv,[.t 4],(some (33,true)),[]⟩,
⟨(some 35),.p (.bin .eql),[.t 34,.c (.int .i64 0)],(some (33,true)),[]⟩,
⟨(some 36),.p .pick,[.t 33,.t 35,.c (.bool false)],none,[]⟩,
⟨(some 37),.p .mv,[.t 36],none,[]⟩,
⟨(some 38),.p .mv,[.t 6],(some (37,true)),[]⟩,
⟨(some 39),.p (.bin .eql),[.t 38,.c (.int .i64 0)],(some (37,true)),[]⟩,
⟨(some 40),.p .pick,[.t 37,.t 39,.c (.bool false)],none,[]⟩,
⟨(some 41),.p .mv,[.t 40],none,[]⟩,
⟨(some 42),.p .mv,[.t 5],(some (41,true)),[]⟩,
⟨(some 43),.p (.bin .eql),[.t 42,.c (.int .i64 1)],(some (41,true)),[]⟩,
⟨(some 44),.p .pick,[.t 41,.t 43,.c (.bool false)],none,[]⟩,
⟨(some 45),.p .mv,[.t 44],none,[]⟩,
⟨(some 46),.p .mv,[.t 7],(some (45,true)),[]⟩,
⟨(some 47),.p (.bin .eql),[.t 46,.c (.int .i64 0)],(some (45,true)),[]⟩,
⟨(some 48),.p .pick,[.t 45,.t 47,.c (.bool false)],none,[]⟩,
⟨(some 49),.p .mv,[.t 48],none,[]⟩,
⟨(some 50),.p .mv,[.t 8],(some (49,true)),[]⟩,
⟨(some 51),.p .len,[.t 50],(some (49,true)),[]⟩,
⟨(some 52),.p (.bin .eql),[.t 51,.c (.int .i64 1)],(some (49,true)),[]⟩,
⟨(some 53),.p .pick,[.t 49,.t 52,.c (.bool false)],none,[]⟩,
⟨(some 54),.p .mv,[.t 53],none,[]⟩,
⟨(some 55),.p .mv,[.t 8],(some (54,true)),[]⟩,
⟨(some 56),.p (.ia 1),[.t 55,.c (.int .i64 0)],(some (54,true)),[]⟩,
⟨(some 57),.r (.ld 1 false),[.t 56],(some (54,true)),[]⟩,
⟨(some 58),.p .mv,[.t 2],(some (54,true)),[]⟩,
⟨(some 59),.p (.bin .eql),[.t 57,.t 58],(some (54,true)),[]⟩,
⟨(some 60),.p .pick,[.t 54,.t 59,.c (.bool false)],none,[]⟩,
⟨(some 0),.p .mv,[.t 60],none,[]⟩] false []) <|
 .ret, [.tmp 0]⟩
structure D535 (T : Tab) : Prop where
  fn : T.fn 535 = some ir535
  pr : T.prim 535 = none
  d320 : D320 T
  d343 : D343 T
  d324 : D324 T
  d341 : D341 T
  d325 : D325 T
  d339 : D339 T
/-- motley/motleytop.TopCounts -/
def ir531 : AFunc := ⟨.seq (.region [
⟨(some 2),.p .mv,[.c (.bool false)],none,[]⟩] false []) <|
 .seq (.region [
⟨(some 19),.w .call,[.c (.fn 320 [] [])],none,[]⟩,
⟨(some 3),.p .mv,[.t 19],none,[]⟩] false []) <|
 .seq (.seq (.region [
⟨(some 20),.p .mv,[.t 3],none,[]⟩,
⟨(some 21),.p (.isNil .ptr false),[.t 20],none,[]⟩] false []) <|
 .cond (.t 21) (.seq (.region [
⟨(some 2),.p .mv,[.c (.bool false)],none,[]⟩] false []) <|
 .ret) (.skip)) <|
 .seq (.region [
⟨(some 22),.p .mv,[.t 3],none,[]⟩,
⟨(some 23),.p (.bld [(.ptr none),(.slc none 0 0 none),(.slc none 0 0 none),(.slc none 0 0 none)] [(0,1)]),[.t 22],none,[]⟩,
⟨(some 24),.w .box,[.t 23],none,[]⟩,
⟨(some 4),.p .mv,[.t 24],none,[]⟩] false []) <|
 .seq (.seq (.region [
⟨(some 5),.p .mv,[.c (.int .i64 0)],none,[]⟩] false []) <|
 .block 0 (.loop (.seq (.seq (.region [
⟨(some 25),.p .mv,[.t 5],none,[]⟩,
⟨(some 26),.p .mv,[.t 0],none,[]⟩,
⟨(some 27),.p .len,[.t 26],none,[]⟩,
⟨(some 28),.p (.bin .lss),[.t 25,.t 27],none,[]⟩,
⟨(some 29),.p .mv,[.t 28],none,[]⟩,
⟨(some 30),.p .mv,[.t 5],(some (29,true)),[]⟩,
⟨(some 31),.p (.bin .lss),[.t 30,.c (.int .i64 80)],(some (29,true)),[]⟩,
⟨(some 32),.p .pick,[.t 29,.t 31,.c (.bool false)],none,[]⟩] false []) <|
 .cond (.t 32) (.skip) (.exit 0)) <|
 .seq (.block 1 (.seq (.region [
⟨(some 35),.p .mv,[.t 4],none,[]⟩,
⟨(some 36),.p .mv,[.t 0],none,[]⟩,
⟨(some 37),.p .mv,[.t 5],none,[]⟩,
⟨(some 38),.p (.ia 5),[.t 36,.t 37],none,[]⟩,
⟨(some 39),.r (.ld 5 true),[.t 38],none,[]⟩,
⟨(some 40),.w .call,[.c (.fn 532 [] []),.t 35,.t 39],none,[]⟩,
⟨(some 41),.p (.un .not),[.t 40],none,[]⟩,
⟨(some 42),.p .mv,[.t 41],none,[]⟩,
⟨(some 43),.p .mv,[.t 4],(some (42,false)),[]⟩,
⟨(some 44),.w .call,[.c (.fn 533 [] []),.t 43],(some (42,false)),[]⟩,
⟨(some 45),.p (.un .not),[.t 44],(some (42,false)),[]⟩,
⟨(some 46),.p .pick,[.t 42,.c (.bool true),.t 45],none,[]⟩] false []) <|
 .cond (.t 46) (.seq (.region [
⟨(some 2),.p .mv,[.c (.bool false)],none,[]⟩] false []) <|
 .ret) (.skip))) <|
 .region [
⟨(some 33),.p .mv,[.t 5],none,[]⟩,
⟨(some 34),.p (.bin .add),[.t 33,.c (.int .i64 1)],none,[]⟩,
⟨(some 5),.p .mv,[.t 34],none,[]⟩] false []))) <|
 .seq (.seq (.region [
⟨(some 47),.p .mv,[.t 4],none,[]⟩,
⟨(some 48),.p (.bld [(.int .i64 0),(.int .i64 0),(.int .i64 0),(.int .i64 0),(.str [])] [(0,1)]),[.c (.int .i64 6)],none,[]⟩,
⟨(some 49),.w .call,[.c (.fn 532 [] []),.t 47,.t 48],none,[]⟩,
⟨(some 50),.p (.un .not),[.t 49],none,[]⟩,
⟨(some 51),.p .mv,[.t 50],none,[]⟩,
⟨(some 52),.p .mv,[.t 4],(some (51,false)),[]⟩,
⟨(some 53),.w .call,[.c (.fn 533 [] []),.t 52],(some (51,false)),[]⟩,
⟨(some 54),.p (.un .not),[.t 53],(some (51,false)),[]⟩,
⟨(some 55),.p .pick,[.t 51,.c (.bool true),.t 54],none,[]⟩] false []) <|
 .cond (.t 55) (.seq (.region [
⟨(some 2),.p .mv,[.c (.bool false)],none,[]⟩] false []) <|
 .ret) (.skip)) <|
 .seq (.region [
⟨(some 56),.p .mv,[.t 4],none,[]⟩,
⟨(some 57),.p .nilC,[.t 56],none,[]⟩,
⟨(some 58),.p (.fa 1),[.t 57],none,[]⟩,
⟨(some 59),.r (.ld 1 false),[.t 58],none,[]⟩,
⟨(some 60),.p .len,[.t 59],none,[]⟩,
⟨(some 61),.w (.mks 1 [(.bool false)]),[.t 60,.t 60],none,[]⟩,
⟨(some 6),.p .mv,[.t 61],none,[]⟩] false []) <|
 .seq (.region [
⟨(some 62),.p .mv,[.t 3],none,[]⟩,
⟨(some 63),.w .call,[.c (.fn 334 [] []),.t 62],none,[]⟩,
⟨(some 7),.p .mv,[.t 63],none,[]⟩] false []) <|
 .seq (.seq (.region [
⟨(some 8),.p .mv,[.c (.int .i64 0)],none,[]⟩] false []) <|
 .block 2 (.loop (.seq (.seq (.region [
⟨(some 64),.p .mv,[.t 8],none,[]⟩,
⟨(some 65),.p .mv,[.t 7],none,[]⟩,
⟨(some 66),.p .len,[.t 65],none,[]⟩,
⟨(some 67),.p (.bin .lss),[.t 64,.t 66],none,[]⟩] false []) <|
 .cond (.t 67) (.skip) (.exit 2)) <|
 .seq (.block 3 (.seq (.seq (.region [
⟨(some 70),.p .mv,[.t 7],none,[]⟩,
⟨(some 71),.p .mv,[.t 8],none,[]⟩,
⟨(some 72),.p (.ia 1),[.t 70,.t 71],none,[]⟩,
⟨(some 73),.r (.ld 1 false),[.t 72],none,[]⟩,
⟨(some 74),.p (.bin .lss),[.t 73,.c (.int .i64 0)],none,[]⟩,
⟨(some 75),.p .mv,[.t 74],none,[]⟩,
⟨(some 76),.p .mv,[.t 7],(some (75,false)),[]⟩,
⟨(some 77),.p .mv,[.t 8],(some (75,false)),[]⟩,
⟨(some 78),.p (.ia 1),[.t 76,.t 77],(some (75,false)),[]⟩,
⟨(some 79),.r (.ld 1 false),[.t 78],(some (75,false)),[]⟩,
⟨(some 80),.p .mv,[.t 6],(some (75,false)),[]⟩,
⟨(some 81),.p .len,[.t 80],(some (75,false)),[]⟩,
⟨(some 82),.p (.bin .geq),[.t 79,.t 81],(some (75,false)),[]⟩,
⟨(some 83),.p .pick,[.t 75,.c (.bool true),.t 82],none,[]⟩] false []) <|
 .cond (.t 83) (.seq (.region [
⟨(some 2),.p .mv,[.c (.bool false)],none,[]⟩] false []) <|
 .ret) (.skip)) <|
 .region [
⟨(some 84),.p .mv,[.t 6],none,[]⟩,
⟨(some 85),.p .mv,[.t 7],none,[]⟩,
⟨(some 86),.p .mv,[.t 8],none,[]⟩,
⟨(some 87),.p (.ia 1),[.t 85,.t 86],none,[]⟩,
⟨(some 88),.r (.ld 1 false),[.t 87],none,[]⟩,
⟨(some 89),.p (.ia 1),[.t 84,.t 88],none,[]⟩,
⟨none,.w (.st 1),[.t 89,.c (.bool true)],none,[]⟩] false [])) <|
 .region [
⟨(some 68),.p .mv,[.t 8],none,[]⟩,
⟨(some 69),.p (.bin .add),[.t 68,.c (.int .i64 1)],none,[]⟩,
⟨(some 8),.p .mv,[.t 69],none,[]⟩] false []))) <|
 .seq (.region [
⟨(some 90),.p .mv,[.t 4],none,[]⟩,
⟨(some 91),.p .mv,[.t 6],none,[]⟩,
⟨(some 92),.w .call,[.c (.fn 534 [] []),.t 90,.t 91],none,[]⟩,
⟨(some 9),.p .mv,[.t 92],none,[]⟩] false []) <|
 .seq (.seq (.region [
⟨(some 10),.p .mv,[.c (.int .i64 0)],none,[]⟩] false []) <|
 .block 4 (.loop (.seq (.seq (.region [
⟨(some 93),.p .mv,[.t 10],none,[]⟩,
⟨(some 94),.p .mv,[.t 6],none,[]⟩,
⟨(some 95),.p .len,[.t 94],none,[]⟩,
⟨(some 96),.p (.bin .lss),[.t 93,.t 95],none,[]⟩] false []) <|
 .cond (.t 96) (.skip) (.exit 4)) <|
 .seq (.block 5 (.seq (.region [
⟨(some 100),.p .mv,[.t 3],none,[]⟩,
⟨(some 101),.p .mv,[.t 10],none,[]⟩,
⟨(some 102),.w .call,[.c (.fn 341 [] []),.t 100,.t 101],none,[]⟩,
⟨(some 99),.p .mv,[.t 102],none,[]⟩,
⟨(some 103),.p (.ext 0),[.t 99],none,[]⟩,
⟨(some 104),.p (.ext 1),[.t 99],none,[]⟩,
⟨(some 11),.p .mv,[.t 103],none,[]⟩,
⟨(some 12),.p .mv,[.t 104],none,[]⟩] false []) <|
 .seq (.region [
⟨(some 106),.p .mv,[.t 3],none,[]⟩,
⟨(some 107),.p .mv,[.t 10],none,[]⟩,
⟨(some 108),.w .call,[.c (.fn 340 [] []),.t 106,.t 107],none,[]⟩,
⟨(some 105),.p .mv,[.t 108],none,[]⟩,
⟨(some 109),.p (.ext 0),[.t 105],none,[]⟩,
⟨(some 110),.p (.ext 1),[.t 105],none,[]⟩,
⟨(some 13),.p .mv,[.t 109],none,[]⟩,
⟨(some 14),.p .mv,[.t 110],none,[]⟩] false []) <|
 .seq (.region [
⟨(some 111),.p .mv,[.t 12],none,[]⟩,
⟨(some 112),.p (.bin .neq),[.t 111,.c (.int .i64 0)],none,[]⟩,
⟨(some 113),.p .mv,[.t 112],none,[]⟩,
⟨(some 114),.p .mv,[.t 14],(some (113,false)),[]⟩,
⟨(some 115),.p (.bin .neq),[.t 114,.c (.int .i64 0)],(some (113,false)),[]⟩,
⟨(some 116),.p .pick,[.t 113,.c (.bool true),.t 115],none,[]⟩,
⟨(some 117),.p .mv,[.t 116],none,[]⟩,
⟨(some 118),.p .mv,[.t 13],(some (117,false)),[]⟩,
⟨(some 119),.p (.bin .neq),[.t 118,.c (.int .i64 2)],(some (117,false)),[]⟩,
⟨(some 120),.p .mv,[.t 119],(some (117,false)),[]⟩,
⟨(some 121),.p .mv,[.t 11],(some (120,true)),[]⟩,
⟨(some 122),.p (.bin .eql),[.t 121,.c (.int .i64 0)],(some (120,true)),[]⟩,
⟨(some 123),.p .pick,[.t 120,.t 122,.c (.bool false)],(some (117,false)),[]⟩,
⟨(some 124),.p .pick,[.t 117,.c (.bool true),.t 123],none,[]⟩,
⟨(some 125),.p .mv,[.t 124],none,[]⟩,
⟨(some 126),.p .mv,[.t 6],(some (125,false)),[]⟩,
⟨(some 127),.p .mv,[.t 10],(some (125,false)),[]⟩,
⟨(some 128),.p (.ia 1),[.t 126,.t 127],(some (125,false)),[]⟩,
⟨(some 129),.r (.ld 1 false),[.t 128],(some (125,false)),[]⟩,
⟨(some 130),.p .mv,[.t 129],(some (125,false)),[]⟩,
⟨(some 131),.p .mv,[.t 9],(some (130,true)),[]⟩,
⟨(some 132),.p .mv,[.t 10],(some (130,true)),[]⟩,
⟨(some 133),.p (.ia 1),[.t 131,.t 132],(some (130,true)),[]⟩,
⟨(some 134),.r (.ld 1 false),[.t 133],(some (130,true)),[]⟩,
⟨(some 135),.p (.un .not),[.t 134],(some (130,true)),[]⟩,
⟨(some 136),.p .pick,[.t 130,.t 135,.c (.bool false)],(some (125,false)),[]⟩,
⟨(some 137),.p .pick,[.t 125,.c (.bool true),.t 136],none,[]⟩] false []) <|
 .cond (.t 137) (.seq (.region [
⟨(some 2),.p .mv,[.c (.bool false)],none,[]⟩] false []) <|
 .ret) (.skip))) <|
 .region [
⟨(some 97),.p .mv,[.t 10],none,[]⟩,
⟨(some 98),.p (.bin .add),[.t 97,.c (.int .i64 1)],none,[]⟩,
⟨(some 10),.p .mv,[.t 98],none,[]⟩] false []))) <|
 .seq (.region [
⟨(some 139),.p .mv,[.t 3],none,[]⟩,
⟨(some 140),.w .call,[.c (.fn 343 [] []),.t 139,.c (.int .i64 1),.c (.bool true)],none,[]⟩,
⟨(some 138),.p .mv,[.t 140],none,[]⟩,
⟨(some 141),.p (.ext 0),[.t 138],none,[]⟩,
⟨(some 142),.p (.ext 1),[.t 138],none,[]⟩,
⟨(some 15),.p .mv,[.t 141],none,[]⟩,
⟨(some 16),.p .mv,[.t 142],none,[]⟩] false []) <|
 .seq (.region [
⟨(some 144),.p .mv,[.t 3],none,[]⟩,
⟨(some 145),.p .mv,[.t 15],none,[]⟩,
⟨(some 146),.w .call,[.c (.fn 341 [] []),.t 144,.t 145],none,[]⟩,
⟨(some 143),.p .mv,[.t 146],none,[]⟩,
⟨(some 147),.p (.ext 0),[.t 143],none,[]⟩,
⟨(some 148),.p (.ext 1),[.t 143],none,[]⟩,
⟨(some 17),.p .mv,[.t 147],none,[]⟩,
⟨(some 18),.p .mv,[.t 148],none,[]⟩] false []) <|
 .seq (.region [
⟨(some 149),.p .mv,[.t 16],none,[]⟩,
⟨(some 150),.p (.bin .eql),[.t 149,.c (.int .i64 3)],none,[]⟩,
⟨(some 151),.p .mv,[.t 150],none,[]⟩,
⟨(some 152),.p .mv,[.t 16],(some (151,false)),[]⟩,
⟨(some 153),.p (.bin .eql),[.t 152,.c (.int .i64 0)],(some (151,false)),[]⟩,
⟨(some 154),.p .mv,[.t 153],(some (151,false)),[]⟩,
⟨(some 155),.p .mv,[.t 18],(some (154,true)),[]⟩,
⟨(some 156),.p (.bin .eql),[.t 155,.c (.int .i64 0)],(some (154,true)),[]⟩,
⟨(some 157),.p .pick,[.t 154,.t 156,.c (.bool false)],(some (151,false)),[]⟩,
⟨(some 158),.p .mv,[.t 157],(some (151,false)),[]⟩,
⟨(some 159),.p .mv,[.t 17],(some (158,true)),[]⟩,
⟨(some 160),.p (.bin .eql),[.t 159,.c (.int .i64 0)],(some (158,true)),[]⟩,
⟨(some 161),.p .pick,[.t 158,.t 160,.c (.bool false)],(some (151,false)),[]⟩,
⟨(some 162),.p .mv,[.t 161],(some (151,false)),[]⟩,
⟨(some 163),.p .mv,[.t 3],(some (162,true)),[]⟩,
⟨(some 164),.p .mv,[.t 15],(some (162,true)),[]⟩,
⟨(some 165),.w .call,[.c (.fn 324 [] []),.t 163,.t 164],(some (162,true)),[]⟩,
⟨(some 166),.p (.bin .eql),[.t 165,.c (.int .i64 0)],(some (162,true)),[]⟩,
⟨(some 167),.p .pick,[.t 162,.t 166,.c (.bool false)],(some (151,false)),[]⟩,
⟨(some 168),.p .pick,[.t 151,.c (.bool true),.t 167],none,[]⟩,
⟨(some 169),.p .mv,[.t 168],none,[]⟩,
⟨(some 170),.w .call,[.c (.fn 535 [] [])],(some (169,true)),[]⟩,
⟨(some 171),.p .pick,[.t 169,.t 170,.c (.bool false)],none,[]⟩,
⟨(some 2),.p .mv,[.t 171],none,[]⟩] false []) <|
 .ret, [.tmp 2]⟩
structure D531 (T : Tab) : Prop where
  fn : T.fn 531 = some ir531
  pr : T.prim 531 = none
  d320 : D320 T
  d532 : D532 T
  d533 : D533 T
  d334 : D334 T
  d534 : D534 T
  d341 : D341 T
  d340 : D340 T
  d343 : D343 T
  d324 : D324 T
  d535 : D535 T
end Go.Am
