/- Part 4 of the texts of this claim: the engine, contracts, plain laws. -/
import Derived.Test.YtaifphjenebgoaaGreatDoorProg
import Derived.Test.YtaifphjenebgoaaGreatDoorZCTells15P1
import Derived.Shelf.Strconv.Itoa0
import Derived.Shelf.Strconv.Itoa1
import Derived.Shelf.LaysM
import Derived.Shelf.Strconv.Itoa2
import Derived.Shelf.Strconv.Itoa3
import Derived.Shelf.Strings.Fields
import Derived.Shelf.Strings.SplitShaped
import Derived.Shelf.Unicode.Latin
import Derived.Shelf.Unicode.Is16White
import Derived.Shelf.Unicode.IsSpaceAny
import Derived.Shelf.Unicode.Is16Any
import Derived.Shelf.Unicode.Is32Any
import Derived.Shelf.Unicode.ExclAny
import Derived.Test.YtaifphjenebgoaaGreatDoorZCTells15P3
import Derived.Test.YtaifphjenebgoaaGreatDoorZCTells15P2
set_option linter.unusedVariables false
set_option maxRecDepth 100000
namespace Go.Proofs.YtaifphjenebgoaaGreatDoor
open Go Go.Sx Value IntKind World Addr Builtin
noncomputable def slices_ContainsFunc_string_string.W:Option Addr->Nat->Nat->Value->World->(Value->World->Prop)->Prop:=fun s_A s_n s_c f w K=>CallsV Tryz.prog 130 #[slice s_A s_n s_c,f]
 w fun v w'=>∃ x,v=int i64 x/\K (bool (decide (0<=x))) w'
theorem slices_ContainsFunc_string_string.calls (ok:Okay Tryz.prog) {s_A s_n s_c f w K} (h:slices_ContainsFunc_string_string.W s_A s_n s_c f w K):CallsV Tryz.prog 82 #[.slice s_A s_n s_c,f] w K :=
  fnW_calls ok Tryz.func82 (an:=(.named (.named .auto))) (args:=[.slice s_A s_n s_c,f]) (Eq.mp (by kernel_rfl) h)
noncomputable def slices_ContainsFunc_api_Value_api_Value.W:Option Addr->Nat->Nat->Value->World->(Value->World->Prop)->Prop:=fun s_A s_n s_c f w K=>CallsV Tryz.prog 131 #[slice s_A s_n
 s_c,f] w fun v w'=>∃ x,v=int i64 x/\K (bool (decide (0<=x))) w'
theorem slices_ContainsFunc_api_Value_api_Value.calls (ok:Okay Tryz.prog) {s_A s_n s_c f w K} (h:slices_ContainsFunc_api_Value_api_Value.W s_A s_n s_c f w K):CallsV Tryz.prog 83 #[.slice s_A s_n s_c,f] w K :=
  fnW_calls ok Tryz.func83 (an:=(.named (.named .auto))) (args:=[.slice s_A s_n s_c,f]) (Eq.mp (by kernel_rfl) h)
noncomputable def slices_ContainsFunc_api_Cur_api_Cur.W:Option Addr->Nat->Nat->Value->World->(Value->World->Prop)->Prop:=fun s_A s_n s_c f w K=>CallsV Tryz.prog 132 #[slice s_A s_n s_c,
 f] w fun v w'=>∃ x,v=int i64 x/\K (bool (decide (0<=x))) w'
theorem slices_ContainsFunc_api_Cur_api_Cur.calls (ok:Okay Tryz.prog) {s_A s_n s_c f w K} (h:slices_ContainsFunc_api_Cur_api_Cur.W s_A s_n s_c f w K):CallsV Tryz.prog 84 #[.slice s_A s_n s_c,f] w K :=
  fnW_calls ok Tryz.func84 (an:=(.named (.named .auto))) (args:=[.slice s_A s_n s_c,f]) (Eq.mp (by kernel_rfl) h)
noncomputable def slices_ContainsFunc_api_Sort_api_Sort.W:Option Addr->Nat->Nat->Value->World->(Value->World->Prop)->Prop:=fun s_A s_n s_c f w K=>CallsV Tryz.prog 133 #[slice s_A s_n s_c,
 f] w fun v w'=>∃ x,v=int i64 x/\K (bool (decide (0<=x))) w'
theorem slices_ContainsFunc_api_Sort_api_Sort.calls (ok:Okay Tryz.prog) {s_A s_n s_c f w K} (h:slices_ContainsFunc_api_Sort_api_Sort.W s_A s_n s_c f w K):CallsV Tryz.prog 85 #[.slice s_A s_n s_c,f] w K :=
  fnW_calls ok Tryz.func85 (an:=(.named (.named .auto))) (args:=[.slice s_A s_n s_c,f]) (Eq.mp (by kernel_rfl) h)
noncomputable def slices_ContainsFunc_api_Acc_api_Acc.W:Option Addr->Nat->Nat->Value->World->(Value->World->Prop)->Prop:=fun s_A s_n s_c f w K=>CallsV Tryz.prog 134 #[slice s_A s_n s_c,
 f] w fun v w'=>∃ x,v=int i64 x/\K (bool (decide (0<=x))) w'
theorem slices_ContainsFunc_api_Acc_api_Acc.calls (ok:Okay Tryz.prog) {s_A s_n s_c f w K} (h:slices_ContainsFunc_api_Acc_api_Acc.W s_A s_n s_c f w K):CallsV Tryz.prog 86 #[.slice s_A s_n s_c,f] w K :=
  fnW_calls ok Tryz.func86 (an:=(.named (.named .auto))) (args:=[.slice s_A s_n s_c,f]) (Eq.mp (by kernel_rfl) h)
noncomputable def slices_IndexFunc_string_string.W:Option Addr->Nat->Nat->Value->World->(Value->World->Prop)->Prop:=fun s_A s_n s_c f w K=>∃ (I:Int->World->Prop) (μ:Int->World ->
 Nat),I 0 w/\∀ x w,I x w->bif decide (x<(s_n:Int)) then ∃ ad,s_A=some ad/\(0<=x/\x<(s_n:Int))/\∃ (x_1:ByteArray),cell? w (add ad (Int.toNat x*1))=some
 (string x_1)/\∃ (fid:Nat) (first captured:Array Value),f=func (Fn.func fid) first captured/\bodied Tryz.prog fid=true/\CallsV Tryz.prog fid (List.toArray (Array.toList first ++
 ([string x_1]++Array.toList captured))) w fun r w'=>∃ x_2,r=bool x_2/\bif x_2 then K (int i64 x) w' else I (wrap i64 (x+1)) w'/\μ (wrap i64 (x+1)) w'<μ x w else K (int i64 (-1:Int)) w
theorem slices_IndexFunc_string_string.calls (ok:Okay Tryz.prog) {s_A s_n s_c f w K} (h:slices_IndexFunc_string_string.W s_A s_n s_c f w K):CallsV Tryz.prog 130 #[.slice s_A s_n s_c,f] w K :=
  fnW_calls ok Tryz.func130 (an:=(.named (.named (.seq .auto (.seq (.seq .auto (.block (.loop [(8,.one (.int .i64))] .auto))) .auto))))) (args:=[.slice s_A s_n s_c,f]) (Eq.mp (by kernel_rfl) h)
noncomputable def slices_IndexFunc_api_Value_api_Value.W:Option Addr->Nat->Nat->Value->World->(Value->World->Prop)->Prop:=fun s_A s_n s_c f w K=>∃ (I:Int->World->Prop) (μ:Int ->
 World->Nat),I 0 w/\∀ x w,I x w->bif decide (x<(s_n:Int)) then ∃ ad,s_A=some ad/\(0<=x/\x<(s_n:Int))/\∃ x_1,cell? w (add (add ad (Int.toNat x*3)) 0)=some
 (int u8 x_1)/\∃ x_2,cell? w (add (add ad (Int.toNat x*3)) 1)=some (int i64 x_2)/\∃ (x_3:ByteArray),cell? w (add (add ad (Int.toNat x*3)) 2)=some (string x_3)/\∃ (fid:Nat)
 (first captured:Array Value),f=func (Fn.func fid) first captured/\bodied Tryz.prog fid=true/\CallsV Tryz.prog fid (List.toArray (Array.toList first++([agg #[int u8 x_1,int i64 x_2,
 string x_3]]++Array.toList captured))) w fun r w'=>∃ x_4,r=bool x_4/\bif x_4 then K (int i64 x) w' else I (wrap i64 (x+1)) w'/\μ (wrap i64 (x+1)) w'<μ x w else K (int i64 (-1:Int)) w
theorem slices_IndexFunc_api_Value_api_Value.calls (ok:Okay Tryz.prog) {s_A s_n s_c f w K} (h:slices_IndexFunc_api_Value_api_Value.W s_A s_n s_c f w K):CallsV Tryz.prog 131 #[.slice s_A s_n s_c,f] w K :=
  fnW_calls ok Tryz.func131 (an:=(.named (.named (.seq .auto (.seq (.seq .auto (.block (.loop [(8,.one (.int .i64))] .auto))) .auto))))) (args:=[.slice s_A s_n s_c,f]) (Eq.mp (by kernel_rfl) h)
noncomputable def slices_IndexFunc_api_Cur_api_Cur.W:Option Addr->Nat->Nat->Value->World->(Value->World->Prop)->Prop:=fun s_A s_n s_c f w K=>∃ (I:Int->World->Prop) (μ:Int->World ->
 Nat),I 0 w/\∀ x w,I x w->bif decide (x<(s_n:Int)) then ∃ ad,s_A=some ad/\(0<=x/\x<(s_n:Int))/\∃ (x_1:ByteArray),cell? w (add (add ad (Int.toNat x*3)) 0) =
 some (string x_1)/\∃ x_2,cell? w (add (add ad (Int.toNat x*3)) 1)=some (bool x_2)/\∃ x_3,cell? w (add (add ad (Int.toNat x*3)) 2)=some (bool x_3)/\∃ (fid:Nat) (first
 captured:Array Value),f=func (Fn.func fid) first captured/\bodied Tryz.prog fid=true/\CallsV Tryz.prog fid (List.toArray (Array.toList first++([agg #[string x_1,bool x_2,bool x_3]] ++
 Array.toList captured))) w fun r w'=>∃ x_4,r=bool x_4/\bif x_4 then K (int i64 x) w' else I (wrap i64 (x+1)) w'/\μ (wrap i64 (x+1)) w'<μ x w else K (int i64 (-1:Int)) w
theorem slices_IndexFunc_api_Cur_api_Cur.calls (ok:Okay Tryz.prog) {s_A s_n s_c f w K} (h:slices_IndexFunc_api_Cur_api_Cur.W s_A s_n s_c f w K):CallsV Tryz.prog 132 #[.slice s_A s_n s_c,f] w K :=
  fnW_calls ok Tryz.func132 (an:=(.named (.named (.seq .auto (.seq (.seq .auto (.block (.loop [(8,.one (.int .i64))] .auto))) .auto))))) (args:=[.slice s_A s_n s_c,f]) (Eq.mp (by kernel_rfl) h)
noncomputable def slices_IndexFunc_api_Sort_api_Sort.W:Option Addr->Nat->Nat->Value->World->(Value->World->Prop)->Prop:=fun s_A s_n s_c f w K=>∃ (I:Int->World->Prop) (μ:Int->World
 -> Nat),I 0 w/\∀ x w,I x w->bif decide (x<(s_n:Int)) then ∃ ad,s_A=some ad/\(0<=x/\x<(s_n:Int))/\∃ x_1 x_2 x_3,cell? w (add (add ad (Int.toNat x*3)) 0) =
 some (slice x_1 x_2 x_3)/\∃ x_4,cell? w (add (add ad (Int.toNat x*3)) 1)=some (int i64 x_4)/\∃ x_5,cell? w (add (add ad (Int.toNat x*3)) 2)=some (bool x_5)/\∃ (fid :
 Nat) (first captured:Array Value),f=func (Fn.func fid) first captured/\bodied Tryz.prog fid=true/\CallsV Tryz.prog fid (List.toArray (Array.toList first++([agg #[slice x_1 x_2 x_3,int
 i64 x_4,bool x_5]]++Array.toList captured))) w fun r w'=>∃ x_6,r=bool x_6/\bif x_6 then K (int i64 x) w' else I (wrap i64 (x+1)) w'/\μ (wrap i64 (x+1)) w'<μ x w else K (int i64 (-1 :
 Int)) w
theorem slices_IndexFunc_api_Sort_api_Sort.calls (ok:Okay Tryz.prog) {s_A s_n s_c f w K} (h:slices_IndexFunc_api_Sort_api_Sort.W s_A s_n s_c f w K):CallsV Tryz.prog 133 #[.slice s_A s_n s_c,f] w K :=
  fnW_calls ok Tryz.func133 (an:=(.named (.named (.seq .auto (.seq (.seq .auto (.block (.loop [(8,.one (.int .i64))] .auto))) .auto))))) (args:=[.slice s_A s_n s_c,f]) (Eq.mp (by kernel_rfl) h)
noncomputable def slices_IndexFunc_api_Acc_api_Acc.W:Option Addr->Nat->Nat->Value->World->(Value->World->Prop)->Prop:=fun s_A s_n s_c f w K=>∃ (I:Int->World->Prop) (μ:Int->World ->
 Nat),I 0 w/\∀ x w,I x w->bif decide (x<(s_n:Int)) then ∃ ad,s_A=some ad/\(0<=x/\x<(s_n:Int))/\∃ (x_1:ByteArray),cell? w (add (add ad (Int.toNat x*2)) 0) =
 some (string x_1)/\∃ x_2,cell? w (add (add ad (Int.toNat x*2)) 1)=some (bool x_2)/\∃ (fid:Nat) (first captured:Array Value),f=func (Fn.func fid) first captured/\bodied
 Tryz.prog fid=true/\CallsV Tryz.prog fid (List.toArray (Array.toList first++([agg #[string x_1,bool x_2]]++Array.toList captured))) w fun r w'=>∃ x_3,r=bool x_3/\bif x_3 then K (int
 i64 x) w' else I (wrap i64 (x+1)) w'/\μ (wrap i64 (x+1)) w'<μ x w else K (int i64 (-1:Int)) w
theorem slices_IndexFunc_api_Acc_api_Acc.calls (ok:Okay Tryz.prog) {s_A s_n s_c f w K} (h:slices_IndexFunc_api_Acc_api_Acc.W s_A s_n s_c f w K):CallsV Tryz.prog 134 #[.slice s_A s_n s_c,f] w K :=
  fnW_calls ok Tryz.func134 (an:=(.named (.named (.seq .auto (.seq (.seq .auto (.block (.loop [(8,.one (.int .i64))] .auto))) .auto))))) (args:=[.slice s_A s_n s_c,f]) (Eq.mp (by kernel_rfl) h)
noncomputable def code_parts_5.W:Option Addr->Nat->Nat->Int->Bool->Addr->World->(Value->World->Prop)->Prop:=fun s0_A s0_n s0_c s1 s2 a1 w K=>∀ g w',Fresh w g w' [slice s0_A s0_n s0_c,
 int i64 s1,bool s2] 59->∃ x x_1 x_2,cell? w' (add (mk g 0 none) 0)=some (slice x x_1 x_2)/\bif decide (30<(x_1:Int)) then K (bool true) w' else ∃ x,cell? w' a1 =
 some x/\∃ x_3,cell? w' (add (mk g 0 none) 1)=some (int i64 x_3)/\∃ (fid:Nat) (first captured:Array Value),x=func (Fn.func fid) first captured/\bodied Tryz.prog fid =
 true/\CallsV Tryz.prog fid (List.toArray (Array.toList first++([int i64 x_3,int i64 1,int i64 60]++Array.toList captured))) w' fun r w'=>∃ x,r=bool x/\K (bool !x) w'
theorem code_parts_5.calls (ok:Okay Tryz.prog) {s0_A s0_n s0_c s1 s2 a1 w K} (h:code_parts_5.W s0_A s0_n s0_c s1 s2 a1 w K):CallsV Tryz.prog 79 #[.agg #[.slice s0_A s0_n s0_c,.int .i64 s1,.bool s2],.pointer (some a1)] w K :=
  fnW_calls ok Tryz.func79 (an:=(.named (.named .auto))) (args:=[.agg #[.slice s0_A s0_n s0_c,.int .i64 s1,.bool s2],.pointer (some a1)]) (Eq.mp (by kernel_rfl) h)
noncomputable def code_parts.W:Int->Int->Int->Option Addr->Nat->Nat->Option Addr->Nat->Nat->Option Addr->Nat->Nat->Option Addr->Nat->Nat->Option Addr->Nat->Nat->Option Addr->Nat ->
 Nat->World->(Value->World->Prop)->Prop:=fun p0 p1 p2 p3_A p3_n p3_c p4_A p4_n p4_c p5_A p5_n p5_c p6_A p6_n p6_c p7_A p7_n p7_c p8_A p8_n p8_c w K=>∀ g w',Fresh w g w' [int i64 p0,int i64
 p1,int i64 p2,slice p3_A p3_n p3_c,slice p4_A p4_n p4_c,slice p5_A p5_n p5_c,slice p6_A p6_n p6_c,slice p7_A p7_n p7_c,slice p8_A p8_n p8_c] 29->∀ g_1 w'_1,Fresh w' g_1 w'_1 [nilFunc] 100 ->
 cellsL (func (Fn.func 74) #[] #[])=[func (Fn.func 74) #[] #[]]/\oneCell' (func (Fn.func 74) #[] #[])=true/\stOK (mk g_1 0 none) 0 [func (Fn.func 74) #[] #[]] w'_1/\∀ w',w'=setAll
 (mk g_1 0 none) 0 [func (Fn.func 74) #[] #[]] w'_1->∃ x,cell? w' (mk g_1 0 none)=some x/\∃ x_1,cell? w' (add (mk g 0 none) 0)=some (int i64 x_1)/\∃ (fid :
 Nat) (first captured:Array Value),x=func (Fn.func fid) first captured/\bodied Tryz.prog fid=true/\CallsV Tryz.prog fid (List.toArray (Array.toList first++([int i64 x_1,int i64 1,int
 i64 1099511627776]++Array.toList captured))) w' fun r w'=>∃ x,r=bool x/\bif x then ∃ x,cell? w' (mk g_1 0 none)=some x/\∃ x_2,cell? w' (add (mk g 0 none) 1) =
 some (int i64 x_2)/\∃ (fid:Nat) (first captured:Array Value),x=func (Fn.func fid) first captured/\bodied Tryz.prog fid=true/\CallsV Tryz.prog fid (List.toArray (Array.toList
 first++([int i64 x_2,int i64 1,int i64 250]++Array.toList captured))) w' fun r w'=>∃ x,r=bool x/\bif x then ∃ x,cell? w' (mk g_1 0 none)=some x/\∃ x_3,cell? w' (add (mk g
 0 none) 2)=some (int i64 x_3)/\∃ (fid:Nat) (first captured:Array Value),x=func (Fn.func fid) first captured/\bodied Tryz.prog fid=true/\CallsV Tryz.prog fid
 (List.toArray (Array.toList first++([int i64 x_3,int i64 0,int i64 1000]++Array.toList captured))) w' fun r w'=>∃ x,r=bool x/\bif x then ∃ x x_4 x_5,cell? w' (add (mk g 0 none) 3) =
 some (slice x x_4 x_5)/\bif decide ((x_4:Int)<=200) then ∃ x x_6 x_7,cell? w' (add (mk g 0 none) 4)=some (slice x x_6 x_7)/\bif decide ((x_6:Int) <=
 1000) then ∃ x x_8 x_9,cell? w' (add (mk g 0 none) 5)=some (slice x x_8 x_9)/\bif decide ((x_8:Int)<=12) then ∃ x x_10 x_11,cell? w' (add (mk g 0 none) 6) =
 some (slice x x_10 x_11)/\bif decide ((x_10:Int)<=6) then ∃ x x_12 x_13,cell? w' (add (mk g 0 none) 7)=some (slice x x_12 x_13)/\bif decide ((x_12 :
 Int)<=60) then ∃ x x_14 x_15,cell? w' (add (mk g 0 none) 3)=some (slice x x_14 x_15)/\CallsV Tryz.prog 82 #[slice x x_14 x_15,func (Fn.func 75) #[] #[]] w' fun v w'=>∃ x,v=bool
 x/\bif !x then ∃ x x_16 x_17,cell? w' (add (mk g 0 none) 4)=some (slice x x_16 x_17)/\CallsV Tryz.prog 83 #[slice x x_16 x_17,func (Fn.func 76) #[] #[]] w' fun v w'=>∃ x,v=bool
 x/\bif !x then ∃ x x_18 x_19,cell? w' (add (mk g 0 none) 5)=some (slice x x_18 x_19)/\CallsV Tryz.prog 84 #[slice x x_18 x_19,func (Fn.func 78) #[] #[]] w' fun v w'=>∃ x,v=bool
 x/\bif !x then ∃ x x_20 x_21,cell? w' (add (mk g 0 none) 6)=some (slice x x_20 x_21)/\CallsV Tryz.prog 85 #[slice x x_20 x_21,func (Fn.func 79) #[] #[pointer (some (mk g_1 0
 none))]] w' fun v w'=>∃ x,v=bool x/\bif !x then ∃ x x_22 x_23,cell? w' (add (mk g 0 none) 7)=some (slice x x_22 x_23)/\CallsV Tryz.prog 86 #[slice x x_22 x_23,func
 (Fn.func 80) #[] #[]] w' fun v w'=>∃ x,v=bool x/\K (bool !x) w' else K (bool false) w' else K (bool false) w' else K (bool false) w' else K (bool false) w' else K (bool
 false) w' else K (bool false) w' else K (bool false) w' else K (bool false) w' else K (bool false) w' else K (bool false) w' else K (bool false) w' else K (bool
 false) w'
theorem code_parts.calls (ok:Okay Tryz.prog) {p0 p1 p2 p3_A p3_n p3_c p4_A p4_n p4_c p5_A p5_n p5_c p6_A p6_n p6_c p7_A p7_n p7_c p8_A p8_n p8_c w K} (h:code_parts.W p0 p1 p2 p3_A p3_n p3_c p4_A p4_n p4_c p5_A p5_n p5_c p6_A p6_n p6_c p7_A p7_n p7_c p8_A p8_n p8_c w K):CallsV Tryz.prog 45 #[.agg #[.int .i64 p0,.int .i64 p1,.int .i64 p2,.slice p3_A p3_n p3_c,.slice p4_A p4_n p4_c,.slice p5_A p5_n p5_c,.slice p6_A p6_n p6_c,.slice p7_A p7_n p7_c,.slice p8_A p8_n p8_c]] w K :=
  fnW_calls ok Tryz.func45 (an:=(.named (.named .auto))) (args:=[.agg #[.int .i64 p0,.int .i64 p1,.int .i64 p2,.slice p3_A p3_n p3_c,.slice p4_A p4_n p4_c,.slice p5_A p5_n p5_c,.slice p6_A p6_n p6_c,.slice p7_A p7_n p7_c,.slice p8_A p8_n p8_c]]) (Eq.mp (by kernel_rfl) h)
end Go.Proofs.YtaifphjenebgoaaGreatDoor
set_option linter.unusedVariables false
set_option maxRecDepth 100000
namespace Go.Proofs.YtaifphjenebgoaaGreatDoor
open Go Go.Sx Value IntKind World Addr Builtin
noncomputable def code_Check.W:Int->Int->Int->Option Addr->Nat->Nat->Option Addr->Nat->Nat->Option Addr->Nat->Nat->Option Addr->Nat->Nat->Option Addr->Nat->Nat->Option Addr->Nat ->
 Nat->World->(Value->World->Prop)->Prop:=fun p0 p1 p2 p3_A p3_n p3_c p4_A p4_n p4_c p5_A p5_n p5_c p6_A p6_n p6_c p7_A p7_n p7_c p8_A p8_n p8_c w K=>∀ g w',Fresh w g w' [int i64 p0,int i64
 p1,int i64 p2,slice p3_A p3_n p3_c,slice p4_A p4_n p4_c,slice p5_A p5_n p5_c,slice p6_A p6_n p6_c,slice p7_A p7_n p7_c,slice p8_A p8_n p8_c] 29->∃ x,cell? w' (add (mk g 0 none) 0) =
 some (int i64 x)/\∃ x_1,cell? w' (add (mk g 0 none) 1)=some (int i64 x_1)/\∃ x_2,cell? w' (add (mk g 0 none) 2)=some (int i64 x_2)/\∃ x_3 x_4 x_5,cell? w'
 (add (mk g 0 none) 3)=some (slice x_3 x_4 x_5)/\∃ x_6 x_7 x_8,cell? w' (add (mk g 0 none) 4)=some (slice x_6 x_7 x_8)/\∃ x_9 x_10 x_11,cell? w' (add (mk g 0
 none) 5)=some (slice x_9 x_10 x_11)/\∃ x_12 x_13 x_14,cell? w' (add (mk g 0 none) 6)=some (slice x_12 x_13 x_14)/\∃ x_15 x_16 x_17,cell? w' (add (mk g 0 none)
 7)=some (slice x_15 x_16 x_17)/\∃ x_18 x_19 x_20,cell? w' (add (mk g 0 none) 8)=some (slice x_18 x_19 x_20)/\CallsV Tryz.prog 45 #[agg #[int i64 x,int i64 x_1,int i64 x_2,
 slice x_3 x_4 x_5,slice x_6 x_7 x_8,slice x_9 x_10 x_11,slice x_12 x_13 x_14,slice x_15 x_16 x_17,slice x_18 x_19 x_20]] w' fun v w'=>∃ x,v=bool x/\bif !x then K (int i64 140) w' else ∃ x
 x_21 x_22,cell? w' (add (mk g 0 none) 8)=some (slice x x_21 x_22)/\bif decide ((x_21:Int)<1) then K (int i64 140) w' else ∃ x x_23 x_24,cell? w' (add (mk g 0
 none) 8)=some (slice x x_23 x_24)/\bif decide (4000<(x_23:Int)) then K (int i64 140) w' else ∃ x x_25 x_26,cell? w' (add (mk g 0 none) 8)=some (slice x
 x_25 x_26)/\∃ x_27 x_28 x_29,cell? w' (add (mk g 0 none) 8)=some (slice x_27 x_28 x_29)/\∃ ad,x=some ad/\(0<=wrap i64 ((x_28:Int)-1)/\wrap i64 ((x_28:Int)-1) <
 (x_25:Int))/\∃ x,cell? w' (add (add ad (Int.toNat (wrap i64 ((x_28:Int)-1))*5)) 0)=some (int u8 x)/\bif !decide (x=35) then K (int i64 140) w' else ∃ x x_30 x_31,cell?
 w' (add (mk g 0 none) 8)=some (slice x x_30 x_31)/\∃ (I:Int->World->Prop) (μ:Int->World->Nat),I 0 w'/\∀ x_32 w,I x_32 w->bif decide (x_32<(x_30:Int)) then ∃
 ad,x=some ad/\(0<=x_32/\x_32<(x_30:Int))/\∃ x,cell? w (add (add ad (Int.toNat x_32*5)) 0)=some (int u8 x)/\∃ x_33,cell? w (add (add ad (Int.toNat x_32*5)) 1) =
 some (int i64 x_33)/\∃ x_34,cell? w (add (add ad (Int.toNat x_32*5)) 2)=some (int i64 x_34)/\∃ x_35,cell? w (add (add ad (Int.toNat x_32*5)) 3)=some (int i64 x_35)/\∃
 x_36,cell? w (add (add ad (Int.toNat x_32*5)) 4)=some (int i64 x_36)/\∀ g_1 w',Fresh w g_1 w' [int u8 0,int i64 0,int i64 0,int i64 0,int i64 0] 46->stOK (mk g_1 0 none) 0
 [int u8 x,int i64 x_33,int i64 x_34,int i64 x_35,int i64 x_36] w'/\∀ w'_1,w'_1=setAll (mk g_1 0 none) 0 [int u8 x,int i64 x_33,int i64 x_34,int i64 x_35,int i64 x_36] w'->∃ x,cell?
 w'_1 (add (mk g_1 0 none) 0)=some (int u8 x)/\CallsV Tryz.prog 46 #[int u8 x] w'_1 fun v w'=>∃ (x:ByteArray),v=string x/\bif ByteArray.toList x == ByteArray.toList
 (ByteArray.mk #[]) then K (int i64 140) w' else ∃ x_37,cell? w' (add (mk g_1 0 none) 1)=some (int i64 x_37)/\∃ x_38,cell? w' (add (mk g_1 0 none) 2)=some (int i64
 x_38)/\∃ x_39,cell? w' (add (mk g_1 0 none) 3)=some (int i64 x_39)/\∃ x_40,cell? w' (add (mk g_1 0 none) 4)=some (int i64 x_40)/\∃ (I_1:Int->World->Prop) (μ_1 :
 Int->World->Nat),I_1 0 w'/\∀ x_41 w_1,I_1 x_41 w_1->bif decide (x_41<4) then (0<=x_41/\x_41<(↑4:Int))/\bif decide (x_41=(↑0:Int)) then ∃ (S:World->Prop),S
 (drew w_1)/\∃ x_42,(∀ u,S u->cell? u (add (mk g 0 none) 0)=some (int i64 x_42))/\∃ x_43,(∀ u,S u->cell? u (add (mk g 0 none) 1)=some (int i64 x_43))/\∃ x_44,(∀
 u,S u->cell? u (add (mk g 0 none) 2)=some (int i64 x_44))/\∃ x_45 x_46 x_47,(∀ u,S u->cell? u (add (mk g 0 none) 3)=some (slice x_45 x_46 x_47))/\∃ x_48 x_49
 x_50,(∀ u,S u->cell? u (add (mk g 0 none) 4)=some (slice x_48 x_49 x_50))/\∃ x_51 x_52 x_53,(∀ u,S u->cell? u (add (mk g 0 none) 5)=some (slice x_51 x_52 x_53)) /\
 ∃ x_54 x_55 x_56,(∀ u,S u->cell? u (add (mk g 0 none) 6)=some (slice x_54 x_55 x_56))/\∃ x_57 x_58 x_59,(∀ u,S u->cell? u (add (mk g 0 none) 7)=some (slice x_57
 x_58 x_59))/\∃ x_60 x_61 x_62,(∀ u,S u->cell? u (add (mk g 0 none) 8)=some (slice x_60 x_61 x_62))/\∃ (b:UInt8),(0<=x_41/\x[Int.toNat x_41]?=some b)/\CallsV
 Tryz.prog 47 #[agg #[int i64 x_42,int i64 x_43,int i64 x_44,slice x_45 x_46 x_47,slice x_48 x_49 x_50,slice x_51 x_52 x_53,slice x_54 x_55 x_56,slice x_57 x_58 x_59,slice x_60 x_61 x_62],int
 i64 x_32,int u8 (↑(UInt8.toNat b):Int),int i64 x_37] (drew w_1) fun v w'=>∃ x,v=bool x/\bif !x then K (int i64 140) w' else I_1 (wrap i64 (x_41+1)) w'/\μ_1 (wrap i64 (x_41+1)) w'<μ_1
 x_41 w_1 else bif decide (x_41=(↑1:Int)) then ∃ (S:World->Prop),S (drew w_1)/\∃ x_42,(∀ u,S u->cell? u (add (mk g 0 none) 0)=some (int i64 x_42))/\∃ x_43,(∀ u,S
 u->cell? u (add (mk g 0 none) 1)=some (int i64 x_43))/\∃ x_44,(∀ u,S u->cell? u (add (mk g 0 none) 2)=some (int i64 x_44))/\∃ x_45 x_46 x_47,(∀ u,S u->cell? u
 (add (mk g 0 none) 3)=some (slice x_45 x_46 x_47))/\∃ x_48 x_49 x_50,(∀ u,S u->cell? u (add (mk g 0 none) 4)=some (slice x_48 x_49 x_50))/\∃ x_51 x_52 x_53,(∀ u,S
 u->cell? u (add (mk g 0 none) 5)=some (slice x_51 x_52 x_53))/\∃ x_54 x_55 x_56,(∀ u,S u->cell? u (add (mk g 0 none) 6)=some (slice x_54 x_55 x_56))/\∃ x_57 x_58
 x_59,(∀ u,S u->cell? u (add (mk g 0 none) 7)=some (slice x_57 x_58 x_59))/\∃ x_60 x_61 x_62,(∀ u,S u->cell? u (add (mk g 0 none) 8)=some (slice x_60 x_61 x_62)) /\
 ∃ (b:UInt8),(0<=x_41/\x[Int.toNat x_41]?=some b)/\CallsV Tryz.prog 47 #[agg #[int i64 x_42,int i64 x_43,int i64 x_44,slice x_45 x_46 x_47,slice x_48 x_49 x_50,slice x_51 x_52 x_53,
 slice x_54 x_55 x_56,slice x_57 x_58 x_59,slice x_60 x_61 x_62],int i64 x_32,int u8 (↑(UInt8.toNat b):Int),int i64 x_38] (drew w_1) fun v w'=>∃ x,v=bool x/\bif !x then K (int i64 140) w'
 else I_1 (wrap i64 (x_41+1)) w'/\μ_1 (wrap i64 (x_41+1)) w'<μ_1 x_41 w_1 else bif decide (x_41=(↑2:Int)) then ∃ (S:World->Prop),S (drew w_1)/\∃ x_42,(∀ u,S u->cell? u (add
 (mk g 0 none) 0)=some (int i64 x_42))/\∃ x_43,(∀ u,S u->cell? u (add (mk g 0 none) 1)=some (int i64 x_43))/\∃ x_44,(∀ u,S u->cell? u (add (mk g 0 none) 2)
 = some (int i64 x_44))/\∃ x_45 x_46 x_47,(∀ u,S u->cell? u (add (mk g 0 none) 3)=some (slice x_45 x_46 x_47))/\∃ x_48 x_49 x_50,(∀ u,S u->cell? u (add (mk g 0
 none) 4)=some (slice x_48 x_49 x_50))/\∃ x_51 x_52 x_53,(∀ u,S u->cell? u (add (mk g 0 none) 5)=some (slice x_51 x_52 x_53))/\∃ x_54 x_55 x_56,(∀ u,S u->cell? u
 (add (mk g 0 none) 6)=some (slice x_54 x_55 x_56))/\∃ x_57 x_58 x_59,(∀ u,S u->cell? u (add (mk g 0 none) 7)=some (slice x_57 x_58 x_59))/\∃ x_60 x_61 x_62,(∀ u,S
 u->cell? u (add (mk g 0 none) 8)=some (slice x_60 x_61 x_62))/\∃ (b:UInt8),(0<=x_41/\x[Int.toNat x_41]?=some b)/\CallsV Tryz.prog 47 #[agg #[int i64 x_42,int i64 x_43,
 int i64 x_44,slice x_45 x_46 x_47,slice x_48 x_49 x_50,slice x_51 x_52 x_53,slice x_54 x_55 x_56,slice x_57 x_58 x_59,slice x_60 x_61 x_62],int i64 x_32,int u8 (↑(UInt8.toNat b):Int),int i64
 x_39] (drew w_1) fun v w'=>∃ x,v=bool x/\bif !x then K (int i64 140) w' else I_1 (wrap i64 (x_41+1)) w'/\μ_1 (wrap i64 (x_41+1)) w'<μ_1 x_41 w_1 else bif decide (x_41=(↑3 :
 Int)) then ∃ (S:World->Prop),S (drew w_1)/\∃ x_42,(∀ u,S u->cell? u (add (mk g 0 none) 0)=some (int i64 x_42))/\∃ x_43,(∀ u,S u->cell? u (add (mk g 0 none) 1) =
 some (int i64 x_43))/\∃ x_44,(∀ u,S u->cell? u (add (mk g 0 none) 2)=some (int i64 x_44))/\∃ x_45 x_46 x_47,(∀ u,S u->cell? u (add (mk g 0 none) 3)=some
 (slice x_45 x_46 x_47))/\∃ x_48 x_49 x_50,(∀ u,S u->cell? u (add (mk g 0 none) 4)=some (slice x_48 x_49 x_50))/\∃ x_51 x_52 x_53,(∀ u,S u->cell? u (add (mk g 0 none) 5) =
 some (slice x_51 x_52 x_53))/\∃ x_54 x_55 x_56,(∀ u,S u->cell? u (add (mk g 0 none) 6)=some (slice x_54 x_55 x_56))/\∃ x_57 x_58 x_59,(∀ u,S u->cell? u (add (mk g 0
 none) 7)=some (slice x_57 x_58 x_59))/\∃ x_60 x_61 x_62,(∀ u,S u->cell? u (add (mk g 0 none) 8)=some (slice x_60 x_61 x_62))/\∃ (b:UInt8),(0<=x_41/\x[Int.toNat
 x_41]?=some b)/\CallsV Tryz.prog 47 #[agg #[int i64 x_42,int i64 x_43,int i64 x_44,slice x_45 x_46 x_47,slice x_48 x_49 x_50,slice x_51 x_52 x_53,slice x_54 x_55 x_56,slice x_57 x_58
 x_59,slice x_60 x_61 x_62],int i64 x_32,int u8 (↑(UInt8.toNat b):Int),int i64 x_40] (drew w_1) fun v w'=>∃ x,v=bool x/\bif !x then K (int i64 140) w' else I_1 (wrap i64 (x_41+1)) w'/\μ_1
 (wrap i64 (x_41+1)) w'<μ_1 x_41 w_1 else False else ∃ x,cell? w_1 (add (mk g 0 none) 0)=some (int i64 x)/\∃ x_42,cell? w_1 (add (mk g 0 none) 1)=some (int i64
 x_42)/\∃ x_43,cell? w_1 (add (mk g 0 none) 2)=some (int i64 x_43)/\∃ x_44 x_45 x_46,cell? w_1 (add (mk g 0 none) 3)=some (slice x_44 x_45 x_46)/\∃ x_47 x_48 x_49,
 cell? w_1 (add (mk g 0 none) 4)=some (slice x_47 x_48 x_49)/\∃ x_50 x_51 x_52,cell? w_1 (add (mk g 0 none) 5)=some (slice x_50 x_51 x_52)/\∃ x_53 x_54 x_55,cell? w_1
 (add (mk g 0 none) 6)=some (slice x_53 x_54 x_55)/\∃ x_56 x_57 x_58,cell? w_1 (add (mk g 0 none) 7)=some (slice x_56 x_57 x_58)/\∃ x_59 x_60 x_61,cell? w_1 (add (mk
 g 0 none) 8)=some (slice x_59 x_60 x_61)/\CallsV Tryz.prog 48 #[agg #[int i64 x,int i64 x_42,int i64 x_43,slice x_44 x_45 x_46,slice x_47 x_48 x_49,slice x_50 x_51 x_52,slice
 x_53 x_54 x_55,slice x_56 x_57 x_58,slice x_59 x_60 x_61],int i64 x_32] w_1 fun v w'=>∃ x,v=bool x/\bif !x then K (int i64 140) w' else I (wrap i64 (x_32+1)) w'/\μ (wrap i64 (x_32+1)) w'
 < μ x_32 w else K (int i64 0) w
theorem code_Check.calls (ok:Okay Tryz.prog) {p0 p1 p2 p3_A p3_n p3_c p4_A p4_n p4_c p5_A p5_n p5_c p6_A p6_n p6_c p7_A p7_n p7_c p8_A p8_n p8_c w K} (h:code_Check.W p0 p1 p2 p3_A p3_n p3_c p4_A p4_n p4_c p5_A p5_n p5_c p6_A p6_n p6_c p7_A p7_n p7_c p8_A p8_n p8_c w K):CallsV Tryz.prog 12 #[.agg #[.int .i64 p0,.int .i64 p1,.int .i64 p2,.slice p3_A p3_n p3_c,.slice p4_A p4_n p4_c,.slice p5_A p5_n p5_c,.slice p6_A p6_n p6_c,.slice p7_A p7_n p7_c,.slice p8_A p8_n p8_c]] w K :=
  fnW_calls ok Tryz.func12 (an:=(.named (.seq .auto (.seq .auto (.seq (.seq .auto (.block (.loop [(38,.one (.int .i64))] (.seq .auto (.seq .auto (.seq (.block (.seq .auto (.seq .auto (.seq .auto (.seq (.seq .auto (.block (.loop [(57,.one (.int .i64))] .auto))) .auto))))) .auto)))))) .auto))))) (args:=[.agg #[.int .i64 p0,.int .i64 p1,.int .i64 p2,.slice p3_A p3_n p3_c,.slice p4_A p4_n p4_c,.slice p5_A p5_n p5_c,.slice p6_A p6_n p6_c,.slice p7_A p7_n p7_c,.slice p8_A p8_n p8_c]]) (Eq.mp (by kernel_rfl) h)
noncomputable def code_parts_1.W:Int->Int->Int->World->(Value->World->Prop)->Prop:=fun n low high w K=>bif decide (low<=n) then K (bool (decide (n<=high))) w else K
 (bool false) w
theorem code_parts_1.calls (ok:Okay Tryz.prog) {n low high w K} (h:code_parts_1.W n low high w K):CallsV Tryz.prog 74 #[.int .i64 n,.int .i64 low,.int .i64 high] w K :=
  fnW_calls ok Tryz.func74 (an:=(.named .auto)) (args:=[.int .i64 n,.int .i64 low,.int .i64 high]) (Eq.mp (by kernel_rfl) h)
noncomputable def code_parts_2.W:ByteArray->World->(Value->World->Prop)->Prop:=fun s w K=>K (bool (decide (200<(↑(ByteArray.size s):Int)))) w
theorem code_parts_2.calls (ok:Okay Tryz.prog) {s w K} (h:code_parts_2.W s w K):CallsV Tryz.prog 75 #[.string s] w K :=
  fnW_calls ok Tryz.func75 (an:=(.named .auto)) (args:=[.string s]) (Eq.mp (by kernel_rfl) h)
noncomputable def code_parts_3.W:Int->Int->ByteArray->World->(Value->World->Prop)->Prop:=fun v0 v1 v2 w K=>∀ g w',Fresh w g w' [int u8 v0,int i64 v1,string v2] 54->∃ x,cell? w' (add
 (mk g 0 none) 0)=some (int u8 x)/\∃ x_1,cell? w' (add (mk g 0 none) 1)=some (int i64 x_1)/\∃ (x_2:ByteArray),cell? w' (add (mk g 0 none) 2)=some
 (string x_2)/\CallsV Tryz.prog 77 #[agg #[int u8 x,int i64 x_1,string x_2]] w' fun v w'=>∃ x,v=bool x/\K (bool !x) w'
theorem code_parts_3.calls (ok:Okay Tryz.prog) {v0 v1 v2 w K} (h:code_parts_3.W v0 v1 v2 w K):CallsV Tryz.prog 76 #[.agg #[.int .u8 v0,.int .i64 v1,.string v2]] w K :=
  fnW_calls ok Tryz.func76 (an:=(.named .auto)) (args:=[.agg #[.int .u8 v0,.int .i64 v1,.string v2]]) (Eq.mp (by kernel_rfl) h)
noncomputable def code_parts_4.W:ByteArray->Bool->Bool->World->(Value->World->Prop)->Prop:=fun c0 c1 c2 w K=>∀ g w',Fresh w g w' [string c0,bool c1,bool c2] 56->∃ (x:ByteArray),
 cell? w' (add (mk g 0 none) 0)=some (string x)/\bif ByteArray.toList x == ByteArray.toList (ByteArray.mk #[]) then K (bool true) w' else ∃ (x:ByteArray),cell? w' (add (mk g 0
 none) 0)=some (string x)/\bif decide (200<(↑(ByteArray.size x):Int)) then K (bool true) w' else ∃ x,cell? w' (add (mk g 0 none) 1)=some (bool x) /\
 bif x then ∃ x,cell? w' (add (mk g 0 none) 2)=some (bool x)/\K (bool x) w' else K (bool false) w'
theorem code_parts_4.calls (ok:Okay Tryz.prog) {c0 c1 c2 w K} (h:code_parts_4.W c0 c1 c2 w K):CallsV Tryz.prog 78 #[.agg #[.string c0,.bool c1,.bool c2]] w K :=
  fnW_calls ok Tryz.func78 (an:=(.named .auto)) (args:=[.agg #[.string c0,.bool c1,.bool c2]]) (Eq.mp (by kernel_rfl) h)
noncomputable def code_parts_6.W:ByteArray->Bool->World->(Value->World->Prop)->Prop:=fun t0 t1 w K=>∀ g w',Fresh w g w' [string t0,bool t1] 61->∃ (x:ByteArray),cell? w' (add (mk g 0
 none) 0)=some (string x)/\∃ x_1,cell? w' (add (mk g 0 none) 1)=some (bool x_1)/\CallsV Tryz.prog 81 #[string x,bool x_1] w' fun v w'=>∃ x x_2,v=tuple #[pointer
 x,int i64 x_2]/\K (bool !decide (x_2=0)) w'
theorem code_parts_6.calls (ok:Okay Tryz.prog) {t0 t1 w K} (h:code_parts_6.W t0 t1 w K):CallsV Tryz.prog 80 #[.agg #[.string t0,.bool t1]] w K :=
  fnW_calls ok Tryz.func80 (an:=(.named .auto)) (args:=[.agg #[.string t0,.bool t1]]) (Eq.mp (by kernel_rfl) h)
noncomputable def code_shape.W:Int->World->(Value->World->Prop)->Prop:=fun o w K=>∃ (x:Option Nat) (w':World),RunsTo Tryz.prog (Instr.makeMap 132 none) w (map x) w'/\∃ w'_1,
 RunsTo Tryz.prog (Instr.mapUpdate 132 (map x) (int u8 1) (agg #[string (ByteArray.mk #[(114:UInt8),(107:UInt8),(45:UInt8),(45:UInt8)])])) w' () w'_1/\∃ w',RunsTo Tryz.prog (Instr.mapUpdate
 132 (map x) (int u8 2) (agg #[string (ByteArray.mk #[(114:UInt8),(98:UInt8),(45:UInt8),(45:UInt8)])])) w'_1 () w'/\∃ w'_2,RunsTo Tryz.prog (Instr.mapUpdate 132 (map x) (int u8 3) (agg
 #[string (ByteArray.mk #[(114:UInt8),(114:UInt8),(45:UInt8),(45:UInt8)])])) w' () w'_2/\∃ w',RunsTo Tryz.prog (Instr.mapUpdate 132 (map x) (int u8 4) (agg #[string (ByteArray.mk #[(114 :
 UInt8),(114:UInt8),(114:UInt8),(50:UInt8)])])) w'_2 () w'/\∃ w'_3,RunsTo Tryz.prog (Instr.mapUpdate 132 (map x) (int u8 5) (agg #[string (ByteArray.mk #[(114:UInt8),(114:UInt8),(45 :
 UInt8),(49:UInt8)])])) w' () w'_3/\∃ w',RunsTo Tryz.prog (Instr.mapUpdate 132 (map x) (int u8 6) (agg #[string (ByteArray.mk #[(114:UInt8),(114:UInt8),(45:UInt8),(49:UInt8)])])) w'_3 ()
 w'/\∃ w'_4,RunsTo Tryz.prog (Instr.mapUpdate 132 (map x) (int u8 7) (agg #[string (ByteArray.mk #[(114:UInt8),(114:UInt8),(45:UInt8),(49:UInt8)])])) w' () w'_4/\∃ w',RunsTo Tryz.prog
 (Instr.mapUpdate 132 (map x) (int u8 8) (agg #[string (ByteArray.mk #[(114:UInt8),(114:UInt8),(109:UInt8),(102:UInt8)])])) w'_4 () w'/\∃ w'_5,RunsTo Tryz.prog (Instr.mapUpdate 132 (map x)
 (int u8 9) (agg #[string (ByteArray.mk #[(114:UInt8),(45:UInt8),(45:UInt8),(49:UInt8)])])) w' () w'_5/\∃ w',RunsTo Tryz.prog (Instr.mapUpdate 132 (map x) (int u8 10) (agg #[string
 (ByteArray.mk #[(106:UInt8),(45:UInt8),(45:UInt8),(45:UInt8)])])) w'_5 () w'/\∃ w'_6,RunsTo Tryz.prog (Instr.mapUpdate 132 (map x) (int u8 11) (agg #[string (ByteArray.mk #[(106:UInt8),
 (114:UInt8),(45:UInt8),(45:UInt8)])])) w' () w'_6/\∃ w',RunsTo Tryz.prog (Instr.mapUpdate 132 (map x) (int u8 12) (agg #[string (ByteArray.mk #[(106:UInt8),(114:UInt8),(114:UInt8),
 (109:UInt8)])])) w'_6 () w'/\∃ w'_7,RunsTo Tryz.prog (Instr.mapUpdate 132 (map x) (int u8 13) (agg #[string (ByteArray.mk #[(99:UInt8),(106:UInt8),(45:UInt8),(45:UInt8)])])) w' () w'_7 /\
 ∃ w',RunsTo Tryz.prog (Instr.mapUpdate 132 (map x) (int u8 14) (agg #[string (ByteArray.mk #[(105:UInt8),(106:UInt8),(114:UInt8),(109:UInt8)])])) w'_7 () w'/\∃ w'_8,RunsTo Tryz.prog
 (Instr.mapUpdate 132 (map x) (int u8 15) (agg #[string (ByteArray.mk #[(99:UInt8),(110:UInt8),(45:UInt8),(45:UInt8)])])) w' () w'_8/\∃ w',RunsTo Tryz.prog (Instr.mapUpdate 132 (map x) (int
 u8 16) (agg #[string (ByteArray.mk #[(105:UInt8),(106:UInt8),(114:UInt8),(109:UInt8)])])) w'_8 () w'/\∃ w'_9,RunsTo Tryz.prog (Instr.mapUpdate 132 (map x) (int u8 17) (agg #[string
 (ByteArray.mk #[(108:UInt8),(106:UInt8),(114:UInt8),(45:UInt8)])])) w' () w'_9/\∃ w',RunsTo Tryz.prog (Instr.mapUpdate 132 (map x) (int u8 18) (agg #[string (ByteArray.mk #[(114:UInt8),
 (99:UInt8),(120:UInt8),(45:UInt8)])])) w'_9 () w'/\∃ w'_10,RunsTo Tryz.prog (Instr.mapUpdate 132 (map x) (int u8 19) (agg #[string (ByteArray.mk #[(114:UInt8),(99:UInt8),(45:UInt8),
 (45:UInt8)])])) w' () w'_10/\∃ w',RunsTo Tryz.prog (Instr.mapUpdate 132 (map x) (int u8 20) (agg #[string (ByteArray.mk #[(115:UInt8),(114:UInt8),(114:UInt8),(45:UInt8)])])) w'_10 () w'
 /\ ∃ w'_11,RunsTo Tryz.prog (Instr.mapUpdate 132 (map x) (int u8 21) (agg #[string (ByteArray.mk #[(115:UInt8),(106:UInt8),(45:UInt8),(45:UInt8)])])) w' () w'_11/\∃ w',RunsTo Tryz.prog
 (Instr.mapUpdate 132 (map x) (int u8 22) (agg #[string (ByteArray.mk #[(115:UInt8),(110:UInt8),(45:UInt8),(45:UInt8)])])) w'_11 () w'/\∃ w'_12,RunsTo Tryz.prog (Instr.mapUpdate 132 (map x)
 (int u8 23) (agg #[string (ByteArray.mk #[(114:UInt8),(115:UInt8),(120:UInt8),(45:UInt8)])])) w' () w'_12/\∃ w',RunsTo Tryz.prog (Instr.mapUpdate 132 (map x) (int u8 24) (agg #[string
 (ByteArray.mk #[(116:UInt8),(45:UInt8),(45:UInt8),(45:UInt8)])])) w'_12 () w'/\∃ w'_13,RunsTo Tryz.prog (Instr.mapUpdate 132 (map x) (int u8 25) (agg #[string (ByteArray.mk #[(116 :
 UInt8),(114:UInt8),(45:UInt8),(45:UInt8)])])) w' () w'_13/\∃ w',RunsTo Tryz.prog (Instr.mapUpdate 132 (map x) (int u8 26) (agg #[string (ByteArray.mk #[(114:UInt8),(116:UInt8),(45 :
 UInt8),(45:UInt8)])])) w'_13 () w'/\∃ w'_14,RunsTo Tryz.prog (Instr.mapUpdate 132 (map x) (int u8 27) (agg #[string (ByteArray.mk #[(114:UInt8),(45:UInt8),(45:UInt8),(45:UInt8)])])) w'
 () w'_14/\∃ w',RunsTo Tryz.prog (Instr.mapUpdate 132 (map x) (int u8 28) (agg #[string (ByteArray.mk #[(114:UInt8),(119:UInt8),(45:UInt8),(45:UInt8)])])) w'_14 () w'/\∃ w'_15,RunsTo
 Tryz.prog (Instr.mapUpdate 132 (map x) (int u8 29) (agg #[string (ByteArray.mk #[(119:UInt8),(114:UInt8),(114:UInt8),(45:UInt8)])])) w' () w'_15/\∃ w',RunsTo Tryz.prog (Instr.mapUpdate 132
 (map x) (int u8 30) (agg #[string (ByteArray.mk #[(119:UInt8),(114:UInt8),(45:UInt8),(45:UInt8)])])) w'_15 () w'/\∃ w'_16,RunsTo Tryz.prog (Instr.mapUpdate 132 (map x) (int u8 31) (agg
 #[string (ByteArray.mk #[(113:UInt8),(45:UInt8),(45:UInt8),(45:UInt8)])])) w' () w'_16/\∃ w',RunsTo Tryz.prog (Instr.mapUpdate 132 (map x) (int u8 32) (agg #[string (ByteArray.mk #[(45 :
 UInt8),(45:UInt8),(45:UInt8),(45:UInt8)])])) w'_16 () w'/\∃ w'_17,RunsTo Tryz.prog (Instr.mapUpdate 132 (map x) (int u8 33) (agg #[string (ByteArray.mk #[(45:UInt8),(45:UInt8),(45 :
 UInt8),(45:UInt8)])])) w' () w'_17/\∃ w',RunsTo Tryz.prog (Instr.mapUpdate 132 (map x) (int u8 34) (agg #[string (ByteArray.mk #[(45:UInt8),(45:UInt8),(45:UInt8),(45:UInt8)])])) w'_17
 () w'/\∃ w'_18,RunsTo Tryz.prog (Instr.mapUpdate 132 (map x) (int u8 35) (agg #[string (ByteArray.mk #[(45:UInt8),(45:UInt8),(45:UInt8),(45:UInt8)])])) w' () w'_18/\∃ (x_1:ByteArray)
 (w':World),RunsTo Tryz.prog (Instr.lookup 132 (map x) (int u8 o) false) w'_18 (agg #[string x_1]) w'/\K (string x_1) w'
theorem code_shape.calls (ok:Okay Tryz.prog) {o w K} (h:code_shape.W o w K):CallsV Tryz.prog 46 #[.int .u8 o] w K :=
  fnW_calls ok Tryz.func46 (an:=(.named .auto)) (args:=[.int .u8 o]) (Eq.mp (by kernel_rfl) h)
noncomputable def code_field_1.W:Int->Addr->World->(Value->World->Prop)->Prop:=fun high a1 w K=>∀ g w',Fresh w g w' [int i64 high] 3->K (func (Fn.func 88) #[] #[pointer (some a1),
 pointer (some (mk g 0 none))]) w'
theorem code_field_1.calls (ok:Okay Tryz.prog) {high a1 w K} (h:code_field_1.W high a1 w K):CallsV Tryz.prog 87 #[.int .i64 high,.pointer (some a1)] w K :=
  fnW_calls ok Tryz.func87 (an:=(.named .auto)) (args:=[.int .i64 high,.pointer (some a1)]) (Eq.mp (by kernel_rfl) h)
noncomputable def code_field_1_1.W:Addr->Addr->World->(Value->World->Prop)->Prop:=fun a0 a1 w K=>∃ x,cell? w a0=some (int i64 x)/\bif decide (0<=x) then ∃ x,cell? w
 a0=some (int i64 x)/\∃ x_1,cell? w a1=some (int i64 x_1)/\K (bool (decide (x<x_1))) w else K (bool false) w
theorem code_field_1_1.calls (ok:Okay Tryz.prog) {a0 a1 w K} (h:code_field_1_1.W a0 a1 w K):CallsV Tryz.prog 88 #[.pointer (some a0),.pointer (some a1)] w K :=
  fnW_calls ok Tryz.func88 (an:=(.named .auto)) (args:=[.pointer (some a0),.pointer (some a1)]) (Eq.mp (by kernel_rfl) h)
noncomputable def code_field_3.W:Addr->World->(Value->World->Prop)->Prop:=fun a0 w K=>∃ x,cell? w a0=some (int i64 x)/\K (bool (decide (x=0))) w
theorem code_field_3.calls (ok:Okay Tryz.prog) {a0 w K} (h:code_field_3.W a0 w K):CallsV Tryz.prog 91 #[.pointer (some a0)] w K :=
  fnW_calls ok Tryz.func91 (an:=(.named .auto)) (args:=[.pointer (some a0)]) (Eq.mp (by kernel_rfl) h)
noncomputable def code_field_4.W:Addr->Addr->Addr->World->(Value->World->Prop)->Prop:=fun a0 a1 a2 w K=>∃ x,cell? w a0=some (int i64 x)/\∃ x_1,cell? w a1=some (int i64
 x_1)/\bif decide (x_1<x) then ∃ x,cell? w a0=some (int i64 x)/\∃ x_2 x_3 x_4,cell? w (add a2 8)=some (slice x_2 x_3 x_4)/\K (bool (decide (x<(x_3 :
 Int)))) w else K (bool false) w
theorem code_field_4.calls (ok:Okay Tryz.prog) {a0 a1 a2 w K} (h:code_field_4.W a0 a1 a2 w K):CallsV Tryz.prog 92 #[.pointer (some a0),.pointer (some a1),.pointer (some a2)] w K :=
  fnW_calls ok Tryz.func92 (an:=(.named .auto)) (args:=[.pointer (some a0),.pointer (some a1),.pointer (some a2)]) (Eq.mp (by kernel_rfl) h)
noncomputable def code_field_5.W:Addr->Addr->World->(Value->World->Prop)->Prop:=fun a0 a1 w K=>∃ x,cell? w a0=some (int i64 x)/\bif decide (1<=x) then ∃ x,cell? w a0
 = some (int i64 x)/\∃ x_1,cell? w a1=some (int i64 x_1)/\K (bool (decide (x<=x_1))) w else K (bool false) w
theorem code_field_5.calls (ok:Okay Tryz.prog) {a0 a1 w K} (h:code_field_5.W a0 a1 w K):CallsV Tryz.prog 93 #[.pointer (some a0),.pointer (some a1)] w K :=
  fnW_calls ok Tryz.func93 (an:=(.named .auto)) (args:=[.pointer (some a0),.pointer (some a1)]) (Eq.mp (by kernel_rfl) h)
noncomputable def code_field_6.W:Addr->Addr->World->(Value->World->Prop)->Prop:=fun a0 a1 w K=>∃ x,cell? w a0=some (int i64 x)/\bif decide (1<=x) then ∃ x,cell? w a0
 = some (int i64 x)/\∃ x_1,cell? w (add a1 1)=some (int i64 x_1)/\K (bool (decide (x<=x_1))) w else K (bool false) w
theorem code_field_6.calls (ok:Okay Tryz.prog) {a0 a1 w K} (h:code_field_6.W a0 a1 w K):CallsV Tryz.prog 94 #[.pointer (some a0),.pointer (some a1)] w K :=
  fnW_calls ok Tryz.func94 (an:=(.named .auto)) (args:=[.pointer (some a0),.pointer (some a1)]) (Eq.mp (by kernel_rfl) h)
noncomputable def code_field_7.W:ByteArray->Bool->Bool->World->(Value->World->Prop)->Prop:=fun c0 c1 c2 w K=>∀ g w',Fresh w g w' [string c0,bool c1,bool c2] 56->∃ x,cell? w' (add (mk
 g 0 none) 1)=some (bool x)/\K (bool x) w'
theorem code_field_7.calls (ok:Okay Tryz.prog) {c0 c1 c2 w K} (h:code_field_7.W c0 c1 c2 w K):CallsV Tryz.prog 95 #[.agg #[.string c0,.bool c1,.bool c2]] w K :=
  fnW_calls ok Tryz.func95 (an:=(.named .auto)) (args:=[.agg #[.string c0,.bool c1,.bool c2]]) (Eq.mp (by kernel_rfl) h)
noncomputable def code_field_8.W:ByteArray->Bool->Bool->World->(Value->World->Prop)->Prop:=fun c0 c1 c2 w K=>∀ g w',Fresh w g w' [string c0,bool c1,bool c2] 56->∃ x,cell? w' (add (mk
 g 0 none) 1)=some (bool x)/\K (bool !x) w'
theorem code_field_8.calls (ok:Okay Tryz.prog) {c0 c1 c2 w K} (h:code_field_8.W c0 c1 c2 w K):CallsV Tryz.prog 96 #[.agg #[.string c0,.bool c1,.bool c2]] w K :=
  fnW_calls ok Tryz.func96 (an:=(.named .auto)) (args:=[.agg #[.string c0,.bool c1,.bool c2]]) (Eq.mp (by kernel_rfl) h)
noncomputable def code_field_9.W:ByteArray->Bool->Bool->World->(Value->World->Prop)->Prop:=fun c0 c1 c2 w K=>∀ g w',Fresh w g w' [string c0,bool c1,bool c2] 56->∃ x,cell? w' (add (mk
 g 0 none) 1)=some (bool x)/\bif !x then ∃ x,cell? w' (add (mk g 0 none) 2)=some (bool x)/\K (bool x) w' else K (bool false) w'
theorem code_field_9.calls (ok:Okay Tryz.prog) {c0 c1 c2 w K} (h:code_field_9.W c0 c1 c2 w K):CallsV Tryz.prog 97 #[.agg #[.string c0,.bool c1,.bool c2]] w K :=
  fnW_calls ok Tryz.func97 (an:=(.named .auto)) (args:=[.agg #[.string c0,.bool c1,.bool c2]]) (Eq.mp (by kernel_rfl) h)
noncomputable def code_runs.W:Int->Int->Int->Option Addr->Nat->Nat->Option Addr->Nat->Nat->Option Addr->Nat->Nat->Option Addr->Nat->Nat->Option Addr->Nat->Nat->Option Addr->Nat ->
 Nat->Int->World->(Value->World->Prop)->Prop:=fun p0 p1 p2 p3_A p3_n p3_c p4_A p4_n p4_c p5_A p5_n p5_c p6_A p6_n p6_c p7_A p7_n p7_c p8_A p8_n p8_c atx w K=>∀ g w',Fresh w g w' [int i64 p0,
 int i64 p1,int i64 p2,slice p3_A p3_n p3_c,slice p4_A p4_n p4_c,slice p5_A p5_n p5_c,slice p6_A p6_n p6_c,slice p7_A p7_n p7_c,slice p8_A p8_n p8_c] 29->∃ x x_1 x_2,cell? w' (add (mk g 0
 none) 8)=some (slice x x_1 x_2)/\∃ ad,x=some ad/\(0<=atx/\atx<(x_1:Int))/\∃ x,cell? w' (add (add ad (Int.toNat atx*5)) 0)=some (int u8 x)/\∃ x_3,cell?
 w' (add (add ad (Int.toNat atx*5)) 1)=some (int i64 x_3)/\∃ x_4,cell? w' (add (add ad (Int.toNat atx*5)) 2)=some (int i64 x_4)/\∃ x_5,cell? w' (add (add ad (Int.toNat atx *
 5)) 3)=some (int i64 x_5)/\∃ x_6,cell? w' (add (add ad (Int.toNat atx*5)) 4)=some (int i64 x_6)/\∀ g_1 w'_1,Fresh w' g_1 w'_1 [int u8 0,int i64 0,int i64 0,int i64 0,int i64
 0] 46->stOK (mk g_1 0 none) 0 [int u8 x,int i64 x_3,int i64 x_4,int i64 x_5,int i64 x_6] w'_1/\∀ w',w'=setAll (mk g_1 0 none) 0 [int u8 x,int i64 x_3,int i64 x_4,int i64 x_5,
 int i64 x_6] w'_1->∃ x,cell? w' (add (mk g_1 0 none) 0)=some (int u8 x)/\bif decide (x=8) then ∃ x,cell? w' (add (mk g_1 0 none) 4)=some (int i64 x) /\
 CallsV Tryz.prog 18 #[int i64 x] w' fun v w'=>∃ (x:ByteArray) (x_7:Bool),v=tuple #[string x,bool x_7]/\∃ x_8,cell? w' (add (mk g_1 0 none) 3)=some (int i64 x_8)/\bif
 decide (x_8<=100) then ∃ x_9,cell? w' (add (mk g_1 0 none) 2)=some (int i64 x_9)/\∃ x_10,cell? w' (add (mk g_1 0 none) 3)=some (int i64 x_10)/\CallsV
 Tryz.prog 99 #[int i64 x_9,int i64 x_10,pointer (some (mk g 0 none))] w' fun v w'=>∃ x_11,v=bool x_11/\bif x_11 then ∃ x_12,cell? w' (add (mk g_1 0 none) 3)=some
 (int i64 x_12)/\CallsV Tryz.prog 100 #[string x,int i64 x_12] w' fun v w'=>∃ x,v=bool x/\K (bool x) w' else K (bool false) w' else K (bool false) w' else bif decide (x=12)
 then ∃ x,cell? w' (add (mk g_1 0 none) 2)=some (int i64 x)/\∃ x_7,cell? w' (add (mk g_1 0 none) 4)=some (int i64 x_7)/\CallsV Tryz.prog 99 #[int i64 x,int i64 x_7,
 pointer (some (mk g 0 none))] w' fun v w'=>∃ x,v=bool x/\bif x then ∃ x,cell? w' (add (mk g_1 0 none) 3)=some (int i64 x)/\∃ x_8,cell? w' (add (mk g_1 0
 none) 4)=some (int i64 x_8)/\CallsV Tryz.prog 99 #[int i64 x,int i64 x_8,pointer (some (mk g 0 none))] w' fun v w'=>∃ x,v=bool x/\K (bool x) w' else K (bool
 false) w' else ∃ (J:Bool->World->Prop),(∀ x_7 w,J x_7 w->bif x_7 then ∃ x,cell? w (add (mk g_1 0 none) 3)=some (int i64 x)/\∃ x_8,cell? w (add (mk g_1 0 none) 4) =
 some (int i64 x_8)/\CallsV Tryz.prog 99 #[int i64 x,int i64 x_8,pointer (some (mk g 0 none))] w fun v w'=>∃ x,v=bool x/\K (bool x) w' else bif decide (x=18)
 then ∃ x,cell? w (add (mk g_1 0 none) 3)=some (int i64 x)/\K (bool (decide (x<30))) w else bif decide (x=23) then ∃ (S:World->Prop),S (drew w)/\∃ x,(∀ u,
 S u->cell? u (add (mk g_1 0 none) 3)=some (int i64 x))/\∃ x_8 x_9 x_10,(∀ u,S u->cell? u (add (mk g 0 none) 6)=some (slice x_8 x_9 x_10))/\∃ x_11,(∀ u,S u ->
 cell? u (add (mk g_1 0 none) 2)=some (int i64 x_11))/\∃ ad,x_8=some ad/\(0<=x_11/\x_11<(x_9:Int))/\∃ x_12,(∀ u,S u->cell? u (add (add ad (Int.toNat x_11*3)) 1) =
 some (int i64 x_12))/\K (bool (decide (x<x_12))) (drew w) else bif decide (x=20) then ∃ (S:World->Prop),S (drew w)/\∃ x,(∀ u,S u->cell? u (add (mk g_1 0
 none) 2)=some (int i64 x))/\∃ x_8 x_9 x_10,(∀ u,S u->cell? u (add (mk g 0 none) 6)=some (slice x_8 x_9 x_10))/\∃ x_11,(∀ u,S u->cell? u (add (mk g_1 0
 none) 1)=some (int i64 x_11))/\∃ ad,x_8=some ad/\(0<=x_11/\x_11<(x_9:Int))/\∃ x_12 x_13 x_14,(∀ u,S u->cell? u (add (add ad (Int.toNat x_11*3)) 0)=some
 (slice x_12 x_13 x_14))/\CallsV Tryz.prog 99 #[int i64 x,int i64 (x_13:Int),pointer (some (mk g 0 none))] (drew w) fun v w'=>∃ x,v=bool x/\S w'/\bif x then ∃ (S_1:World ->
 Prop),S_1 w'/\∃ x,(∀ u,S_1 u->cell? u (add (mk g_1 0 none) 3)=some (int i64 x))/\∃ x_15 x_16 x_17,(∀ u,S_1 u->cell? u (add (mk g 0 none) 6)=some (slice x_15
 x_16 x_17))/\∃ x_18,(∀ u,S_1 u->cell? u (add (mk g_1 0 none) 1)=some (int i64 x_18))/\∃ ad,x_15=some ad/\(0<=x_18/\x_18<(x_16:Int))/\∃ x_19,(∀ u,S_1 u->cell? u
 (add (add ad (Int.toNat x_18*3)) 1)=some (int i64 x_19))/\CallsV Tryz.prog 99 #[int i64 x,int i64 x_19,pointer (some (mk g 0 none))] w' fun v w'=>∃ x,v=bool x/\S_1 w'
 /\ S w'/\K (bool x) w' else K (bool false) w' else bif decide (x=27) then ∃ x,cell? w (add (mk g_1 0 none) 1)=some (int i64 x)/\∃ x_8 x_9 x_10,cell? w (add (mk g 0
 none) 3)=some (slice x_8 x_9 x_10)/\CallsV Tryz.prog 99 #[int i64 x,int i64 (x_9:Int),pointer (some (mk g 0 none))] w fun v w'=>∃ x,v=bool x/\K (bool x) w' else
 ∃ (J:Bool->World->Prop),(∀ x w,J x w->bif x then bif decide (atx=0) then ∃ x x_8 x_9,cell? w (add (mk g 0 none) 8)=some (slice x x_8 x_9)/\K (bool (decide
 ((x_8:Int)=2))) w else K (bool false) w else K (bool true) w)/\bif decide (x=31) then J (decide (x=31)) w else bif decide (x=32) then J
 (decide (x=32)) w else bif decide (x=33) then J (decide (x=33)) w else J (decide (x=34)) w)/\bif decide (x=14) then J (decide (x =
 14)) w' else J (decide (x=16)) w'
theorem code_runs.calls (ok:Okay Tryz.prog) {p0 p1 p2 p3_A p3_n p3_c p4_A p4_n p4_c p5_A p5_n p5_c p6_A p6_n p6_c p7_A p7_n p7_c p8_A p8_n p8_c atx w K} (h:code_runs.W p0 p1 p2 p3_A p3_n p3_c p4_A p4_n p4_c p5_A p5_n p5_c p6_A p6_n p6_c p7_A p7_n p7_c p8_A p8_n p8_c atx w K):CallsV Tryz.prog 48 #[.agg #[.int .i64 p0,.int .i64 p1,.int .i64 p2,.slice p3_A p3_n p3_c,.slice p4_A p4_n p4_c,.slice p5_A p5_n p5_c,.slice p6_A p6_n p6_c,.slice p7_A p7_n p7_c,.slice p8_A p8_n p8_c],.int .i64 atx] w K :=
  fnW_calls ok Tryz.func48 (an:=(.named (.seq .auto (.seq .auto (.seq .auto (.seq (.seq .auto (.block (.seq .auto (.cond .auto (.seq .auto (.cond .auto (.join [(58,.one .bool)] .auto (.cond .auto (.seq .auto (.cond .auto (.seq .auto (.cond .auto (.seq .auto (.cond .auto (.seq .auto (.cond .auto (.join [(120,.one .bool)] .auto .auto))))))))))))))))) .auto)))))) (args:=[.agg #[.int .i64 p0,.int .i64 p1,.int .i64 p2,.slice p3_A p3_n p3_c,.slice p4_A p4_n p4_c,.slice p5_A p5_n p5_c,.slice p6_A p6_n p6_c,.slice p7_A p7_n p7_c,.slice p8_A p8_n p8_c],.int .i64 atx]) (Eq.mp (by kernel_rfl) h)
noncomputable def code_runs_1.W:Int->Int->Addr->World->(Value->World->Prop)->Prop:=fun fromx many a2 w K=>∃ x,cell? w (add a2 1)=some (int i64 x)/\K (bool (decide
 (many<=wrap i64 (x-fromx)))) w
theorem code_runs_1.calls (ok:Okay Tryz.prog) {fromx many a2 w K} (h:code_runs_1.W fromx many a2 w K):CallsV Tryz.prog 99 #[.int .i64 fromx,.int .i64 many,.pointer (some a2)] w K :=
  fnW_calls ok Tryz.func99 (an:=(.named .auto)) (args:=[.int .i64 fromx,.int .i64 many,.pointer (some a2)]) (Eq.mp (by kernel_rfl) h)
noncomputable def code_Func.W:Int->World->(Value->World->Prop)->Prop:=fun d w K=>CallsV Tryz.prog 56 #[string (ByteArray.mk #[(108:UInt8),(101:UInt8),(110:UInt8),(103:UInt8),(116
 : UInt8),(104:UInt8),(32:UInt8),(117:UInt8),(112:UInt8),(112:UInt8),(101:UInt8),(114:UInt8),(32:UInt8),(108:UInt8),(111:UInt8),(119:UInt8),(101:UInt8),(114 :
 UInt8),(32:UInt8),(97:UInt8),(98:UInt8),(115:UInt8),(32:UInt8),(116:UInt8),(121:UInt8),(112:UInt8),(101:UInt8),(111:UInt8),(102:UInt8),(32:UInt8),(104:UInt8),
 (101:UInt8),(120:UInt8),(32:UInt8),(105:UInt8),(102:UInt8),(110:UInt8),(117:UInt8),(108:UInt8),(108:UInt8),(32:UInt8),(105:UInt8),(110:UInt8),(115:UInt8),(116 :
 UInt8),(114:UInt8),(32:UInt8),(115:UInt8),(117:UInt8),(98:UInt8),(115:UInt8),(116:UInt8),(114:UInt8),(32:UInt8),(99:UInt8),(111:UInt8),(97:UInt8),(108:UInt8),
 (101:UInt8),(115:UInt8),(99:UInt8),(101:UInt8)]),int i64 d] w fun v w'=>∃ (x:ByteArray) (x_1:Bool),v=tuple #[string x,bool x_1]/\K (tuple #[string x,bool x_1]) w'
theorem code_Func.calls (ok:Okay Tryz.prog) {d w K} (h:code_Func.W d w K):CallsV Tryz.prog 18 #[.int .i64 d] w K :=
  fnW_calls ok Tryz.func18 (an:=(.named .auto)) (args:=[.int .i64 d]) (Eq.mp (by kernel_rfl) h)
noncomputable def code_named.W:ByteArray->Int->World->(Value->World->Prop)->Prop:=fun words d w K=>CallsV Tryz.prog 110 #[string words] w fun v w'=>∃ x x_1 x_2,v=slice x x_1 x_2/\bif
 decide (d<0) then K (tuple #[string (ByteArray.mk #[]),bool false]) w' else bif decide ((x_1:Int)<=d) then K (tuple #[string (ByteArray.mk #[]),bool false]) w' else
 ∃ ad,x=some ad/\(0<=d/\d<(x_1:Int))/\∃ (x:ByteArray),cell? w' (add ad (Int.toNat d*1))=some (string x)/\K (tuple #[string x,bool true]) w'
theorem code_named.calls (ok:Okay Tryz.prog) {words d w K} (h:code_named.W words d w K):CallsV Tryz.prog 56 #[.string words,.int .i64 d] w K :=
  fnW_calls ok Tryz.func56 (an:=(.named .auto)) (args:=[.string words,.int .i64 d]) (Eq.mp (by kernel_rfl) h)
noncomputable def value_Known.W:ByteArray->Int->World->(Value->World->Prop)->Prop:=fun name args w K=>∃ (J:Bool->World->Prop),(∀ x w,J x w->bif x then K (bool (decide (args
 = 1))) w else ∃ (J:Bool->World->Prop),(∀ x w,J x w->bif x then K (bool (decide (args=2))) w else bif ByteArray.toList name == ByteArray.toList (ByteArray.mk #[(115:UInt8),(117 :
 UInt8),(98:UInt8),(115:UInt8),(116:UInt8),(114:UInt8)]) then bif decide (args=2) then K (bool true) w else K (bool (decide (args=3))) w else bif
 ByteArray.toList name == ByteArray.toList (ByteArray.mk #[(99:UInt8),(111:UInt8),(97:UInt8),(108:UInt8),(101:UInt8),(115:UInt8),(99:UInt8),(101:UInt8)]) then bif decide
 (2<=args) then K (bool (decide (args<=100))) w else K (bool false) w else K (bool false) w)/\bif ByteArray.toList name == ByteArray.toList (ByteArray.mk #[(105:UInt8),(102 :
 UInt8),(110:UInt8),(117:UInt8),(108:UInt8),(108:UInt8)]) then J (ByteArray.toList name == ByteArray.toList (ByteArray.mk #[(105:UInt8),(102:UInt8),(110:UInt8),(117:UInt8),(108 :
 UInt8),(108:UInt8)])) w else J (ByteArray.toList name == ByteArray.toList (ByteArray.mk #[(105:UInt8),(110:UInt8),(115:UInt8),(116:UInt8),(114:UInt8)])) w)/\bif ByteArray.toList name
 == ByteArray.toList (ByteArray.mk #[(108:UInt8),(101:UInt8),(110:UInt8),(103:UInt8),(116:UInt8),(104:UInt8)]) then J (ByteArray.toList name == ByteArray.toList (ByteArray.mk #[(108 :
 UInt8),(101:UInt8),(110:UInt8),(103:UInt8),(116:UInt8),(104:UInt8)])) w else bif ByteArray.toList name == ByteArray.toList (ByteArray.mk #[(117:UInt8),(112:UInt8),(112:UInt8),
 (101:UInt8),(114:UInt8)]) then J (ByteArray.toList name == ByteArray.toList (ByteArray.mk #[(117:UInt8),(112:UInt8),(112:UInt8),(101:UInt8),(114:UInt8)])) w else bif ByteArray.toList
 name == ByteArray.toList (ByteArray.mk #[(108:UInt8),(111:UInt8),(119:UInt8),(101:UInt8),(114:UInt8)]) then J (ByteArray.toList name == ByteArray.toList (ByteArray.mk #[(108:UInt8),
 (111:UInt8),(119:UInt8),(101:UInt8),(114:UInt8)])) w else bif ByteArray.toList name == ByteArray.toList (ByteArray.mk #[(97:UInt8),(98:UInt8),(115:UInt8)]) then J (ByteArray.toList
 name == ByteArray.toList (ByteArray.mk #[(97:UInt8),(98:UInt8),(115:UInt8)])) w else bif ByteArray.toList name == ByteArray.toList (ByteArray.mk #[(116:UInt8),(121:UInt8),(112:UInt8),
 (101:UInt8),(111:UInt8),(102:UInt8)]) then J (ByteArray.toList name == ByteArray.toList (ByteArray.mk #[(116:UInt8),(121:UInt8),(112:UInt8),(101:UInt8),(111:UInt8),(102 :
 UInt8)])) w else J (ByteArray.toList name == ByteArray.toList (ByteArray.mk #[(104:UInt8),(101:UInt8),(120:UInt8)])) w
theorem value_Known.calls (ok:Okay Tryz.prog) {name args w K} (h:value_Known.W name args w K):CallsV Tryz.prog 100 #[.string name,.int .i64 args] w K :=
  fnW_calls ok Tryz.func100 (an:=(.named (.seq .auto (.seq (.seq .auto (.block (.join [(6,.one .bool)] .auto (.cond .auto (.join [(15,.one .bool)] .auto .auto))))) .auto)))) (args:=[.string name,.int .i64 args]) (Eq.mp (by kernel_rfl) h)
noncomputable def value_Right.W:Int->Int->ByteArray->World->(Value->World->Prop)->Prop:=fun v0 v1 v2 w K=>∀ g w',Fresh w g w' [int u8 v0,int i64 v1,string v2] 54->∃ x,cell? w' (add
 (mk g 0 none) 0)=some (int u8 x)/\bif decide (x=0) then ∃ x,cell? w' (add (mk g 0 none) 1)=some (int i64 x)/\bif decide (x=0) then ∃ (x :
 ByteArray),cell? w' (add (mk g 0 none) 2)=some (string x)/\K (bool (ByteArray.toList x == ByteArray.toList (ByteArray.mk #[]))) w' else K (bool false) w' else bif
 decide (x=1) then ∃ (x:ByteArray),cell? w' (add (mk g 0 none) 2)=some (string x)/\K (bool (ByteArray.toList x == ByteArray.toList (ByteArray.mk #[]))) w' else bif
 decide (x=2) then bif decide (x=2) then ∃ x,cell? w' (add (mk g 0 none) 1)=some (int i64 x)/\bif decide (x=0) then ∃ (x:ByteArray),cell? w' (add
 (mk g 0 none) 2)=some (string x)/\K (bool (decide ((↑(ByteArray.size x):Int)<=65536))) w' else K (bool false) w' else K (bool false) w' else bif decide
 (x=3) then ∃ x,cell? w' (add (mk g 0 none) 1)=some (int i64 x)/\bif decide (x=0) then ∃ (x:ByteArray),cell? w' (add (mk g 0 none) 2)=some (string x) /\
 K (bool (decide ((↑(ByteArray.size x):Int)<=65536))) w' else K (bool false) w' else K (bool false) w'
theorem value_Right.calls (ok:Okay Tryz.prog) {v0 v1 v2 w K} (h:value_Right.W v0 v1 v2 w K):CallsV Tryz.prog 77 #[.agg #[.int .u8 v0,.int .i64 v1,.string v2]] w K :=
  fnW_calls ok Tryz.func77 (an:=(.named .auto)) (args:=[.agg #[.int .u8 v0,.int .i64 v1,.string v2]]) (Eq.mp (by kernel_rfl) h)
noncomputable def agg_New.W:ByteArray->Bool->World->(Value->World->Prop)->Prop:=fun name distinct w K=>CallsV Tryz.prog 128 #[string name] w fun v w'=>∃ x,v=bool x/\bif !x then K
 (tuple #[pointer none,int i64 21]) w' else bif distinct then bif ByteArray.toList name == ByteArray.toList (ByteArray.mk #[(99:UInt8),(111:UInt8),(117:UInt8),(110:UInt8),(116 :
 UInt8),(42:UInt8)]) then K (tuple #[pointer none,int i64 2]) w' else ∀ g w'_1,Fresh w' g w'_1 [string name,bool distinct,int i64 0,int u64 0,int u64 0,int u8 0,int i64 0,string
 (ByteArray.mk #[]),slice none 0 0,map none] 151->CallsV Tryz.prog 129 #[pointer (some (mk g 0 none))] w'_1 fun v w'=>v=tuple #[]/\K (tuple #[pointer (some (mk
 g 0 none)),int i64 0]) w' else ∀ g w'_1,Fresh w' g w'_1 [string name,bool distinct,int i64 0,int u64 0,int u64 0,int u8 0,int i64 0,string (ByteArray.mk #[]),slice none 0 0,map
 none] 151->CallsV Tryz.prog 129 #[pointer (some (mk g 0 none))] w'_1 fun v w'=>v=tuple #[]/\K (tuple #[pointer (some (mk g 0 none)),int i64 0]) w'
theorem agg_New.calls (ok:Okay Tryz.prog) {name distinct w K} (h:agg_New.W name distinct w K):CallsV Tryz.prog 81 #[.string name,.bool distinct] w K :=
  fnW_calls ok Tryz.func81 (an:=(.named .auto)) (args:=[.string name,.bool distinct]) (Eq.mp (by kernel_rfl) h)
noncomputable def agg_Known.W:ByteArray->World->(Value->World->Prop)->Prop:=fun name w K=>bif ByteArray.toList name == ByteArray.toList (ByteArray.mk #[(99:UInt8),(111:UInt8),(117 :
 UInt8),(110:UInt8),(116:UInt8)]) then bif ByteArray.toList name == ByteArray.toList (ByteArray.mk #[(99:UInt8),(111:UInt8),(117:UInt8),(110:UInt8),(116:UInt8)]) then K (bool
 true) w else K (bool false) w else bif ByteArray.toList name == ByteArray.toList (ByteArray.mk #[(99:UInt8),(111:UInt8),(117:UInt8),(110:UInt8),(116:UInt8),(42:UInt8)]) then
 bif ByteArray.toList name == ByteArray.toList (ByteArray.mk #[(99:UInt8),(111:UInt8),(117:UInt8),(110:UInt8),(116:UInt8),(42:UInt8)]) then K (bool true) w else K (bool false)
 w else bif ByteArray.toList name == ByteArray.toList (ByteArray.mk #[(115:UInt8),(117:UInt8),(109:UInt8)]) then bif ByteArray.toList name == ByteArray.toList (ByteArray.mk #[(115:UInt8),(117
 : UInt8),(109:UInt8)]) then K (bool true) w else K (bool false) w else bif ByteArray.toList name == ByteArray.toList (ByteArray.mk #[(116:UInt8),(111:UInt8),(116:UInt8),(97 :
 UInt8),(108:UInt8)]) then bif ByteArray.toList name == ByteArray.toList (ByteArray.mk #[(116:UInt8),(111:UInt8),(116:UInt8),(97:UInt8),(108:UInt8)]) then K (bool true) w else K
 (bool false) w else bif ByteArray.toList name == ByteArray.toList (ByteArray.mk #[(109:UInt8),(105:UInt8),(110:UInt8)]) then bif ByteArray.toList name == ByteArray.toList (ByteArray.mk
 #[(109:UInt8),(105:UInt8),(110:UInt8)]) then K (bool true) w else K (bool false) w else bif ByteArray.toList name == ByteArray.toList (ByteArray.mk #[(109:UInt8),(97:UInt8),(120
 : UInt8)]) then bif ByteArray.toList name == ByteArray.toList (ByteArray.mk #[(109:UInt8),(97:UInt8),(120:UInt8)]) then K (bool true) w else K (bool false) w else bif ByteArray.toList
 name == ByteArray.toList (ByteArray.mk #[(103:UInt8),(114:UInt8),(111:UInt8),(117:UInt8),(112:UInt8),(95:UInt8),(99:UInt8),(111:UInt8),(110:UInt8),(99:UInt8),(97:UInt8),
 (116:UInt8)]) then K (bool true) w else K (bool false) w
theorem agg_Known.calls (ok:Okay Tryz.prog) {name w K} (h:agg_Known.W name w K):CallsV Tryz.prog 128 #[.string name] w K :=
  fnW_calls ok Tryz.func128 (an:=(.named .auto)) (args:=[.string name]) (Eq.mp (by kernel_rfl) h)
noncomputable def agg_Acc_Reset.W:Option Addr->World->(Value->World->Prop)->Prop:=fun a w K=>bif Option.isNone a then K (tuple #[]) w else ∃ a_1,a=some a_1/\∃ (x:ByteArray),
 cell? w (add a_1 0)=some (string x)/\bif ByteArray.toList x == ByteArray.toList (ByteArray.mk #[]) then K (tuple #[]) w else ∃ a_2,a=some a_2/\∃ (S:World->Prop),S (drew w)/\∃
 (x:ByteArray),(∀ u,S u->cell? u (add a_2 0)=some (string x))/\∃ a_3,a=some a_3/\∃ x_1,(∀ u,S u->cell? u (add a_3 1)=some (bool x_1))/\∃ (x_2:Option Nat) (w' :
 World),RunsTo Tryz.prog (Instr.makeMap 149 none) (drew w) (map x_2) w'/\S w'/\∃ a_4,a=some a_4/\stOK a_4 0 [string x,bool x_1,int i64 0,int u64 0,int u64 0,int u8 0,int i64
 0,string (ByteArray.mk #[]),slice none 0 0,map x_2] w'/\∀ w'_1,w'_1=setAll a_4 0 [string x,bool x_1,int i64 0,int u64 0,int u64 0,int u8 0,int i64 0,string (ByteArray.mk #[]),
 slice none 0 0,map x_2] w'->K (tuple #[]) w'_1
theorem agg_Acc_Reset.calls (ok:Okay Tryz.prog) {a w K} (h:agg_Acc_Reset.W a w K):CallsV Tryz.prog 129 #[.pointer a] w K :=
  fnW_calls ok Tryz.func129 (an:=(.named .auto)) (args:=[.pointer a]) (Eq.mp (by kernel_rfl) h)
end Go.Proofs.YtaifphjenebgoaaGreatDoor
namespace Go.Proofs
open Go.Shelf
def Tryz.lays171_ren:Go.Shelf.Ren:=⟨fun|171=>61|243=>124|246=>138|283=>140|284=>141|285=>142|286=>143|129=>147|317=>146|318=>148|319=>149|320=>150|337=>151|338=>152|n=>n,fun|3=>3|9=>9|2=>2|4=>4|171=>169|0=>0|53=>106|37=>32|5=>5|173=>172|212=>185|51=>166|20=>20|213=>186|46=>158|232=>191|233=>192|n=>n,fun|17=>2|18=>3|19=>4|n=>n⟩
theorem Tryz.lays171:Go.Proofs.Lays.n171 Tryz.prog Tryz.lays171_ren:={
  mixed:=by kernel_rfl
  f129:=Tryz.func147.trans (congrArg some (by kernel_rfl))
  f171:=Tryz.func61.trans (congrArg some (by kernel_rfl))
  f243:=Tryz.func124.trans (congrArg some (by kernel_rfl))
  f246:=Tryz.func138.trans (congrArg some (by kernel_rfl))
  f283:=Tryz.func140.trans (congrArg some (by kernel_rfl))
  f284:=Tryz.func141.trans (congrArg some (by kernel_rfl))
  f285:=Tryz.func142.trans (congrArg some (by kernel_rfl))
  f286:=Tryz.func143.trans (congrArg some (by kernel_rfl))
  f317:=Tryz.func146.trans (congrArg some (by kernel_rfl))
  f318:=Tryz.func148.trans (congrArg some (by kernel_rfl))
  f319:=Tryz.func149.trans (congrArg some (by kernel_rfl))
  f320:=Tryz.func150.trans (congrArg some (by kernel_rfl))
  f337:=Tryz.func151.trans (congrArg some (by kernel_rfl))
  f338:=Tryz.func152.trans (congrArg some (by kernel_rfl))
  t0:=Tryz.underlying0
  a0:=Tryz.isAgg0
  z0:=Tryz.sizeOf0
  v0:=Tryz.zeroValue0
  t2:=Tryz.underlying2
  a2:=Tryz.isAgg2
  z2:=Tryz.sizeOf2
  v2:=Tryz.zeroValue2
  t3:=Tryz.underlying3
  a3:=Tryz.isAgg3
  z3:=Tryz.sizeOf3
  v3:=Tryz.zeroValue3
  t4:=Tryz.underlying4
  a4:=Tryz.isAgg4
  z4:=Tryz.sizeOf4
  v4:=Tryz.zeroValue4
  t5:=Tryz.underlying5
  a5:=Tryz.isAgg5
  z5:=Tryz.sizeOf5
  v5:=Tryz.zeroValue5
  t9:=Tryz.underlying9
  a9:=Tryz.isAgg9
  z9:=Tryz.sizeOf9
  v9:=Tryz.zeroValue9
  t20:=Tryz.underlying20
  a20:=Tryz.isAgg20
  z20:=Tryz.sizeOf20
  v20:=Tryz.zeroValue20
  t37:=Tryz.underlying32
  a37:=Tryz.isAgg32
  z37:=Tryz.sizeOf32
  v37:=Tryz.zeroValue32
  t46:=Tryz.underlying158
  a46:=Tryz.isAgg158
  z46:=Tryz.sizeOf158
  v46:=Tryz.zeroValue158
  t51:=Tryz.underlying166
  a51:=Tryz.isAgg166
  z51:=Tryz.sizeOf166
  v51:=Tryz.zeroValue166
  t53:=Tryz.underlying106
  a53:=Tryz.isAgg106
  z53:=Tryz.sizeOf106
  v53:=Tryz.zeroValue106
  t171:=Tryz.underlying169
  a171:=Tryz.isAgg169
  z171:=Tryz.sizeOf169
  v171:=Tryz.zeroValue169
  t173:=Tryz.underlying172
  a173:=Tryz.isAgg172
  z173:=Tryz.sizeOf172
  v173:=Tryz.zeroValue172
  t212:=Tryz.underlying185
  a212:=Tryz.isAgg185
  z212:=Tryz.sizeOf185
  v212:=Tryz.zeroValue185
  t213:=Tryz.underlying186
  a213:=Tryz.isAgg186
  z213:=Tryz.sizeOf186
  t232:=Tryz.underlying191
  a232:=Tryz.isAgg191
  z232:=Tryz.sizeOf191
  v232:=Tryz.zeroValue191
  t233:=Tryz.underlying192
  a233:=Tryz.isAgg192
  z233:=Tryz.sizeOf192
  v233:=Tryz.zeroValue192
  g17:=by kernel_rfl
  g18:=by kernel_rfl
  g19:=by kernel_rfl }
open Go.RowKit Go.Sort Go.Lib in
theorem Tryz.strconv_Itoa_small (i:Nat) (hi:i<100) (w:World) :
    Calls Tryz.prog 61 #[.int .i64 i] w fun e w'=>e=.returned (.string ⟨(Lib.decDigits i).toArray⟩)/\w'=w:=Any.strconv_Itoa_small Tryz.lays171 i hi w
def Tryz.lays157_ren:Go.Shelf.Ren:=⟨fun|157=>110|229=>136|199=>137|261=>139|311=>144|312=>145|n=>n,fun|9=>9|31=>22|3=>3|5=>5|4=>4|119=>159|0=>0|40=>161|152=>163|21=>21|154=>165|51=>166|141=>168|196=>177|193=>174|198=>180|49=>178|194=>175|201=>183|226=>188|46=>158|227=>189|n=>n,fun|0=>0|6=>1|n=>n⟩
theorem Tryz.lays157:Go.Proofs.Lays.n157 Tryz.prog Tryz.lays157_ren:={
  mixed:=by kernel_rfl
  f157:=Tryz.func110.trans (congrArg some (by kernel_rfl))
  f199:=Tryz.func137.trans (congrArg some (by kernel_rfl))
  f229:=Tryz.func136.trans (congrArg some (by kernel_rfl))
  f261:=Tryz.func139.trans (congrArg some (by kernel_rfl))
  f311:=Tryz.func144.trans (congrArg some (by kernel_rfl))
  f312:=Tryz.func145.trans (congrArg some (by kernel_rfl))
  t0:=Tryz.underlying0
  a0:=Tryz.isAgg0
  z0:=Tryz.sizeOf0
  v0:=Tryz.zeroValue0
  t3:=Tryz.underlying3
  a3:=Tryz.isAgg3
  z3:=Tryz.sizeOf3
  v3:=Tryz.zeroValue3
  t4:=Tryz.underlying4
  a4:=Tryz.isAgg4
  z4:=Tryz.sizeOf4
  v4:=Tryz.zeroValue4
  t5:=Tryz.underlying5
  a5:=Tryz.isAgg5
  z5:=Tryz.sizeOf5
  v5:=Tryz.zeroValue5
  t9:=Tryz.underlying9
  a9:=Tryz.isAgg9
  z9:=Tryz.sizeOf9
  v9:=Tryz.zeroValue9
  t21:=Tryz.underlying21
  a21:=Tryz.isAgg21
  z21:=Tryz.sizeOf21
  v21:=Tryz.zeroValue21
  t31:=Tryz.underlying22
  a31:=Tryz.isAgg22
  z31:=Tryz.sizeOf22
  v31:=Tryz.zeroValue22
  t40:=Tryz.underlying161
  a40:=Tryz.isAgg161
  z40:=Tryz.sizeOf161
  v40:=Tryz.zeroValue161
  t46:=Tryz.underlying158
  a46:=Tryz.isAgg158
  z46:=Tryz.sizeOf158
  v46:=Tryz.zeroValue158
  t49:=Tryz.underlying178
  a49:=Tryz.isAgg178
  z49:=Tryz.sizeOf178
  v49:=Tryz.zeroValue178
  t51:=Tryz.underlying166
  a51:=Tryz.isAgg166
  z51:=Tryz.sizeOf166
  v51:=Tryz.zeroValue166
  t119:=Tryz.underlying159
  a119:=Tryz.isAgg159
  z119:=Tryz.sizeOf159
  t141:=Tryz.underlying168
  a141:=Tryz.isAgg168
  z141:=Tryz.sizeOf168
  v141:=Tryz.zeroValue168
  t152:=Tryz.underlying163
  a152:=Tryz.isAgg163
  z152:=Tryz.sizeOf163
  v152:=Tryz.zeroValue163
  t154:=Tryz.underlying165
  a154:=Tryz.isAgg165
  z154:=Tryz.sizeOf165
  v154:=Tryz.zeroValue165
  t193:=Tryz.underlying174
  a193:=Tryz.isAgg174
  z193:=Tryz.sizeOf174
  v193:=Tryz.zeroValue174
  t194:=Tryz.underlying175
  a194:=Tryz.isAgg175
  z194:=Tryz.sizeOf175
  v194:=Tryz.zeroValue175
  t196:=Tryz.underlying177
  a196:=Tryz.isAgg177
  z196:=Tryz.sizeOf177
  v196:=Tryz.zeroValue177
  t198:=Tryz.underlying180
  a198:=Tryz.isAgg180
  z198:=Tryz.sizeOf180
  v198:=Tryz.zeroValue180
  t201:=Tryz.underlying183
  a201:=Tryz.isAgg183
  z201:=Tryz.sizeOf183
  v201:=Tryz.zeroValue183
  t226:=Tryz.underlying188
  a226:=Tryz.isAgg188
  z226:=Tryz.sizeOf188
  v226:=Tryz.zeroValue188
  t227:=Tryz.underlying189
  a227:=Tryz.isAgg189
  z227:=Tryz.sizeOf189
  v227:=Tryz.zeroValue189
  g0:=by kernel_rfl
  g6:=by kernel_rfl }
open Go.RowKit Go.Lib in
theorem Tryz.strings_Fields (s : ByteArray) (w : World) (hs : s.size < 4294967281) (hascii : ∀ (j : Nat) b, s.data.toList[j]? = some b → b.toNat < 128) (htab : Lib.TabIs Tryz.prog w "strings.asciiSpace" .u8 Lib.asciiSpaceTab) :
    Calls Tryz.prog 110 #[.string s] w fun e w' =>
      e=.returned (.slice (some ⟨w.heap.size,0,none⟩) (Lib.fields s.data.toList).length (Lib.fields s.data.toList).length)/\w'=w.alloc (.cells ((Lib.fields s.data.toList).map fun l=>Value.string ⟨l.toArray⟩).toArray 9):=Any.strings_Fields Tryz.lays157 (by kernel_rfl) (by kernel_rfl) s w hs hascii htab
end Go.Proofs
set_option linter.unusedVariables false
set_option linter.unusedSimpArgs false
namespace Go.Proofs.YtaifphjenebgoaaGreatDoor
open Go Go.Sx K15
def Tab (w : World) : Prop := Lib.TabIs Tryz.prog w "strings.asciiSpace" .u8 Lib.asciiSpaceTab
theorem Tab.ext {w w':World} (h:Tab w) (e:Ext w w'):Tab w':=by
  unfold Tab Lib.TabIs World.var? at *
  cases hg : Tryz.prog.globalNamed "strings.asciiSpace" with
  | none=>rw [hg] at h;cases h
  | some g =>
    rw [hg] at h
    simp only [Option.bind_some] at h ⊢
    cases hb:w.heap[g]? with
    | none=>rw [hb] at h;cases h
    | some o =>
      rw [(e.block g (Array.getElem?_eq_some_iff.1 hb).1 (fun h=>h)),hb]
      rw [hb] at h
      exact h
theorem part1 {α:Type} {l:List α} {i:Nat} {x : α} (h:l[i]?=some x):(l.drop i).take 1=[x]:=by
  obtain ⟨hlt,rfl⟩:=List.getElem?_eq_some_iff.1 h
  rw [List.drop_eq_getElem_cons hlt];rfl
theorem cntF_le:∀ (l:List UInt8) (b:Bool),Lib.cntF b l<=l.length
  | [],_=>Nat.le_refl _
  | x::l,b=>by
    have:=cntF_le l (Lib.isSp x)
    rw [Lib.cntF,List.length_cons]
    split<;>omega
theorem fields_le (l:List UInt8):(Lib.fields l).length<=l.length:=by
  have:=Lib.fieldsGo_length l []
  have h2:=cntF_le l true
  show (Lib.fieldsGo [] l).length<=_
  rw [this]
  simp only [List.isEmpty_nil,if_true]
  omega
def bs (l:List UInt8):ByteArray:=⟨l.toArray⟩
theorem Fields_spec {w:World} (hT:Tab w) (s:ByteArray) (hs:s.size<1000) (ha:∀ b∈sb s,b.toNat<128) :
    CallsV Tryz.prog 110 #[.string s] w fun r w'=>∃ A,r=.slice A (Lib.fields (sb s)).length (Lib.fields (sb s)).length/\Imm Kd.str NoB w' A ((Lib.fields (sb s)).map bs)/\Ext w w':=by
  refine Calls.mono (Tryz.strings_Fields s w (by omega) (fun j b hj=>ha b (List.mem_of_getElem? hj)) hT) ?_
  rintro e w' ⟨he,rfl⟩
  refine ⟨_,he,_,rfl,?_,Fr.alloc NoB w _⟩
  have hl:(Lib.fields (sb s)).length<=maxLen:=by
    have:=fields_le (sb s)
    rw [sb_length] at this
    simp only [maxLen];omega
  have:=(ownK_lit (K:=Kd.str) (w:=w) (cs:=(Lib.fields s.data.toList).map fun l=>Value.string ⟨l.toArray⟩) (e:=9) (l:=(Lib.fields (sb s)).map bs) (by simp [Kd.str,sb]) (by simpa using hl) (fun i a hi=>by
    rw [List.getElem?_map] at hi
    cases hq:(Lib.fields (sb s))[i]? with
    | none=>rw [hq] at hi;cases hi
    | some x =>
      rw [hq] at hi
      cases hi
      show ((((Lib.fields (sb s)).map fun l=>Value.string ⟨l.toArray⟩).drop (i*1)).take 1)=[.string (bs x)]
      rw [Nat.mul_one,part1 (x:=Value.string (bs x)) (by rw [List.getElem?_map,hq];rfl)])).imm (by decide)
  exact this
def nth (l:List (List UInt8)) (d:Int):List UInt8×Bool:=if d<0\/(l.length:Int)<=d then ([],false) else (l.getD d.toNat [],true)
theorem named_spec {w:World} (hT:Tab w) (s:ByteArray) (hs:s.size<1000) (ha:∀ b∈sb s,b.toNat<128) (d:Int) :
    CallsV Tryz.prog 56 #[.string s,.int .i64 d] w fun r w'=>r=.tuple #[.string (bs (nth (Lib.fields (sb s)) d).1),.bool (nth (Lib.fields (sb s)) d).2]/\Ext w w':=by
  refine code_named.calls okay ?_
  unfold code_named.W nth
  refine (Fields_spec hT s hs ha).mono ?_
  rintro _ w1 ⟨A,rfl,hi,e⟩
  refine ⟨_,_,_,rfl,?_⟩
  refine brd (fun h=>⟨by rw [if_pos (.inl h)];rfl,e⟩) (fun h1=>brd (fun h=>⟨by rw [if_pos (.inr h)];rfl,e⟩) (fun h2=>?_))
  rw [if_neg (by omega)]
  have hlt:d.toNat<((Lib.fields (sb s)).map bs).length:=by rw [List.length_map];omega
  obtain ⟨ad,hA,cs,hrep,hc⟩:=hi.get1 hlt
  have hrep:cs=[.string _]:=hrep
  subst hrep
  have hlt2:d.toNat<(Lib.fields (sb s)).length:=by rwa [List.length_map] at hlt
  refine ⟨ad,hA,⟨by omega,by omega⟩,_,hc 0 _ rfl,?_,e⟩
  rw [List.getElem_map]
  simp [List.getD,hlt2]
def fWords:ByteArray:=ByteArray.mk #[108,101,110,103,116,104,32,117,112,112,101,114,32,108,111,119,101,114,32,97,98,115,32,116,121,112,101,111,102,32,104,101,120,32,105,102,110,117,108,108,32,105,110,115,116,114,32,115,117,98,115,116,114,32,99,111,97,108,101,115,99,101]
abbrev fNames:List (List UInt8):=K15.fnNames
theorem fFields:Lib.fields (sb fWords)=fNames:=by decide +kernel
theorem fAscii:∀ b∈sb fWords,b.toNat<128:=by decide +kernel
theorem Func_spec {w:World} (hT:Tab w) (d:Int) :
    CallsV Tryz.prog 18 #[.int .i64 d] w fun r w'=>r=.tuple #[.string (bs (nth fNames d).1),.bool (nth fNames d).2]/\Ext w w':=by
  refine code_Func.calls okay ?_
  unfold code_Func.W
  refine (named_spec hT fWords (by decide) fAscii d).mono ?_
  rw [fFields]
  rintro _ w1 ⟨rfl,e⟩
  exact ⟨_,_,rfl,rfl,e⟩
theorem Known_spec (w:World) (n:List UInt8) (c:Int):CallsV Tryz.prog 100 #[.string (bs n),.int .i64 c] w fun r w'=>r=.bool (knownF n c)/\w'=w:=by
  refine value_Known.calls okay ?_
  unfold value_Known.W knownF
  refine ⟨fun x u=>x=decide (n=[108,101,110,103,116,104]\/n=[117,112,112,101,114]\/n=[108,111,119,101,114]\/n=[97,98,115]\/n=[116,121,112,101,111,102]\/n=[104,101,120])/\u=w,?_,?_⟩
  · rintro x u ⟨rfl,hu⟩
    obtain rfl:w=u:=hu.symm
    by_cases h1:n=[108,101,110,103,116,104]\/n=[117,112,112,101,114]\/n=[108,111,119,101,114]\/n=[97,98,115]\/n=[116,121,112,101,111,102]\/n=[104,101,120]
    · rw [decide_eq_true h1,cond_true,if_pos h1];exact ⟨rfl,rfl⟩
    · rw [decide_eq_false h1,cond_false,if_neg h1]
      refine ⟨fun x u=>x=decide (n=[105,102,110,117,108,108]\/n=[105,110,115,116,114])/\u=w,?_,?_⟩
      · rintro x u ⟨rfl,hu⟩
        obtain rfl:w=u:=hu.symm
        by_cases h2:n=[105,102,110,117,108,108]\/n=[105,110,115,116,114]
        · rw [decide_eq_true h2,cond_true,if_pos h2];exact ⟨rfl,rfl⟩
        · rw [decide_eq_false h2,cond_false,if_neg h2]
          refine brS (fun h=>?_) (fun h=>?_)
          · rw [if_pos h]
            exact brd (fun h3=>⟨by rw [decide_eq_true h3];rfl,rfl⟩) (fun h3=>⟨by rw [decide_eq_false h3];rfl,rfl⟩)
          · rw [if_neg h]
            refine brS (fun h4=>?_) (fun h4=>?_)
            · rw [if_pos h4]
              exact brd (fun h3=>⟨by rw [decide_eq_true h3];rfl,rfl⟩) (fun h3=>⟨by rw [decide_eq_false h3];rfl,rfl⟩)
            · rw [if_neg h4];exact ⟨rfl,rfl⟩
      · refine brS (fun h=>⟨?_,rfl⟩) (fun h=>⟨?_,rfl⟩)
        · exact (eq_str n [105,102,110,117,108,108]).trans (by rw [decide_eq_true h,decide_eq_true (.inl h)])
        · refine (eq_str n [105,110,115,116,114]).trans ?_
          exact decide_eq_decide.2 ⟨.inr,fun q=>q.resolve_left h⟩
  · have fin:∀ {x:Bool} {p:Prop} [Decidable p],x=decide p->(p<->(n=[108,101,110,103,116,104]\/n=[117,112,112,101,114]\/n=[108,111,119,101,114]\/n=[97,98,115]\/n=[116,121,112,101,111,102]\/n=[104,101,120]))->x=decide (n=[108,101,110,103,116,104]\/n=[117,112,112,101,114]\/n=[108,111,119,101,114]\/n=[97,98,115]\/n=[116,121,112,101,111,102]\/n=[104,101,120]):=fun h1 h2=>by rw [h1];exact decide_eq_decide.2 h2
    refine brS (fun h=>⟨fin (eq_str n _) ⟨fun q=>.inl q,fun _=>h⟩,rfl⟩) (fun h1=>?_)
    refine brS (fun h=>⟨fin (eq_str n _) ⟨fun q=>.inr (.inl q),fun _=>h⟩,rfl⟩) (fun h2=>?_)
    refine brS (fun h=>⟨fin (eq_str n _) ⟨fun q=>.inr (.inr (.inl q)),fun _=>h⟩,rfl⟩) (fun h3=>?_)
    refine brS (fun h=>⟨fin (eq_str n _) ⟨fun q=>.inr (.inr (.inr (.inl q))),fun _=>h⟩,rfl⟩) (fun h4=>?_)
    refine brS (fun h=>⟨fin (eq_str n _) ⟨fun q=>.inr (.inr (.inr (.inr (.inl q)))),fun _=>h⟩,rfl⟩) (fun h5=>?_)
    refine ⟨fin (eq_str n _) ⟨fun q=>.inr (.inr (.inr (.inr (.inr q)))),fun q=>?_⟩,rfl⟩
    rcases q with q|q|q|q|q|q
    · exact absurd q h1
    · exact absurd q h2
    · exact absurd q h3
    · exact absurd q h4
    · exact absurd q h5
    · exact q
end Go.Proofs.YtaifphjenebgoaaGreatDoor
set_option linter.unusedVariables false
set_option linter.unusedSimpArgs false
namespace Go.Proofs.YtaifphjenebgoaaGreatDoor
open Go Go.Sx R1 K15
def KCur:Kd Cur:=⟨3,fun _ _ a cs=>cs=[.string a.name,.bool a.ix,.bool a.wr],fun h=>by simp [h],fun h _=>h⟩
def KSrt:Kd Srt:=⟨3,fun Ω w a cs=>∃ A c,cs=[.slice A a.desc.length c,.int .i64 a.cols,.bool a.dist]/\a.desc.length<=c/\Imm Kd.bool Ω w A a.desc,fun ⟨_,_,h,_⟩=>by simp [h],fun ⟨A,c,h,hc,hi⟩ st=>⟨A,c,h,hc,hi.keep (by decide) st⟩⟩
def KTot:Kd Tot:=⟨2,fun _ _ a cs=>cs=[.string a.fn,.bool a.dist],fun h=>by simp [h],fun h _=>h⟩
def KIns:Kd Ins:=⟨5,fun _ _ a cs=>cs=[.int .u8 a.op,.int .i64 a.a,.int .i64 a.b,.int .i64 a.c,.int .i64 a.d],fun h=>by simp [h],fun h _=>h⟩
theorem KCur_pos : 0<KCur.size:=by decide
theorem KSrt_pos : 0<KSrt.size:=by decide
theorem KTot_pos : 0<KTot.size:=by decide
theorem KIns_pos : 0<KIns.size:=by decide
theorem KStr_pos : 0<Kd.str.size:=by decide
def Tests {α:Type} (K:Kd α) (arg:List Value->Value) (w:World) (f:Value) (p : α->Bool):Prop :=
  ∀ u,Ext w u->∀ a cs,K.rep NoB u a cs->∃ (fid:FuncId) (first captured:Array Value),f=.func (.func fid) first captured/\bodied Tryz.prog fid=true /\
    CallsV Tryz.prog fid (first.toList++([arg cs]++captured.toList)).toArray u fun r w'=>r=.bool (p a)/\Ext u w'
def argA (cs:List Value):Value:=.agg cs.toArray
def arg1 (cs:List Value):Value:=cs.headD undef
def firstI {α:Type} (p : α->Bool):List α->Nat->Int
  | [],_=>-1
  | x::l,i=>if p x then (i:Int) else firstI p l (i+1)
theorem firstI_any {α:Type} (p : α->Bool):∀ (l:List α) (i:Nat),decide (0<=firstI p l i)=l.any p
  | [],_=>rfl
  | x::l,i=>by
    rw [firstI,List.any_cons]
    cases h:p x
    · rw [if_neg (by decide),firstI_any p l (i+1)];simp
    · rw [if_pos rfl]
      simp
theorem firstI_drop {α:Type} (p : α->Bool) (l:List α) (j:Nat) (h:j<l.length):firstI p (l.drop j) j=if p l[j] then (j:Int) else firstI p (l.drop (j+1)) (j+1):=by
  rw [List.drop_eq_getElem_cons h,firstI]
theorem index_string {w:World} {A:Option Addr} {c n:Nat} {l:List ByteArray} {f:Value} {p:ByteArray->Bool} (hn:n=l.length) (hi:Imm Kd.str NoB w A l) (hl:l.length<=maxLen) (hf:Tests Kd.str arg1 w f p) :
    CallsV Tryz.prog 130 #[.slice A n c,f] w fun r w'=>r=.int .i64 (firstI p l 0)/\Ext w w':=by
  subst hn
  simp only [maxLen] at hl
  refine slices_IndexFunc_string_string.calls okay ?_
  unfold slices_IndexFunc_string_string.W
  refine ⟨fun x u=>∃ j:Nat,j<=l.length/\x=(j:Int)/\firstI p l 0=firstI p (l.drop j) j/\Ext w u,fun x _=>(l.length-x).toNat,⟨0,by omega,rfl,rfl,.refl _ _⟩,?_⟩
  rintro _ u ⟨j,hj,rfl,hq,e⟩
  refine brd (fun hlt=>?_) (fun hge=>?_)
  · have hjl:j<l.length:=by omega
    obtain ⟨ad,hA,cs,hrep,hc⟩:=(hi.ext (by decide) e).get1 hjl
    rw [firstI_drop p l j hjl] at hq
    have hcs:cs=[.string l[j]]:=hrep
    subst hcs
    obtain ⟨fid,first,captured,rfl,hb,hcall⟩:=hf u e _ _ hrep
    refine ⟨ad,hA,⟨by omega,by omega⟩,_,by rw [Int.toNat_natCast];exact hc 0 _ rfl,fid,first,captured,rfl,hb,?_⟩
    refine hcall.mono ?_
    rintro _ u1 ⟨rfl,e1⟩
    refine ⟨_,rfl,?_⟩
    cases hp:p l[j] with
    | true =>
      rw [cond_true]
      rw [hp,if_pos rfl] at hq
      exact ⟨by rw [hq],e.trans' e1⟩
    | false =>
      rw [cond_false]
      rw [hp,if_neg (by decide)] at hq
      rw [wi _ (by omega) (by omega)]
      exact ⟨⟨j+1,by omega,rfl,hq,e.trans' e1⟩,by dsimp only;omega⟩
  · obtain rfl:j=l.length:=by omega
    rw [List.drop_length] at hq
    exact ⟨by rw [hq];rfl,e⟩
theorem contains_string {w:World} {A:Option Addr} {c n:Nat} {l:List ByteArray} {f:Value} {p:ByteArray->Bool} (hn:n=l.length) (hi:Imm Kd.str NoB w A l) (hl:l.length<=maxLen) (hf:Tests Kd.str arg1 w f p) :
    CallsV Tryz.prog 82 #[.slice A n c,f] w fun r w'=>r=.bool (l.any p)/\Ext w w':=by
  refine slices_ContainsFunc_string_string.calls okay ?_
  unfold slices_ContainsFunc_string_string.W
  refine (index_string hn hi hl hf).mono ?_
  rintro _ u ⟨rfl,e⟩
  exact ⟨_,rfl,by rw [firstI_any],e⟩
theorem index_api_Value {w:World} {A:Option Addr} {c n:Nat} {l:List V} {f:Value} {p:V->Bool} (hn:n=l.length) (hi:Imm KV NoB w A l) (hl:l.length<=maxLen) (hf:Tests KV argA w f p) :
    CallsV Tryz.prog 131 #[.slice A n c,f] w fun r w'=>r=.int .i64 (firstI p l 0)/\Ext w w':=by
  subst hn
  simp only [maxLen] at hl
  refine slices_IndexFunc_api_Value_api_Value.calls okay ?_
  unfold slices_IndexFunc_api_Value_api_Value.W
  refine ⟨fun x u=>∃ j:Nat,j<=l.length/\x=(j:Int)/\firstI p l 0=firstI p (l.drop j) j/\Ext w u,fun x _=>(l.length-x).toNat,⟨0,by omega,rfl,rfl,.refl _ _⟩,?_⟩
  rintro _ u ⟨j,hj,rfl,hq,e⟩
  refine brd (fun hlt=>?_) (fun hge=>?_)
  · have hjl:j<l.length:=by omega
    obtain ⟨ad,hA,cs,hrep,hc⟩:=(hi.ext (by decide) e).get1 hjl
    rw [firstI_drop p l j hjl] at hq
    have hcs:cs=vc l[j]:=hrep
    subst hcs
    obtain ⟨fid,first,captured,rfl,hb,hcall⟩:=hf u e _ _ hrep
    refine ⟨ad,hA,⟨by omega,by omega⟩,_,by rw [Int.toNat_natCast,add_add];exact hc 0 _ rfl,_,by rw [Int.toNat_natCast,add_add];exact hc 1 _ rfl,_,by rw [Int.toNat_natCast,add_add];exact hc 2 _ rfl,fid,first,captured,rfl,hb,?_⟩
    refine hcall.mono ?_
    rintro _ u1 ⟨rfl,e1⟩
    refine ⟨_,rfl,?_⟩
    cases hp:p l[j] with
    | true =>
      rw [cond_true]
      rw [hp,if_pos rfl] at hq
      exact ⟨by rw [hq],e.trans' e1⟩
    | false =>
      rw [cond_false]
      rw [hp,if_neg (by decide)] at hq
      rw [wi _ (by omega) (by omega)]
      exact ⟨⟨j+1,by omega,rfl,hq,e.trans' e1⟩,by dsimp only;omega⟩
  · obtain rfl:j=l.length:=by omega
    rw [List.drop_length] at hq
    exact ⟨by rw [hq];rfl,e⟩
theorem contains_api_Value {w:World} {A:Option Addr} {c n:Nat} {l:List V} {f:Value} {p:V->Bool} (hn:n=l.length) (hi:Imm KV NoB w A l) (hl:l.length<=maxLen) (hf:Tests KV argA w f p) :
    CallsV Tryz.prog 83 #[.slice A n c,f] w fun r w'=>r=.bool (l.any p)/\Ext w w':=by
  refine slices_ContainsFunc_api_Value_api_Value.calls okay ?_
  unfold slices_ContainsFunc_api_Value_api_Value.W
  refine (index_api_Value hn hi hl hf).mono ?_
  rintro _ u ⟨rfl,e⟩
  exact ⟨_,rfl,by rw [firstI_any],e⟩
theorem index_api_Cur {w:World} {A:Option Addr} {c n:Nat} {l:List Cur} {f:Value} {p:Cur->Bool} (hn:n=l.length) (hi:Imm KCur NoB w A l) (hl:l.length<=maxLen) (hf:Tests KCur argA w f p) :
    CallsV Tryz.prog 132 #[.slice A n c,f] w fun r w'=>r=.int .i64 (firstI p l 0)/\Ext w w':=by
  subst hn
  simp only [maxLen] at hl
  refine slices_IndexFunc_api_Cur_api_Cur.calls okay ?_
  unfold slices_IndexFunc_api_Cur_api_Cur.W
  refine ⟨fun x u=>∃ j:Nat,j<=l.length/\x=(j:Int)/\firstI p l 0=firstI p (l.drop j) j/\Ext w u,fun x _=>(l.length-x).toNat,⟨0,by omega,rfl,rfl,.refl _ _⟩,?_⟩
  rintro _ u ⟨j,hj,rfl,hq,e⟩
  refine brd (fun hlt=>?_) (fun hge=>?_)
  · have hjl:j<l.length:=by omega
    obtain ⟨ad,hA,cs,hrep,hc⟩:=(hi.ext (by decide) e).get1 hjl
    rw [firstI_drop p l j hjl] at hq
    have hcs:cs=[.string l[j].name,.bool l[j].ix,.bool l[j].wr]:=hrep
    subst hcs
    obtain ⟨fid,first,captured,rfl,hb,hcall⟩:=hf u e _ _ hrep
    refine ⟨ad,hA,⟨by omega,by omega⟩,_,by rw [Int.toNat_natCast,add_add];exact hc 0 _ rfl,_,by rw [Int.toNat_natCast,add_add];exact hc 1 _ rfl,_,by rw [Int.toNat_natCast,add_add];exact hc 2 _ rfl,fid,first,captured,rfl,hb,?_⟩
    refine hcall.mono ?_
    rintro _ u1 ⟨rfl,e1⟩
    refine ⟨_,rfl,?_⟩
    cases hp:p l[j] with
    | true =>
      rw [cond_true]
      rw [hp,if_pos rfl] at hq
      exact ⟨by rw [hq],e.trans' e1⟩
    | false =>
      rw [cond_false]
      rw [hp,if_neg (by decide)] at hq
      rw [wi _ (by omega) (by omega)]
      exact ⟨⟨j+1,by omega,rfl,hq,e.trans' e1⟩,by dsimp only;omega⟩
  · obtain rfl:j=l.length:=by omega
    rw [List.drop_length] at hq
    exact ⟨by rw [hq];rfl,e⟩
theorem contains_api_Cur {w:World} {A:Option Addr} {c n:Nat} {l:List Cur} {f:Value} {p:Cur->Bool} (hn:n=l.length) (hi:Imm KCur NoB w A l) (hl:l.length<=maxLen) (hf:Tests KCur argA w f p) :
    CallsV Tryz.prog 84 #[.slice A n c,f] w fun r w'=>r=.bool (l.any p)/\Ext w w':=by
  refine slices_ContainsFunc_api_Cur_api_Cur.calls okay ?_
  unfold slices_ContainsFunc_api_Cur_api_Cur.W
  refine (index_api_Cur hn hi hl hf).mono ?_
  rintro _ u ⟨rfl,e⟩
  exact ⟨_,rfl,by rw [firstI_any],e⟩
theorem index_api_Sort {w:World} {A:Option Addr} {c n:Nat} {l:List Srt} {f:Value} {p:Srt->Bool} (hn:n=l.length) (hi:Imm KSrt NoB w A l) (hl:l.length<=maxLen) (hf:Tests KSrt argA w f p) :
    CallsV Tryz.prog 133 #[.slice A n c,f] w fun r w'=>r=.int .i64 (firstI p l 0)/\Ext w w':=by
  subst hn
  simp only [maxLen] at hl
  refine slices_IndexFunc_api_Sort_api_Sort.calls okay ?_
  unfold slices_IndexFunc_api_Sort_api_Sort.W
  refine ⟨fun x u=>∃ j:Nat,j<=l.length/\x=(j:Int)/\firstI p l 0=firstI p (l.drop j) j/\Ext w u,fun x _=>(l.length-x).toNat,⟨0,by omega,rfl,rfl,.refl _ _⟩,?_⟩
  rintro _ u ⟨j,hj,rfl,hq,e⟩
  refine brd (fun hlt=>?_) (fun hge=>?_)
  · have hjl:j<l.length:=by omega
    obtain ⟨ad,hA,cs,hrep,hc⟩:=(hi.ext (by decide) e).get1 hjl
    rw [firstI_drop p l j hjl] at hq
    obtain ⟨D,dc,hcs,_⟩:=id hrep
    subst hcs
    obtain ⟨fid,first,captured,rfl,hb,hcall⟩:=hf u e _ _ hrep
    refine ⟨ad,hA,⟨by omega,by omega⟩,_,_,_,by rw [Int.toNat_natCast,add_add];exact hc 0 _ rfl,_,by rw [Int.toNat_natCast,add_add];exact hc 1 _ rfl,_,by rw [Int.toNat_natCast,add_add];exact hc 2 _ rfl,fid,first,captured,rfl,hb,?_⟩
    refine hcall.mono ?_
    rintro _ u1 ⟨rfl,e1⟩
    refine ⟨_,rfl,?_⟩
    cases hp:p l[j] with
    | true =>
      rw [cond_true]
      rw [hp,if_pos rfl] at hq
      exact ⟨by rw [hq],e.trans' e1⟩
    | false =>
      rw [cond_false]
      rw [hp,if_neg (by decide)] at hq
      rw [wi _ (by omega) (by omega)]
      exact ⟨⟨j+1,by omega,rfl,hq,e.trans' e1⟩,by dsimp only;omega⟩
  · obtain rfl:j=l.length:=by omega
    rw [List.drop_length] at hq
    exact ⟨by rw [hq];rfl,e⟩
theorem contains_api_Sort {w:World} {A:Option Addr} {c n:Nat} {l:List Srt} {f:Value} {p:Srt->Bool} (hn:n=l.length) (hi:Imm KSrt NoB w A l) (hl:l.length<=maxLen) (hf:Tests KSrt argA w f p) :
    CallsV Tryz.prog 85 #[.slice A n c,f] w fun r w'=>r=.bool (l.any p)/\Ext w w':=by
  refine slices_ContainsFunc_api_Sort_api_Sort.calls okay ?_
  unfold slices_ContainsFunc_api_Sort_api_Sort.W
  refine (index_api_Sort hn hi hl hf).mono ?_
  rintro _ u ⟨rfl,e⟩
  exact ⟨_,rfl,by rw [firstI_any],e⟩
theorem index_api_Acc {w:World} {A:Option Addr} {c n:Nat} {l:List Tot} {f:Value} {p:Tot->Bool} (hn:n=l.length) (hi:Imm KTot NoB w A l) (hl:l.length<=maxLen) (hf:Tests KTot argA w f p) :
    CallsV Tryz.prog 134 #[.slice A n c,f] w fun r w'=>r=.int .i64 (firstI p l 0)/\Ext w w':=by
  subst hn
  simp only [maxLen] at hl
  refine slices_IndexFunc_api_Acc_api_Acc.calls okay ?_
  unfold slices_IndexFunc_api_Acc_api_Acc.W
  refine ⟨fun x u=>∃ j:Nat,j<=l.length/\x=(j:Int)/\firstI p l 0=firstI p (l.drop j) j/\Ext w u,fun x _=>(l.length-x).toNat,⟨0,by omega,rfl,rfl,.refl _ _⟩,?_⟩
  rintro _ u ⟨j,hj,rfl,hq,e⟩
  refine brd (fun hlt=>?_) (fun hge=>?_)
  · have hjl:j<l.length:=by omega
    obtain ⟨ad,hA,cs,hrep,hc⟩:=(hi.ext (by decide) e).get1 hjl
    rw [firstI_drop p l j hjl] at hq
    have hcs:cs=[.string l[j].fn,.bool l[j].dist]:=hrep
    subst hcs
    obtain ⟨fid,first,captured,rfl,hb,hcall⟩:=hf u e _ _ hrep
    refine ⟨ad,hA,⟨by omega,by omega⟩,_,by rw [Int.toNat_natCast,add_add];exact hc 0 _ rfl,_,by rw [Int.toNat_natCast,add_add];exact hc 1 _ rfl,fid,first,captured,rfl,hb,?_⟩
    refine hcall.mono ?_
    rintro _ u1 ⟨rfl,e1⟩
    refine ⟨_,rfl,?_⟩
    cases hp:p l[j] with
    | true =>
      rw [cond_true]
      rw [hp,if_pos rfl] at hq
      exact ⟨by rw [hq],e.trans' e1⟩
    | false =>
      rw [cond_false]
      rw [hp,if_neg (by decide)] at hq
      rw [wi _ (by omega) (by omega)]
      exact ⟨⟨j+1,by omega,rfl,hq,e.trans' e1⟩,by dsimp only;omega⟩
  · obtain rfl:j=l.length:=by omega
    rw [List.drop_length] at hq
    exact ⟨by rw [hq];rfl,e⟩
theorem contains_api_Acc {w:World} {A:Option Addr} {c n:Nat} {l:List Tot} {f:Value} {p:Tot->Bool} (hn:n=l.length) (hi:Imm KTot NoB w A l) (hl:l.length<=maxLen) (hf:Tests KTot argA w f p) :
    CallsV Tryz.prog 86 #[.slice A n c,f] w fun r w'=>r=.bool (l.any p)/\Ext w w':=by
  refine slices_ContainsFunc_api_Acc_api_Acc.calls okay ?_
  unfold slices_ContainsFunc_api_Acc_api_Acc.W
  refine (index_api_Acc hn hi hl hf).mono ?_
  rintro _ u ⟨rfl,e⟩
  exact ⟨_,rfl,by rw [firstI_any],e⟩
end Go.Proofs.YtaifphjenebgoaaGreatDoor
set_option linter.unusedVariables false
set_option linter.unusedSimpArgs false
namespace Go.Proofs.YtaifphjenebgoaaGreatDoor
open Go Go.Sx R1 K15
theorem eq_empty0 (x:ByteArray):(ByteArray.toList x == ByteArray.toList (ByteArray.mk #[]))=decide (x.size=0):=by
  obtain ⟨⟨l⟩⟩:=x
  refine (eq_str l []).trans ?_
  cases l<;>simp [ByteArray.size]
theorem cbool {b:Bool} {A B:Prop} (h1:b=true->A) (h2:b=false->B):cond b A B:=by
  cases b with
  | true=>exact h1 rfl
  | false=>exact h2 rfl
theorem right1_spec (w:World) (v:V):CallsV Tryz.prog 77 #[.agg #[.int .u8 v.k,.int .i64 v.n,.string v.s]] w fun r w'=>r=.bool (right v)/\Ext w w':=by
  refine value_Right.calls okay ?_
  unfold value_Right.W right
  intro g w1 f
  have b:=f.blk
  have e:=f.ext
  refine ⟨_,b.cell rfl,?_⟩
  refine brd (fun h0=>?_) (fun h0=>?_)
  · rw [if_pos h0]
    refine ⟨_,b.cell rfl,brd (fun hn=>⟨_,b.cell rfl,?_,e⟩) (fun hn=>⟨?_,e⟩)⟩
    · rw [eq_empty0];simp [hn]
    · simp [hn]
  · rw [if_neg h0]
    refine brd (fun h1=>?_) (fun h1=>?_)
    · rw [if_pos h1]
      exact ⟨_,b.cell rfl,by rw [eq_empty0],e⟩
    · rw [if_neg h1]
      have two:∀ (p:Prop) [Decidable p],p->(v.k=2\/v.k=3)->(∃ x,w1.cell? (Addr.add ⟨g,0,none⟩ 1)=some (.int .i64 x)/\cond (decide (x=0)) (∃ x,w1.cell? (Addr.add ⟨g,0,none⟩ 2)=some (.string x)/\(Value.bool (decide ((x.size:Int)<=65536))=.bool (decide (v.n=0/\v.s.size<=65536))/\Ext w w1)) (Value.bool false=.bool (decide (v.n=0/\v.s.size<=65536))/\Ext w w1)):=fun p _ _ _=>by
        refine ⟨_,b.cell rfl,brd (fun hn=>⟨_,b.cell rfl,?_,e⟩) (fun hn=>⟨?_,e⟩)⟩
        · congr 1
          exact decide_eq_decide.2 ⟨fun h=>⟨hn,by omega⟩,fun h=>by have:=h.2;omega⟩
        · simp [hn]
      refine brd (fun h2=>?_) (fun h2=>?_)
      · rw [if_pos (.inl h2)]
        exact brd (fun _=>two _ h2 (.inl h2)) (fun h=>absurd h2 h)
      · refine brd (fun h3=>?_) (fun h3=>⟨?_,e⟩)
        · rw [if_pos (.inr h3)];exact two _ h3 (.inr h3)
        · rw [if_neg (fun h=>h.elim h2 h3)]
theorem aggKnown_spec (w:World) (n:List UInt8):CallsV Tryz.prog 128 #[.string (bs n)] w fun r w'=>r=.bool (knownT n)/\w'=w:=by
  refine agg_Known.calls okay ?_
  unfold agg_Known.W knownT
  have t:∀ {p:Prop} [Decidable p],p->(Value.bool true=.bool (decide p)/\w=w):=fun h=>⟨by rw [decide_eq_true h],rfl⟩
  refine brS (fun h=>brS (fun _=>t (.inl h)) (fun q=>absurd h q)) (fun h1=>?_)
  refine brS (fun h=>brS (fun _=>t (.inr (.inl h))) (fun q=>absurd h q)) (fun h2=>?_)
  refine brS (fun h=>brS (fun _=>t (.inr (.inr (.inl h)))) (fun q=>absurd h q)) (fun h3=>?_)
  refine brS (fun h=>brS (fun _=>t (.inr (.inr (.inr (.inl h))))) (fun q=>absurd h q)) (fun h4=>?_)
  refine brS (fun h=>brS (fun _=>t (.inr (.inr (.inr (.inr (.inl h)))))) (fun q=>absurd h q)) (fun h5=>?_)
  refine brS (fun h=>brS (fun _=>t (.inr (.inr (.inr (.inr (.inr (.inl h))))))) (fun q=>absurd h q)) (fun h6=>?_)
  refine brS (fun h=>t (.inr (.inr (.inr (.inr (.inr (.inr h))))))) (fun h7=>⟨?_,rfl⟩)
  rw [decide_eq_false]
  rintro (h|h|h|h|h|h|h)
  · exact h1 h
  · exact h2 h
  · exact h3 h
  · exact h4 h
  · exact h5 h
  · exact h6 h
  · exact h7 h
theorem Reset_spec {w:World} {g:Nat} {n:ByteArray} {d:Bool} (hn:n.size≠0) (b:Blk w g [.string n,.bool d,.int .i64 0,.int .u64 0,.int .u64 0,.int .u8 0,.int .i64 0,.string (ByteArray.mk #[]),.slice none 0 0,.map none]) :
    CallsV Tryz.prog 129 #[.pointer (some ⟨g,0,none⟩)] w fun r w'=>r=.tuple #[]/\Fr (fun k=>k=g) w w':=by
  refine agg_Acc_Reset.calls okay ?_
  unfold agg_Acc_Reset.W
  refine cbool (fun h=>by cases h) (fun _=>?_)
  refine ⟨_,rfl,_,b.cell rfl,?_⟩
  rw [eq_empty0]
  refine brd (fun h=>absurd h hn) (fun _=>?_)
  have bd:=b.ext (Fr.drew NoB w)
  refine ⟨_,rfl,fun z=>Ext w.drew z,.refl _ _,_,fun z hz=>(bd.ext hz).cell rfl,_,rfl,_,fun z hz=>(bd.ext hz).cell rfl,?_⟩
  have e1:Ext w.drew (w.drew.alloc (.map #[] 0)):=Fr.alloc NoB _ _
  refine ⟨_,_,makeMap_run _ _,e1,_,rfl,(bd.ext e1).stOK [_,_,_,_,_,_,_,_,_,_] 0 (by simp),?_⟩
  rintro w2 rfl
  exact ⟨rfl,((Fr.drew NoB w).ext e1).trans (Fr.setAll _ _ _) (fun _ _ h=>h.elim) (fun _ _ h=>h)⟩
theorem aggNew_spec (w:World) (n:List UInt8) (d:Bool):CallsV Tryz.prog 81 #[.string (bs n),.bool d] w fun r w'=>∃ A,r=.tuple #[.pointer A,.int .i64 (newT n d)]/\Ext w w':=by
  refine agg_New.calls okay ?_
  unfold agg_New.W newT
  refine (aggKnown_spec w n).mono ?_
  rintro _ u ⟨rfl,hu⟩
  obtain rfl:w=u:=hu.symm
  refine ⟨_,rfl,brnb (fun h=>⟨none,by rw [h];rfl,.refl _ _⟩) (fun hk=>?_)⟩
  rw [if_pos hk]
  have hne:(bs n).size≠0:=by
    intro h
    have:n=[]:=List.eq_nil_of_length_eq_zero h
    subst this
    simp [knownT] at hk
  have mk:(if d && decide (n=[99,111,117,110,116,42]) then (2:Int) else 0)=0->∀ g w1,Fresh w g w1 [.string (bs n),.bool d,.int .i64 0,.int .u64 0,.int .u64 0,.int .u8 0,.int .i64 0,.string (ByteArray.mk #[]),.slice none 0 0,.map none] 151 ->
      CallsV Tryz.prog 129 #[.pointer (some ⟨g,0,none⟩)] w1 fun v w'=>v=.tuple #[]/\(∃ A,Value.tuple #[.pointer (some ⟨g,0,none⟩),.int .i64 0]=.tuple #[.pointer A,.int .i64 (if d && decide (n=[99,111,117,110,116,42]) then (2:Int) else 0)]/\Ext w w'):=by
    intro h0 g w1 f
    refine (Reset_spec hne f.blk).mono ?_
    rintro _ w2 ⟨rfl,hf⟩
    exact ⟨rfl,_,by rw [h0],f.ext.trans hf (fun _ _ h=>h) (fun k hk e=>by have:=f.ge;omega)⟩
  refine cbool (fun hd=>?_) (fun hd=>?_)
  · refine brS (fun h=>⟨none,by rw [if_pos (by simp [hd,h])],.refl _ _⟩) (fun h=>?_)
    exact mk (if_neg (by simp [h]))
  · exact mk (if_neg (by simp [hd]))
theorem tests1 (w:World):Tests Kd.str arg1 w (.func (.func 75) #[] #[]) longN:=by
  intro u e a cs hr
  have hr:cs=[.string a]:=hr
  subst hr
  refine ⟨_,_,_,rfl,by kernel_rfl,?_⟩
  refine code_parts_2.calls okay ?_
  unfold code_parts_2.W
  exact ⟨by congr 1;exact decide_eq_decide.2 (by omega),.refl _ _⟩
theorem tests2 (w:World):Tests KV argA w (.func (.func 76) #[] #[]) wrongV:=by
  intro u e a cs hr
  have hr:cs=vc a:=hr
  subst hr
  refine ⟨_,_,_,rfl,by kernel_rfl,?_⟩
  refine code_parts_3.calls okay ?_
  unfold code_parts_3.W
  intro g w1 f
  refine ⟨_,f.blk.cell rfl,_,f.blk.cell rfl,_,f.blk.cell rfl,?_⟩
  refine (right1_spec w1 a).mono ?_
  rintro _ w2 ⟨rfl,e2⟩
  exact ⟨_,rfl,rfl,f.ext.trans' e2⟩
theorem tests3 (w:World):Tests KCur argA w (.func (.func 78) #[] #[]) badCur:=by
  intro u e a cs hr
  have hr:cs=[.string a.name,.bool a.ix,.bool a.wr]:=hr
  subst hr
  refine ⟨_,_,_,rfl,by kernel_rfl,?_⟩
  refine code_parts_4.calls okay ?_
  unfold code_parts_4.W badCur
  intro g w1 f
  have b:=f.blk
  refine ⟨_,b.cell rfl,?_⟩
  rw [eq_empty0]
  refine brd (fun h=>⟨by rw [decide_eq_true h];rfl,f.ext⟩) (fun h=>⟨_,b.cell rfl,?_⟩)
  rw [decide_eq_false h,Bool.false_or]
  refine brd (fun h2=>⟨by rw [decide_eq_true (by omega : 200<a.name.size)];rfl,f.ext⟩) (fun h2=>⟨_,b.cell rfl,?_⟩)
  rw [decide_eq_false (by omega : ¬ 200<a.name.size),Bool.false_or]
  refine cbool (fun h3=>⟨_,b.cell rfl,by rw [h3,Bool.true_and],f.ext⟩) (fun h3=>⟨by rw [h3,Bool.false_and],f.ext⟩)
theorem tests5 (w:World):Tests KTot argA w (.func (.func 80) #[] #[]) badTot:=by
  intro u e a cs hr
  have hr:cs=[.string a.fn,.bool a.dist]:=hr
  subst hr
  refine ⟨_,_,_,rfl,by kernel_rfl,?_⟩
  refine code_parts_6.calls okay ?_
  unfold code_parts_6.W
  intro g w1 f
  refine ⟨_,f.blk.cell rfl,_,f.blk.cell rfl,?_⟩
  refine (aggNew_spec w1 (sb a.fn) a.dist).mono ?_
  rintro _ w2 ⟨A,rfl,e2⟩
  exact ⟨_,_,rfl,rfl,f.ext.trans' e2⟩
theorem within_spec (w:World) (n low high:Int):CallsV Tryz.prog 74 #[.int .i64 n,.int .i64 low,.int .i64 high] w fun r w'=>r=.bool (within n low high)/\w'=w:=by
  refine code_parts_1.calls okay ?_
  unfold code_parts_1.W within
  exact brd (fun h=>⟨by rw [decide_eq_true h,Bool.true_and],rfl⟩) (fun h=>⟨by rw [decide_eq_false h,Bool.false_and],rfl⟩)
theorem tests4 {w:World} {g1:Nat} (hb:Blk w g1 [.func (.func 74) #[] #[]]):Tests KSrt argA w (.func (.func 79) #[] #[.pointer (some ⟨g1,0,none⟩)]) badSrt:=by
  intro u e a cs hr
  obtain ⟨D,dc,rfl,hdc,hD⟩:=hr
  refine ⟨_,_,_,rfl,by kernel_rfl,?_⟩
  refine code_parts_5.calls okay ?_
  unfold code_parts_5.W badSrt
  intro g w1 f
  have b:=f.blk
  have e1:=e.trans' f.ext
  refine ⟨_,_,_,b.cell rfl,?_⟩
  refine brd (fun h=>⟨by rw [decide_eq_true (by omega : 30<a.desc.length)];rfl,f.ext⟩) (fun h=>?_)
  rw [decide_eq_false (by omega : ¬ 30<a.desc.length),Bool.false_or]
  refine ⟨_,(hb.ext e1).cell0 rfl,_,b.cell rfl,_,_,_,rfl,by kernel_rfl,?_⟩
  refine (within_spec w1 a.cols 1 60).mono ?_
  rintro _ u1 ⟨rfl,hu⟩
  obtain rfl:w1=u1:=hu.symm
  exact ⟨_,rfl,rfl,f.ext⟩
end Go.Proofs.YtaifphjenebgoaaGreatDoor
set_option linter.unusedVariables false
set_option linter.unusedSimpArgs false
namespace Go.Proofs.YtaifphjenebgoaaGreatDoor
open Go Go.Sx R1 K15
theorem bt:BT Tryz.prog 32 5 9:=⟨by kernel_rfl,by kernel_rfl,by kernel_rfl⟩
theorem itemV {Ω:Nat->Prop} {w:World} {A:Option Addr} {l:List V} (h:Imm KV Ω w A l) {x:Int} (h0 : 0<=x) (h1:x<(l.length:Nat)) :
    ∃ ad,A=some ad/\¬ Ω ad.block/\∀ u,w.cell?=u.cell?\/Ext w u\/(∃ S,Fr S w u/\∀ k,S k->Ω k)->u.cell? ((ad.add (x.toNat*3)).add 0)=some (.int .u8 (l.getD x.toNat V0).k)/\u.cell? ((ad.add (x.toNat*3)).add (0+1))=some (.int .i64 (l.getD x.toNat V0).n)/\u.cell? ((ad.add (x.toNat*3)).add (0+1+1))=some (.string (l.getD x.toNat V0).s):=by
  have hlt:x.toNat<l.length:=by omega
  have hg:l[x.toNat]?=some (l.getD x.toNat V0):=by simp [List.getD,hlt]
  obtain ⟨ad,hA,hn,cs,hr,hcell⟩:=h x.toNat _ hg
  have hr:cs=vc (l.getD x.toNat V0):=hr
  subst hr
  refine ⟨ad,hA,hn,fun u hu=>?_⟩
  have hc:∀ j v,(vc (l.getD x.toNat V0))[j]?=some v->u.cell? ((ad.add (x.toNat*3)).add j)=some v:=by
    intro j v hj
    have h2:=hcell j v hj
    rw [add_add]
    rcases hu with hu|hu|⟨S,hu,hS⟩
    · rw [<- hu];exact h2
    · exact hu.cell (fun h=>h) h2
    · exact hu.cell (by rw [add_block];exact fun h=>hn (hS _ h)) h2
  exact ⟨hc 0 _ rfl,hc 1 _ rfl,hc 2 _ rfl⟩
theorem itemV0 {Ω:Nat->Prop} {w:World} {A:Option Addr} {l:List V} (h:Imm KV Ω w A l) {x:Int} (h0 : 0<=x) (h1:x<(l.length:Nat)) :
    ∃ ad,A=some ad/\w.cell? ((ad.add (x.toNat*3)).add 0)=some (.int .u8 (l.getD x.toNat V0).k)/\w.cell? ((ad.add (x.toNat*3)).add (0+1))=some (.int .i64 (l.getD x.toNat V0).n)/\w.cell? ((ad.add (x.toNat*3)).add (0+1+1))=some (.string (l.getD x.toNat V0).s):=by
  obtain ⟨ad,hA,_,hc⟩:=itemV h h0 h1
  exact ⟨ad,hA,hc w (.inl rfl)⟩
theorem varV (w:World) (zs:Array Value) (hz:zs.size=3) (e:TypeId) (a b c:Value):((((w.alloc (.cells zs e)).cell? ((⟨w.heap.size,0,none⟩:Addr).add 0)).isSome=true/\(w.alloc (.cells zs e)).frozen? ((⟨w.heap.size,0,none⟩:Addr).add 0)=false) /\
    ((((w.alloc (.cells zs e)).setCell ((⟨w.heap.size,0,none⟩:Addr).add 0) a).cell? ((⟨w.heap.size,0,none⟩:Addr).add (0+1))).isSome=true/\((w.alloc (.cells zs e)).setCell ((⟨w.heap.size,0,none⟩:Addr).add 0) a).frozen? ((⟨w.heap.size,0,none⟩:Addr).add (0+1))=false) /\
    (((((w.alloc (.cells zs e)).setCell ((⟨w.heap.size,0,none⟩:Addr).add 0) a).setCell ((⟨w.heap.size,0,none⟩:Addr).add (0+1)) b).cell? ((⟨w.heap.size,0,none⟩:Addr).add (0+1+1))).isSome=true/\(((w.alloc (.cells zs e)).setCell ((⟨w.heap.size,0,none⟩:Addr).add 0) a).setCell ((⟨w.heap.size,0,none⟩:Addr).add (0+1)) b).frozen? ((⟨w.heap.size,0,none⟩:Addr).add (0+1+1))=false)) /\
    Blk ((((w.alloc (.cells zs e)).setCell ((⟨w.heap.size,0,none⟩:Addr).add 0) a).setCell ((⟨w.heap.size,0,none⟩:Addr).add (0+1)) b).setCell ((⟨w.heap.size,0,none⟩:Addr).add (0+1+1)) c) w.heap.size [a,b,c] /\
    Ext w ((((w.alloc (.cells zs e)).setCell ((⟨w.heap.size,0,none⟩:Addr).add 0) a).setCell ((⟨w.heap.size,0,none⟩:Addr).add (0+1)) b).setCell ((⟨w.heap.size,0,none⟩:Addr).add (0+1+1)) c):=by
  obtain ⟨x,y,z,rfl⟩:∃ x y z,zs=#[x,y,z]:=by
    obtain ⟨l⟩:=zs
    match l,hz with
    | [x,y,z],_=>exact ⟨x,y,z,rfl⟩
  have b0:Blk (w.alloc (.cells #[x,y,z] e)) w.heap.size [x,y,z]:=Blk.alloc _ _ _
  have e0:Ext w (w.alloc (.cells #[x,y,z] e)):=Fr.alloc NoB w _
  generalize w.alloc (.cells #[x,y,z] e)=w0 at *
  have b1:=b0.set 0 0 a
  have e1:=e0.setNewAdd (o:=0) (i:=0) (Nat.le_refl _) a
  generalize w0.setCell ((⟨w.heap.size,0,none⟩:Addr).add 0) a=w1 at *
  have b2:=b1.set 0 (0+1) b
  have e2:=e1.setNewAdd (o:=0) (i:=0+1) (Nat.le_refl _) b
  generalize w1.setCell ((⟨w.heap.size,0,none⟩:Addr).add (0+1)) b=w2 at *
  have b3:=b2.set 0 (0+1+1) c
  have e3:=e2.setNewAdd (o:=0) (i:=0+1+1) (Nat.le_refl _) c
  exact ⟨⟨⟨by rw [b0.cell (v:=x) rfl];rfl,b0.unfrozen _ _⟩,⟨by rw [b1.cell (v:=y) rfl];rfl,b1.unfrozen _ _⟩,⟨by rw [b2.cell (v:=z) rfl];rfl,b2.unfrozen _ _⟩⟩,b3,e3⟩
theorem appendBs {w:World} {A:Option Addr} {c:Nat} {l b:List UInt8} (h:OwnB w A c l) {x:Value} (hx:Src Tryz.prog w 1 x b.length (b.map u8)) (hb:l.length+b.length<=140737488355328) (ty:TypeId) {t2:TypeId} (ht2:∃ d,und Tryz.prog t2=some d/\∀ k,d≠.int k) :
    ∃ A' c' w',RunsTo Tryz.prog (Builtin.append_ #[32,t2] ty #[.slice A l.length c,x]) w (.slice A' (l++b).length c') w'/\OwnB w' A' c' (l++b)/\Grew A A' w w':=by
  obtain ⟨A',c',w',hr,ho,hf,hs,_⟩:=append_own (ty:=ty) (t2:=t2) slB ht2 h hx (by simp [maxLen];omega) (by omega)
  exact ⟨A',c',w',by rw [List.length_append];exact hr,by unfold OwnB;rw [List.length_append,List.map_append];exact ho,⟨hf,hs⟩⟩
theorem isB:∃ d,und Tryz.prog 32=some d/\∀ k,d≠.int k:=⟨_,slB.ht,fun _ h=>by cases h⟩
theorem isS:∃ d,und Tryz.prog 9=some d/\∀ k,d≠.int k:=⟨_,bt.hs,fun _ h=>by cases h⟩
def encB (b:List UInt8):List UInt8:=B1.enc b.length++b
theorem Blob_spec {w:World} {A B:Option Addr} {c cb:Nat} {l b:List UInt8} (h:OwnB w A c l) (hB:Imm KB (ownB A) w B b) (hb:l.length+b.length+10<=140737488355328) :
    CallsV Tryz.prog 28 #[.slice A l.length c,.slice B b.length cb] w fun v w'=>∃ A' c',v=.slice A' (l++encB b).length c'/\OwnB w' A' c' (l++encB b)/\Grew A A' w w':=by
  refine bytes_Blob.calls okay ?_
  unfold bytes_Blob.W
  rw [wu _ (by omega) (by omega)]
  refine (Uint_spec h b.length (by omega) (by omega)).mono ?_
  rintro v w1 ⟨A1,c1,rfl,ho,hg,_⟩
  refine ⟨_,_,_,rfl,?_⟩
  have he:=B1.enc_le_ten (m:=b.length) (by omega)
  obtain ⟨A2,c2,w2,hr,ho2,hg2⟩:=appendBs ho (Src.bytes (P:=Tryz.prog) (c:=cb) (hB.grew KB_pos hg)) (by rw [List.length_append];omega) 32 isB
  refine ⟨_,_,_,_,hr,A2,c2,?_,?_,hg.trans hg2⟩
  · simp [encB]
  · unfold encB;rw [<- List.append_assoc];exact ho2
theorem high_spec {w:World} {A:Option Addr} {c:Nat} {l:List UInt8} (h:OwnB w A c l) (m k:Nat) (hm:m<18446744073709551616) (hk:k<=8) (hb:l.length+8<=140737488355328) :
    CallsV Tryz.prog 66 #[.slice A l.length c,.int .u64 (m:Int),.int .i64 (k:Int)] w fun v w'=>∃ A' c',v=.slice A' (l++hi m k).length c'/\OwnB w' A' c' (l++hi m k)/\Grew A A' w w':=by
  refine record_high.calls okay ?_
  unfold record_high.W
  have hsplit:∀ j,j<=k->∃ r,hi m k=r++hi m j/\r.length=k-j:=by
    intro j hj
    induction k with
    | zero=>obtain rfl:j=0:=by omega
            exact ⟨[],rfl,rfl⟩
    | succ k ih =>
      rcases Nat.lt_or_ge k j with h|h
      · obtain rfl:j=k+1:=by omega
        exact ⟨[],rfl,by simp⟩
      · obtain ⟨r,hr,hl⟩:=ih (by omega) h
        exact ⟨(m / 256 ^ k % 256).toUInt8::r,by rw [hi,hr];rfl,by simp [hl];omega⟩
  refine ⟨fun A1 n1 c1 x w1=>∃ (j:Nat) (r:List UInt8),j<=k/\x=(j:Int)-1/\hi m k=r++hi m j/\r.length=k-j/\n1=(l++r).length/\OwnB w1 A1 c1 (l++r)/\Grew A A1 w w1,fun _ _ _ x _=>(x+1).toNat,
    ⟨k,[],by omega,by rw [wi _ (by omega) (by omega)],by simp,by simp,by simp,by simpa using h,.refl _ _⟩,?_⟩
  rintro A1 _ c1 _ w1 ⟨j,r,hj,rfl,hr,hrl,rfl,ho,hg⟩
  have hlen:(l++r).length=l.length+(k-j):=by simp [hrl]
  refine brd (fun h0=>?_) (fun h0=>?_)
  · obtain ⟨i,rfl⟩:∃ i,j=i+1:=⟨j-1,by omega⟩
    have e1:IntKind.i64.wrap (8*(((i+1:Nat):Int)-1))=((8*i:Nat):Int):=by rw [wi _ (by omega) (by omega)];omega
    rw [e1,Int.toNat_natCast,show min (8*i) 64=8*i by omega,show ((2:Int) ^ (8*i))=((256 ^ i:Nat):Int) by rw [show (256:Nat)=2 ^ 8 from rfl,<- Nat.pow_mul];simp,Int.fdiv_eq_ediv_of_nonneg _ (Int.natCast_nonneg _),<- Int.natCast_ediv]
    have hw:IntKind.u8.wrap ((m / 256 ^ i:Nat):Int)=((m / 256 ^ i % 256:Nat):Int):=by rw [IntKind.wrap_u8];omega
    rw [hw,toUInt8_int (Nat.mod_lt _ (by decide))]
    obtain ⟨A2,c2,w2,hrun,ho2,hg2,_⟩:=appendB ho (m / 256 ^ i % 256).toUInt8 (by omega) 5 32
    refine ⟨by omega,A2,_,c2,w2,hrun,?_⟩
    rw [wi _ (by omega) (by omega)]
    refine ⟨⟨i,r++[(m / 256 ^ i % 256).toUInt8],by omega,by omega,by rw [hr,hi];simp,by simp [hrl];omega,by simp;omega,by rw [<- List.append_assoc];exact ho2,hg.trans hg2⟩,by dsimp only;omega⟩
  · obtain rfl:j=0:=by omega
    have:hi m k=r:=by rw [hr];simp [hi]
    rw [this]
    exact ⟨A1,c1,rfl,ho,hg⟩
theorem fits_shift {n:Int} (h1 : -9223372036854775808<=n) (h2:n<=9223372036854775807) {k:Nat} (hk : 1<=k) (hk':k<=7) :
    (Int.fdiv (IntKind.i64.wrap (n*2 ^ min (Int.toNat (IntKind.i64.wrap (64-IntKind.i64.wrap (8*(k:Int))))) 64)) (2 ^ min (Int.toNat (IntKind.i64.wrap (64-IntKind.i64.wrap (8*(k:Int))))) 64)=n)<->fits n k=true:=by
  have e:IntKind.i64.wrap (64-IntKind.i64.wrap (8*(k:Int)))=((64-8*k:Nat):Int):=by
    rw [wi (8*(k:Int)) (by omega) (by omega),wi _ (by omega) (by omega)];omega
  rw [e,Int.toNat_natCast,IntKind.wrap_i64,Int.fdiv_eq_ediv_of_nonneg _ (by exact Int.le_of_lt (Int.pow_pos (by decide)))]
  unfold fits
  rw [decide_eq_true_iff]
  obtain rfl|rfl|rfl|rfl|rfl|rfl|rfl:k=1\/k=2\/k=3\/k=4\/k=5\/k=6\/k=7:=by omega
  all_goals
    simp only [Nat.reduceMul,Nat.reduceSub,Nat.reducePow,Int.reducePow,show min 56 64=56 from rfl,show min 48 64=48 from rfl,show min 40 64=40 from rfl,show min 32 64=32 from rfl,show min 24 64=24 from rfl,show min 16 64=16 from rfl,show min 8 64=8 from rfl,Int.cast_ofNat_Int]
    omega
theorem wide_spec (w:World) (n:Int) (h1 : -9223372036854775808<=n) (h2:n<=9223372036854775807) :
    CallsV Tryz.prog 67 #[.int .i64 n] w fun v w'=>v=.int .i64 (wide n:Nat)/\w'=w:=by
  refine record_wide.calls okay ?_
  unfold record_wide.W
  have e:∀ k:Nat,k<=8->IntKind.i64.wrap (64-IntKind.i64.wrap (8*(k:Int)))=((64-8*k:Nat):Int):=by
    intro k hk
    rw [wi (8*(k:Int)) (by omega) (by omega),wi _ (by omega) (by omega)];omega
  have fs:∀ (k:Nat) (A B:Prop),1<=k->k<=7->(fits n k=false->A)->(fits n k=true->B) ->
      (bif !decide (Int.fdiv (IntKind.i64.wrap (n*2 ^ min (Int.toNat (IntKind.i64.wrap (64-IntKind.i64.wrap (8*(k:Int))))) 64)) (2 ^ min (Int.toNat (IntKind.i64.wrap (64-IntKind.i64.wrap (8*(k:Int))))) 64)=n) then A else B):=by
    intro k A B k1 k7 ha hb
    refine brn (fun h=>ha ?_) (fun h=>hb ((fits_shift h1 h2 k1 k7).1 h))
    cases hf:fits n k with
    | false=>rfl
    | true=>exact absurd ((fits_shift h1 h2 k1 k7).2 hf) h
  have e1:=e 1 (by omega)
  refine ⟨fun x w1=>∃ k:Nat,1<k/\k<=8/\x=(k:Int)/\wide n=wideFrom n (8-k) k/\w1=w,fun x _=>(9-x).toNat,⟨?_,?_,?_⟩,?_⟩
  · rw [show ((1:Int))=((1:Nat):Int) from rfl,e1];omega
  · rw [show ((1:Int))=((1:Nat):Int) from rfl,e1];omega
  · have f1:=fun A B=>fs 1 A B (by decide) (by decide)
    simp only [show ((1:Nat):Int)=1 from rfl] at f1
    refine f1 _ _ (fun hf=>?_) (fun hf=>⟨?_,rfl⟩)
    · exact ⟨2,by omega,by omega,by rw [wi _ (by omega) (by omega)];rfl,by show wideFrom n 7 1=_;rw [wideFrom,hf,if_neg (by decide)],rfl⟩
    · have:wide n=1:=by show wideFrom n 7 1=_;rw [wideFrom,hf,if_pos rfl]
      rw [this];rfl
  · rintro _ w1 ⟨k,hk,hk8,rfl,hw,rfl⟩
    refine brd (fun hlt=>?_) (fun hge=>?_)
    · refine ⟨by rw [e k (by omega)];omega,by rw [e k (by omega)];omega,?_⟩
      have hwk:wideFrom n (8-k) k=if fits n k then k else wideFrom n (8-(k+1)) (k+1):=by
        rw [show 8-k=(8-(k+1))+1 by omega,wideFrom]
      rw [hwk] at hw
      refine fs k _ _ (by omega) (by omega) (fun hf=>?_) (fun hf=>⟨?_,rfl⟩)
      · rw [hf] at hw
        rw [wi _ (by omega) (by omega)]
        exact ⟨⟨k+1,by omega,by omega,rfl,hw,rfl⟩,by dsimp only;omega⟩
      · rw [hf] at hw
        rw [show wide n=k from hw]
    · obtain rfl:k=8:=by omega
      refine ⟨?_,rfl⟩
      rw [hw];rfl
theorem sort_spec (w:World) (v:V) (hg:good v) (hs:v.s.size<=1000000000) :
    CallsV Tryz.prog 65 #[.agg #[.int .u8 v.k,.int .i64 v.n,.string v.s]] w fun r w'=>r=.int .u64 (sort v:Nat)/\Ext w w':=by
  refine record_sort.calls okay ?_
  unfold record_sort.W
  have b:Blk (w.alloc (.cells #[.int .u8 v.k,.int .i64 v.n,.string v.s] 54)) w.heap.size [.int .u8 v.k,.int .i64 v.n,.string v.s]:=Blk.alloc _ _ _
  have e:Ext w (w.alloc (.cells #[.int .u8 v.k,.int .i64 v.n,.string v.s] 54)):=Fr.alloc NoB w _
  generalize w.alloc (.cells #[.int .u8 v.k,.int .i64 v.n,.string v.s] 54)=W at *
  refine ⟨_,b.cell rfl,?_⟩
  have hwl:=wide_le v.n
  unfold sort
  refine brd (fun h1=>?_) (fun h1=>?_)
  · rw [if_pos h1]
    refine ⟨_,b.cell rfl,(wide_spec W v.n hg.2.1.1 hg.2.1.2).same ⟨_,rfl,?_,e⟩⟩
    rw [wu _ (by omega) (by omega)]
  rw [if_neg h1]
  refine brd (fun h1=>?_) (fun h1=>?_)
  · rw [if_pos h1]
    refine ⟨_,b.cell rfl,?_,e⟩
    rw [wu (v.s.size:Int) (by omega) (by omega),wu (2*(v.s.size:Int)) (by omega) (by omega),wu _ (by omega) (by omega)]
    rfl
  rw [if_neg h1]
  refine brd (fun h1=>?_) (fun h1=>?_)
  · rw [if_pos h1]
    refine ⟨_,b.cell rfl,?_,e⟩
    rw [wu (v.s.size:Int) (by omega) (by omega),wu (2*(v.s.size:Int)) (by omega) (by omega),wu _ (by omega) (by omega)]
    rfl
  rw [if_neg h1]
  exact ⟨rfl,e⟩
theorem Src.sb (w:World) (s:ByteArray):Src Tryz.prog w 1 (.string s) (sb s).length ((Go.Sx.sb s).map u8):=by
  have:=Src.str (P:=Tryz.prog) (w:=w) s
  rw [sb_length]
  have e:Lib.strCells s=(Go.Sx.sb s).map u8:=by simp [Lib.strCells,Go.Sx.sb,u8]
  rw [<- e];exact this
def Tells (w:World) (r:List UInt8×Int) (v:Value) (w':World):Prop:=∃ A c,v=.tuple #[.slice A r.1.length c,.int .i64 r.2]/\OwnB w' A c r.1/\Ext w w'/\New w A
theorem Tells.nil {w w':World} (e:Ext w w') (x:Int):Tells w ([],x) (.tuple #[.slice none 0 0,.int .i64 x]) w':=⟨none,0,rfl,OwnB.nil _,e,New.none _⟩
theorem rightRow_zero {l:List V} (h:rightRow l=0):l.length<=200/\l.all right=true:=by
  unfold rightRow at h
  split at h
  · cases h
  · refine ⟨by omega,?_⟩
    split at h
    · assumption
    · cases h
theorem getD_mem {l:List V} {i:Nat} (h:i<l.length):l.getD i V0∈l:=by simp [List.getD,h]
def putL (l:List V):List UInt8:=B1.enc l.length++l.flatMap (fun v=>B1.enc (sort v))++l.flatMap body
def putR (l:List V):List UInt8×Int:=if rightRow l≠0 then ([],rightRow l) else if 1048576<(putL l).length then ([],3) else (putL l,0)
theorem flat_snoc {f:V->List UInt8} (l:List V) (j:Nat) (h:j<l.length):(l.take (j+1)).flatMap f=(l.take j).flatMap f++f (l.getD j V0):=by
  have:l.take (j+1)=l.take j++[l.getD j V0]:=by rw [List.take_add_one];simp [List.getD,h]
  rw [this,List.flatMap_append];simp
theorem sort_lt (v:V) (hs:v.s.size<=65536):sort v<2 ^ 64:=by
  have:=wide_le v.n
  unfold sort;split
  · omega
  · split
    · omega
    · split<;>omega
theorem flat_le {f:V->List UInt8} {M:Nat}:∀ (l:List V),(∀ v∈l,(f v).length<=M)->(l.flatMap f).length<=l.length*M
  | [],_=>by simp
  | v::l,h=>by
    have h1:=flat_le l (fun v hv=>h v (List.mem_cons.2 (.inr hv)))
    have h2:=h v (List.mem_cons.2 (.inl rfl))
    rw [List.flatMap_cons,List.length_append,List.length_cons,Nat.add_mul,Nat.one_mul];omega
theorem body_length (v:V):(body v).length<=8+v.s.size:=by
  have:=wide_le v.n
  unfold body;split<;>simp [hi_length,sb_length]<;>omega
theorem bounded_spec {w:World} {A:Option Addr} {c n:Nat}:CallsV Tryz.prog 68 #[.slice A n c] w fun r w'=>r=(if 1048576<n then .tuple #[.slice none 0 0,.int .i64 3] else .tuple #[.slice A n c,.int .i64 0])/\w'=w:=by
  refine record_bounded.calls okay ?_
  unfold record_bounded.W
  refine brd (fun h=>?_) (fun h=>?_)
  · exact ⟨by rw [if_pos (by omega)],rfl⟩
  · exact ⟨by rw [if_neg (by omega)],rfl⟩
theorem testsR (w:World):Tests KV argA w (.func (.func 126) #[] #[]) wrongV:=by
  intro u _ a cs hr
  have hr:cs=vc a:=hr
  subst hr
  refine ⟨_,#[],#[],rfl,by kernel_rfl,?_⟩
  refine record_right_1.calls okay ?_
  unfold record_right_1.W
  intro g w1 f
  repeat (first|refine ⟨_,Blk.cell (f.blk) (by rfl),?_⟩|refine ⟨_,_,_,Blk.cell (f.blk) (by rfl),?_⟩)
  refine (right1_spec w1 a).mono ?_
  rintro _ w2 ⟨rfl,e⟩
  exact ⟨_,rfl,rfl,f.ext.trans' e⟩
theorem right_spec {w:World} {A:Option Addr} {c:Nat} {l:List V} (h:Imm KV NoB w A l) (hl:l.length<=maxLen) :
    CallsV Tryz.prog 64 #[.slice A l.length c] w fun r w'=>r=.int .i64 (rightRow l)/\Ext w w':=by
  refine record_right.calls okay ?_
  unfold record_right.W rightRow
  refine brd (fun h1=>⟨by rw [if_pos (by omega)],.refl _ _⟩) (fun h1=>?_)
  rw [if_neg (by omega)]
  refine (contains_api_Value rfl h hl (testsR w)).mono ?_
  rintro _ w1 ⟨rfl,e⟩
  have ha:l.any wrongV=!l.all right:=by
    rw [List.not_all_eq_any_not];rfl
  rw [ha]
  refine ⟨_,rfl,brnb (fun h=>?_) (fun h=>?_)⟩
  · rw [h];exact ⟨rfl,e⟩
  · rw [h];exact ⟨rfl,e⟩
theorem Put_spec {w:World} {A:Option Addr} {c:Nat} {l:List V} (h:Imm KV NoB w A l) (hl:l.length<=maxLen) (hg:∀ v∈l,good v) :
    CallsV Tryz.prog 27 #[.slice A l.length c] w fun r w'=>Tells w (putR l) r w':=by
  refine record_Put.calls okay ?_
  unfold record_Put.W
  refine (right_spec h hl).mono ?_
  rintro r w1 ⟨rfl,e1⟩
  refine ⟨_,rfl,?_⟩
  unfold putR
  refine brn (fun hr=>?_) (fun hr=>?_)
  · rw [if_pos hr];exact Tells.nil e1 _
  rw [if_neg (by rw [hr];simp)]
  obtain ⟨h200,hall⟩:=rightRow_zero hr
  rw [List.all_eq_true] at hall
  have h1:=h.ext KV_pos e1
  rw [wu _ (by omega) (by omega)]
  refine (Uint_spec (OwnB.nil w1) l.length (by omega) (by simp)).mono ?_
  rw [List.nil_append]
  rintro r w2 ⟨A2,c2,rfl,ho2,hg2,_⟩
  have e2:=hg2.ext (.refl _ _) (New.none _)
  have n2:=hg2.new (.refl _ _) (New.none _)
  have he:=B1.enc_le_ten (m:=l.length) (by omega)
  refine ⟨_,_,_,rfl,?_⟩
  have hsl:∀ v∈l,(B1.enc (sort v)).length<=10:=fun v hv=>B1.enc_le_ten (sort_lt v (right_size (hall v hv)))
  have hbl:∀ v∈l,(body v).length<=65544:=fun v hv=>by have:=body_length v;have:=right_size (hall v hv);omega
  have hS:∀ j,((l.take j).flatMap fun v=>B1.enc (sort v)).length<=2000:=fun j=>by
    have:=flat_le (f:=fun v=>B1.enc (sort v)) (M:=10) (l.take j) (fun v hv=>hsl v (List.mem_of_mem_take hv))
    rw [List.length_take] at this;omega
  have hB:∀ j,((l.take j).flatMap body).length<=13108800:=fun j=>by
    have:=flat_le (f:=body) (M:=65544) (l.take j) (fun v hv=>hbl v (List.mem_of_mem_take hv))
    rw [List.length_take] at this;omega
  refine ⟨fun A3 n3 c3 x w3=>∃ j:Nat,j<=l.length/\x=(j:Int)/\n3=(B1.enc l.length++(l.take j).flatMap fun v=>B1.enc (sort v)).length/\OwnB w3 A3 c3 (B1.enc l.length++(l.take j).flatMap fun v=>B1.enc (sort v))/\Ext w1 w3/\New w1 A3,
    fun _ _ _ x _=>(l.length-x).toNat,⟨0,by omega,rfl,by simp,by simpa using ho2,e2,n2⟩,?_⟩
  rintro A3 _ c3 _ w3 ⟨j,hj,rfl,rfl,ho3,e3,n3⟩
  have hSj:=hS j
  refine brd (fun hlt=>?_) (fun hge=>?_)
  · obtain ⟨ad,hA,q1,q2,q3⟩:=itemV0 (h1.ext KV_pos e3) (x:=(j:Int)) (by omega) (by omega)
    refine ⟨ad,hA,⟨by omega,by omega⟩,_,q1,_,q2,_,q3,?_⟩
    rw [Int.toNat_natCast]
    have hjl:j<l.length:=by omega
    have hgv:=hg _ (getD_mem hjl)
    have hsz:=right_size (hall _ (getD_mem hjl))
    have hsn:=flat_snoc (f:=fun v=>B1.enc (sort v)) l j hjl
    generalize l.getD j V0=v at *
    obtain ⟨hs,b,e⟩:=varV w3 #[.int .u8 0,.int .i64 0,.string (ByteArray.mk #[])] rfl 54 (.int .u8 v.k) (.int .i64 v.n) (.string v.s)
    refine ⟨hs.1,hs.2.1,hs.2.2,_,b.cell rfl,_,b.cell rfl,_,b.cell rfl,?_⟩
    refine (sort_spec _ v hgv (by omega)).mono ?_
    rintro r w4 ⟨rfl,e4⟩
    refine ⟨_,rfl,?_⟩
    refine (Uint_spec (ho3.ext (e.trans' e4)) (sort v) (sort_lt v hsz) (by rw [List.length_append];omega)).mono ?_
    rintro r w5 ⟨A5,c5,rfl,ho5,hg5,_⟩
    have e34:=e3.trans' (e.trans' e4)
    refine ⟨_,_,_,rfl,?_⟩
    rw [wi _ (by omega) (by omega)]
    rw [List.append_assoc,<- hsn] at ho5 ⊢
    exact ⟨⟨j+1,by omega,rfl,rfl,ho5,hg5.ext e34 n3,hg5.new e34 n3⟩,by dsimp only;omega⟩
  obtain rfl:j=l.length:=by omega
  rw [List.take_length] at ho3 hSj ⊢
  refine ⟨fun A4 n4 c4 x w4=>∃ j:Nat,j<=l.length/\x=(j:Int)/\n4=(B1.enc l.length++(l.flatMap fun v=>B1.enc (sort v))++(l.take j).flatMap body).length/\OwnB w4 A4 c4 (B1.enc l.length++(l.flatMap fun v=>B1.enc (sort v))++(l.take j).flatMap body)/\Ext w1 w4/\New w1 A4,
    fun _ _ _ x _=>(l.length-x).toNat,⟨0,by omega,rfl,by simp,by simpa using ho3,e3,n3⟩,?_⟩
  rintro A4 _ c4 _ w4 ⟨j,hj,rfl,rfl,ho4,e4,n4⟩
  have hBj:=hB j
  refine brd (fun hlt=>?_) (fun hge=>?_)
  · obtain ⟨ad,hA,q1,q2,q3⟩:=itemV0 (h1.ext KV_pos e4) (x:=(j:Int)) (by omega) (by omega)
    refine ⟨ad,hA,⟨by omega,by omega⟩,_,q1,_,q2,_,q3,?_⟩
    rw [Int.toNat_natCast]
    have hjl:j<l.length:=by omega
    have hgv:=hg _ (getD_mem hjl)
    have hsz:=right_size (hall _ (getD_mem hjl))
    have hsn:=flat_snoc (f:=body) l j hjl
    generalize l.getD j V0=v at *
    obtain ⟨hs,b,e⟩:=varV w4 #[.int .u8 0,.int .i64 0,.string (ByteArray.mk #[])] rfl 54 (.int .u8 v.k) (.int .i64 v.n) (.string v.s)
    have hnot : ¬ ownB A4 w4.heap.size:=fun hk=>absurd (Own.lt ho4 _ hk) (Nat.lt_irrefl _)
    refine ⟨hs.1,hs.2.1,hs.2.2,_,b.cell rfl,?_⟩
    have e4':=e4.trans' e
    have ho4':=ho4.ext e
    generalize w4.heap.size=g at *
    generalize (((w4.alloc (.cells #[.int .u8 0,.int .i64 0,.string (ByteArray.mk #[])] 54)).setCell ((⟨g,0,none⟩:Addr).add 0) (.int .u8 v.k)).setCell ((⟨g,0,none⟩:Addr).add (0+1)) (.int .i64 v.n)).setCell ((⟨g,0,none⟩:Addr).add (0+1+1)) (.string v.s)=W at *
    have hlen:(B1.enc l.length++(l.flatMap fun v=>B1.enc (sort v))++(l.take j).flatMap body).length<=20000000:=by simp only [List.length_append];omega
    generalize hpre:B1.enc l.length++(l.flatMap fun v=>B1.enc (sort v))=pre at *
    refine brd (fun h1=>?_) (fun h1=>?_)
    · refine ⟨fun u=>Blk u g [.int .u8 v.k,.int .i64 v.n,.string v.s],b.ext (Fr.drew NoB W),_,fun u hu=>hu.cell rfl,_,fun u hu=>hu.cell rfl,?_⟩
      refine (wide_spec _ v.n hgv.2.1.1 hgv.2.1.2).same ⟨_,rfl,fun u=>Blk u g [.int .u8 v.k,.int .i64 v.n,.string v.s],fun _ h=>h,b.ext (Fr.drew NoB W),?_⟩
      have hwl:=wide_le v.n
      have hm:IntKind.u64.wrap v.n=(((v.n % 18446744073709551616).toNat:Nat):Int):=by rw [wu_mod];omega
      rw [hm]
      have ed:=e4'.trans' (Fr.drew NoB W)
      refine (high_spec (ho4'.ext (Fr.drew NoB W)) (v.n % 18446744073709551616).toNat (wide v.n) (by omega) hwl (by omega)).mono ?_
      rintro r w5 ⟨A5,c5,rfl,ho5,hg5⟩
      have b5:=(b.ext (Fr.drew NoB W)).keep hg5.fr hnot
      have hhl:=hi_length (v.n % 18446744073709551616).toNat (wide v.n)
      refine ⟨_,_,_,rfl,fun u=>Blk u g [.int .u8 v.k,.int .i64 v.n,.string v.s],fun _ h=>h,b5,_,b5.cell rfl,?_⟩
      obtain ⟨A6,c6,w6,hr6,ho6,hg6⟩:=appendBs ho5 (Src.sb w5 v.s) (by rw [List.length_append,hhl,sb_length];omega) 32 isS
      refine ⟨_,_,_,_,hr6,?_⟩
      rw [wi _ (by omega) (by omega)]
      have hcat:pre++(l.take j).flatMap body++hi (v.n % 18446744073709551616).toNat (wide v.n)++sb v.s=pre++(l.take (j+1)).flatMap body:=by
        rw [hsn,body,if_pos h1];simp
      rw [hcat] at ho6 ⊢
      have hg56:=hg5.trans hg6
      exact ⟨⟨j+1,by omega,rfl,rfl,ho6,hg56.ext ed n4,hg56.new ed n4⟩,by dsimp only;omega⟩
    · obtain ⟨A6,c6,w6,hr6,ho6,hg6⟩:=appendBs ho4' (Src.sb W v.s) (by rw [sb_length];omega) 32 isS
      refine ⟨_,b.cell rfl,_,_,_,_,hr6,?_⟩
      rw [wi _ (by omega) (by omega)]
      have hcat:pre++(l.take j).flatMap body++sb v.s=pre++(l.take (j+1)).flatMap body:=by
        rw [hsn,body,if_neg h1];simp
      rw [hcat] at ho6 ⊢
      exact ⟨⟨j+1,by omega,rfl,rfl,ho6,hg6.ext e4' n4,hg6.new e4' n4⟩,by dsimp only;omega⟩
  obtain rfl:j=l.length:=by omega
  rw [List.take_length] at ho4 ⊢
  refine (bounded_spec).same ?_
  show _
  by_cases hb : 1048576<(putL l).length
  · have hb':=hb
    unfold putL at hb'
    rw [if_pos hb,if_pos hb']
    exact ⟨_,_,_,_,rfl,Tells.nil (e1.trans' e4) _⟩
  · have hb':=hb
    unfold putL at hb'
    rw [if_neg hb,if_neg hb']
    exact ⟨_,_,_,_,rfl,A4,c4,rfl,ho4,e1.trans' e4,n4.ext e1⟩
end Go.Proofs.YtaifphjenebgoaaGreatDoor
set_option linter.unusedVariables false
set_option linter.unusedSimpArgs false
namespace K15
open Go.Sx R1
structure Sizes (p:Prog):Prop where
  regs:p.regs<=250
  binds:p.binds<=1000
  consts:p.consts.length<=1000
  curs:p.curs.length<=12
  sorts:p.sorts.length<=6
  tots:p.tots.length<=60
  code:p.code.length<=4000
theorem Checked.sizes {p:Prog} (h:Checked p):Sizes p:=by
  have h1:=h.parts
  simp only [partsP,within,Bool.and_eq_true,decide_eq_true_eq] at h1
  obtain ⟨_,h2,h3,_,h4,h5,h6,h7,_⟩:=h1
  exact ⟨h2.2,h3.2,h4,h5,h6,h7,h.hi⟩
end K15
set_option linter.unusedVariables false
set_option linter.unusedSimpArgs false
namespace K15
open Go.Sx R1
def okN (n:Int):Prop:=0<=n/\n<9223372036854775808
def eI (n:Int):List UInt8:=B1.enc n.toNat
def eB (l:List UInt8):List UInt8:=B1.enc l.length++l
def eF (b:Bool):List UInt8:=eI (if b then 1 else 0)
def eL {α:Type} (e : α->List UInt8) (l:List α):List UInt8:=eI l.length++l.flatMap e
def eS (s:ByteArray):List UInt8:=eB (sb s)
def eCur (c:Cur):List UInt8:=eS c.name++(eF c.ix++eF c.wr)
def eSrt (s:Srt):List UInt8:=eL eF s.desc++(eI s.cols++eF s.dist)
def eTot (t:Tot):List UInt8:=eS t.fn++eF t.dist
def eIns (i:Ins):List UInt8:=eI i.op++(eI i.a++(eI i.b++(eI i.c++eI i.d)))
def fCur (c:Cur):Prop:=c.name.size<18446744073709551616
def fSrt (s:Srt):Prop:=s.desc.length<9223372036854775808/\okN s.cols
def fTot (t:Tot):Prop:=t.fn.size<18446744073709551616
def fIns (i:Ins):Prop:=okN i.op/\okN i.a/\okN i.b/\okN i.c/\okN i.d
def bytesP (f:V->List UInt8) (p:Prog):List UInt8 :=
  eI p.ver++(eI p.regs++(eI p.binds++(eL eS p.names++(eL (fun v=>eB (f v)) p.consts++(eL eCur p.curs++(eL eSrt p.sorts++(eL eTot p.tots++eL eIns p.code)))))))
structure Fine (p:Prog):Prop where
  ver:okN p.ver
  regs:okN p.regs
  binds:okN p.binds
  l1:p.names.length<9223372036854775808
  names:∀ s∈p.names,s.size<18446744073709551616
  l2:p.consts.length<9223372036854775808
  consts:∀ v∈p.consts,right v=true/\good v
  l3:p.curs.length<9223372036854775808
  curs:∀ c∈p.curs,fCur c
  l4:p.sorts.length<9223372036854775808
  sorts:∀ s∈p.sorts,fSrt s
  l5:p.tots.length<9223372036854775808
  tots:∀ t∈p.tots,fTot t
  l6:p.code.length<9223372036854775808
  code:∀ i∈p.code,fIns i
theorem field_ok {p:Prog} (S:Sizes p) {t:Nat} (ht:t<p.code.length) {l n:Int} (h:fieldP p t l n=true):okN n:=by
  obtain ⟨s1,s2,s3,s4,s5,s6,s7⟩:=S
  have b:∀ hi:Int,hi<=4000->below n hi=true->okN n:=fun hi hh h=>by
    unfold below at h
    simp only [Bool.and_eq_true,decide_eq_true_eq] at h
    unfold okN;omega
  unfold fieldP at h
  have c:∀ (q:Prop) [Decidable q] (x y:Bool),(if q then x else y)=true->(x=true->okN n)->(y=true->okN n)->okN n:=fun q _ x y h hx hy=>by
    by_cases hq:q
    · rw [if_pos hq] at h;exact hx h
    · rw [if_neg hq] at h;exact hy h
  refine c _ _ _ h (fun h=>?_) (fun h=>?_)
  · first|exact b _ (by omega) h|exact b _ (by omega) (Bool.and_eq_true_iff.1 h).1|(simp only [Bool.and_eq_true,decide_eq_true_eq] at h;unfold okN;omega)
  refine c _ _ _ h (fun h=>?_) (fun h=>?_)
  · first|exact b _ (by omega) h|exact b _ (by omega) (Bool.and_eq_true_iff.1 h).1|(simp only [Bool.and_eq_true,decide_eq_true_eq] at h;unfold okN;omega)
  refine c _ _ _ h (fun h=>?_) (fun h=>?_)
  · first|exact b _ (by omega) h|exact b _ (by omega) (Bool.and_eq_true_iff.1 h).1|(simp only [Bool.and_eq_true,decide_eq_true_eq] at h;unfold okN;omega)
  refine c _ _ _ h (fun h=>?_) (fun h=>?_)
  · first|exact b _ (by omega) h|exact b _ (by omega) (Bool.and_eq_true_iff.1 h).1|(simp only [Bool.and_eq_true,decide_eq_true_eq] at h;unfold okN;omega)
  refine c _ _ _ h (fun h=>?_) (fun h=>?_)
  · first|exact b _ (by omega) h|exact b _ (by omega) (Bool.and_eq_true_iff.1 h).1|(simp only [Bool.and_eq_true,decide_eq_true_eq] at h;unfold okN;omega)
  refine c _ _ _ h (fun h=>?_) (fun h=>?_)
  · first|exact b _ (by omega) h|exact b _ (by omega) (Bool.and_eq_true_iff.1 h).1|(simp only [Bool.and_eq_true,decide_eq_true_eq] at h;unfold okN;omega)
  refine c _ _ _ h (fun h=>?_) (fun h=>?_)
  · first|exact b _ (by omega) h|exact b _ (by omega) (Bool.and_eq_true_iff.1 h).1|(simp only [Bool.and_eq_true,decide_eq_true_eq] at h;unfold okN;omega)
  refine c _ _ _ h (fun h=>?_) (fun h=>?_)
  · first|exact b _ (by omega) h|exact b _ (by omega) (Bool.and_eq_true_iff.1 h).1|(simp only [Bool.and_eq_true,decide_eq_true_eq] at h;unfold okN;omega)
  refine c _ _ _ h (fun h=>?_) (fun h=>?_)
  · first|exact b _ (by omega) h|exact b _ (by omega) (Bool.and_eq_true_iff.1 h).1|(simp only [Bool.and_eq_true,decide_eq_true_eq] at h;unfold okN;omega)
  refine c _ _ _ h (fun h=>?_) (fun h=>?_)
  · first|exact b _ (by omega) h|exact b _ (by omega) (Bool.and_eq_true_iff.1 h).1|(simp only [Bool.and_eq_true,decide_eq_true_eq] at h;unfold okN;omega)
  refine c _ _ _ h (fun h=>?_) (fun h=>?_)
  · first|exact b _ (by omega) h|exact b _ (by omega) (Bool.and_eq_true_iff.1 h).1|(simp only [Bool.and_eq_true,decide_eq_true_eq] at h;unfold okN;omega)
  refine c _ _ _ h (fun h=>?_) (fun h=>?_)
  · first|exact b _ (by omega) h|exact b _ (by omega) (Bool.and_eq_true_iff.1 h).1|(simp only [Bool.and_eq_true,decide_eq_true_eq] at h;unfold okN;omega)
  refine c _ _ _ h (fun h=>?_) (fun h=>?_)
  · first|exact b _ (by omega) h|exact b _ (by omega) (Bool.and_eq_true_iff.1 h).1|(simp only [Bool.and_eq_true,decide_eq_true_eq] at h;unfold okN;omega)
  refine c _ _ _ h (fun h=>?_) (fun h=>?_)
  · first|exact b _ (by omega) h|exact b _ (by omega) (Bool.and_eq_true_iff.1 h).1|(simp only [Bool.and_eq_true,decide_eq_true_eq] at h;unfold okN;omega)
  refine c _ _ _ h (fun h=>?_) (fun h=>?_)
  · first|exact b _ (by omega) h|exact b _ (by omega) (Bool.and_eq_true_iff.1 h).1|(simp only [Bool.and_eq_true,decide_eq_true_eq] at h;unfold okN;omega)
  refine c _ _ _ h (fun h=>?_) (fun h=>?_)
  · first|exact b _ (by omega) h|exact b _ (by omega) (Bool.and_eq_true_iff.1 h).1|(simp only [Bool.and_eq_true,decide_eq_true_eq] at h;unfold okN;omega)
  refine c _ _ _ h (fun h=>?_) (fun h=>?_)
  · first|exact b _ (by omega) h|exact b _ (by omega) (Bool.and_eq_true_iff.1 h).1|(simp only [Bool.and_eq_true,decide_eq_true_eq] at h;unfold okN;omega)
  refine c _ _ _ h (fun h=>?_) (fun h=>?_)
  · first|exact b _ (by omega) h|exact b _ (by omega) (Bool.and_eq_true_iff.1 h).1|(simp only [Bool.and_eq_true,decide_eq_true_eq] at h;unfold okN;omega)
  cases h
theorem Checked.fine {p:Prog} (h:Checked p) (ho:∀ i∈p.code,0<=i.op/\i.op<256) (hgv:∀ v∈p.consts,good v):Fine p:=by
  have S:=h.sizes
  have h1:=h.parts
  simp only [partsP,within,Bool.and_eq_true,decide_eq_true_eq,Bool.not_eq_true',List.any_eq_false] at h1
  obtain ⟨g1,g2,g3,g4,g5,g6,g7,g8,g9,g10,g11,g12,g13⟩:=h1
  refine ⟨⟨by omega,by omega⟩,⟨by omega,by omega⟩,⟨by omega,by omega⟩,by omega,fun s hs=>?_,by omega,fun v hv=>?_,by omega,fun c hc=>?_,by omega,fun s hs=>?_,by omega,fun t ht=>?_,by have:=h.hi;omega,fun i hi=>?_⟩
  · have:=g9 s hs
    simp only [longN,decide_eq_true_eq] at this
    omega
  · have:=g10 v hv
    simp only [wrongV,Bool.not_eq_true',Bool.not_eq_false] at this
    exact ⟨this,hgv v hv⟩
  · have:=g11 c hc
    simp only [badCur,Bool.or_eq_true,decide_eq_true_eq,not_or] at this
    unfold fCur;omega
  · have:=g12 s hs
    simp only [badSrt,within,Bool.or_eq_true,decide_eq_true_eq,not_or,Bool.not_eq_true',Bool.not_eq_false,Bool.and_eq_true] at this
    unfold fSrt okN;omega
  · have:=g13 t ht
    unfold fTot
    simp only [badTot,Bool.not_eq_true',decide_eq_false_iff_not,Decidable.not_not] at this
    have hk:knownT (sb t.fn)=true:=by
      cases hk:knownT (sb t.fn) with
      | true=>rfl
      | false=>simp [newT,hk] at this
    simp only [knownT,decide_eq_true_eq] at hk
    rw [<- sb_length]
    rcases hk with hk|hk|hk|hk|hk|hk|hk<;>rw [hk]<;>decide
  · obtain ⟨k,hk,rfl⟩:=List.getElem_of_mem hi
    have hi':=h.at_ k hk
    simp only [okAt,Bool.and_eq_true] at hi'
    have hf:=hi'.1
    unfold fieldsP fieldsL at hf
    have hop:=ho _ hi
    split at hf
    · simp only [Bool.and_eq_true] at hf
      exact ⟨⟨hop.1,by omega⟩,field_ok S hk hf.1,field_ok S hk hf.2.1,field_ok S hk hf.2.2.1,field_ok S hk hf.2.2.2⟩
    · cases hf
end K15
set_option linter.unusedVariables false
set_option linter.unusedSimpArgs false
namespace K15
open Go.Sx R1
structure Few (p:Prog):Prop where
  l1:p.names.length<=200
  names:∀ s∈p.names,s.size<=200
  l2:p.consts.length<=1000
  l3:p.curs.length<=12
  curs:∀ c∈p.curs,c.name.size<=200
  l4:p.sorts.length<=6
  sorts:∀ s∈p.sorts,s.desc.length<=30/\1<=s.cols/\s.cols<=60
  l5:p.tots.length<=60
  tots:∀ t∈p.tots,t.fn.size<=200
  l6:p.code.length<=4000
theorem Checked.few {p:Prog} (h:Checked p):Few p:=by
  have h1:=h.parts
  simp only [partsP,within,Bool.and_eq_true,decide_eq_true_eq,Bool.not_eq_true',List.any_eq_false] at h1
  obtain ⟨g1,g2,g3,g4,g5,g6,g7,g8,g9,g10,g11,g12,g13⟩:=h1
  refine ⟨g4,fun s hs=>?_,g5,g6,fun c hc=>?_,g7,fun s hs=>?_,g8,fun t ht=>?_,h.hi⟩
  · have:=g9 s hs
    simp only [longN,decide_eq_true_eq] at this
    omega
  · have:=g11 c hc
    simp only [badCur,Bool.or_eq_true,decide_eq_true_eq,not_or] at this
    omega
  · have:=g12 s hs
    simp only [badSrt,within,Bool.or_eq_true,decide_eq_true_eq,not_or,Bool.not_eq_true',Bool.not_eq_false,Bool.and_eq_true] at this
    omega
  · have:=g13 t ht
    simp only [badTot,Bool.not_eq_true',decide_eq_false_iff_not,Decidable.not_not] at this
    have hk:knownT (sb t.fn)=true:=by
      cases hk:knownT (sb t.fn) with
      | true=>rfl
      | false=>simp [newT,hk] at this
    simp only [knownT,decide_eq_true_eq] at hk
    rw [<- sb_length]
    rcases hk with hk|hk|hk|hk|hk|hk|hk<;>rw [hk]<;>decide
theorem eI_len {n:Int} (h:okN n):(eI n).length<=10:=B1.enc_le_ten (by unfold okN at h;omega)
theorem eF_len (b:Bool):(eF b).length<=10:=eI_len (by unfold okN;split<;>omega)
theorem eB_len {l:List UInt8} (h:l.length<9223372036854775808):(eB l).length<=l.length+10:=by
  have:=B1.enc_le_ten (m:=l.length) (by omega)
  unfold eB;rw [List.length_append];omega
theorem eS_len {s:ByteArray} (h:s.size<=200):(eS s).length<=210:=by
  have:=eB_len (l:=sb s) (by rw [sb_length];omega)
  rw [sb_length] at this
  unfold eS;omega
theorem flatB {α:Type} {f : α->List UInt8} {M:Nat}:∀ (xs:List α),(∀ v∈xs,(f v).length<=M)->(xs.flatMap f).length<=xs.length*M
  | [],_=>by simp
  | v::xs,h=>by
    have h1:=flatB xs (fun v hv=>h v (List.mem_cons.2 (.inr hv)))
    have h2:=h v (List.mem_cons.2 (.inl rfl))
    rw [List.flatMap_cons,List.length_append,List.length_cons,Nat.add_mul,Nat.one_mul];omega
theorem takeB {α:Type} {f : α->List UInt8} {M N:Nat} (xs:List α) (j:Nat) (hl:xs.length<=N) (h:∀ v∈xs,(f v).length<=M):((xs.take j).flatMap f).length<=N*M:=by
  refine Nat.le_trans (flatB (f:=f) (M:=M) _ (fun v hv=>h v (List.mem_of_mem_take hv))) (Nat.mul_le_mul_right _ ?_)
  rw [List.length_take];omega
theorem flatS {α:Type} {f : α->List UInt8} {xs:List α} {j:Nat} (h:j<xs.length):(xs.take (j+1)).flatMap f=(xs.take j).flatMap f++f xs[j]:=by
  rw [List.take_add_one,List.getElem?_eq_getElem h,Option.toList_some,List.flatMap_append];simp only [List.flatMap_cons,List.flatMap_nil,List.append_nil]
theorem eCur_len {c:Cur} (h:c.name.size<=200):(eCur c).length<=230:=by
  have h1:=eS_len h
  have h2:=eF_len c.ix
  have h3:=eF_len c.wr
  unfold eCur;simp only [List.length_append];omega
theorem eSrt_len {s:Srt} (h:s.desc.length<=30/\1<=s.cols/\s.cols<=60):(eSrt s).length<=330:=by
  have h1:=flatB (f:=eF) (M:=10) s.desc (fun v _=>eF_len v)
  have h2:=eI_len (n:=(s.desc.length:Int)) (by unfold okN;omega)
  have h3:=eI_len (n:=s.cols) (by unfold okN;omega)
  have h4:=eF_len s.dist
  unfold eSrt eL;simp only [List.length_append];omega
theorem eTot_len {t:Tot} (h:t.fn.size<=200):(eTot t).length<=220:=by
  have h1:=eS_len h
  have h3:=eF_len t.dist
  unfold eTot;simp only [List.length_append];omega
theorem eIns_len {i:Ins} (h:fIns i):(eIns i).length<=50:=by
  have h1:=eI_len h.1
  have h2:=eI_len h.2.1
  have h3:=eI_len h.2.2.1
  have h4:=eI_len h.2.2.2.1
  have h5:=eI_len h.2.2.2.2
  unfold eIns;simp only [List.length_append];omega
def bytesR (f:V->List UInt8) (p:Prog):List UInt8×Int:=if checkP p=false then ([],140) else if 1048576<(bytesP f p).length then ([],3) else (bytesP f p,0)
end K15
set_option linter.unusedVariables false
set_option maxRecDepth 100000
namespace Go.Proofs.YtaifphjenebgoaaGreatDoor
open Go Go.Sx Value IntKind World Addr Builtin
noncomputable def code_Show.W:Int->Int->Int->Int->Int->World->(Value->World->Prop)->Prop:=fun i0 i1 i2 i3 i4 w K=>∀ g w',Fresh w g w' [int u8 i0,int i64 i1,int i64 i2,int i64 i3,int
 i64 i4] 46->∃ x,cell? w' (add (mk g 0 none) 0)=some (int u8 x)/\CallsV Tryz.prog 23 #[int u8 x] w' fun v w'=>∃ (x:ByteArray),v=string x/\∃ (J:ByteArray->World->Prop),(∀
 (x:ByteArray) w,J x w->∃ x_1,cell? w (add (mk g 0 none) 1)=some (int i64 x_1)/\∃ x_2,cell? w (add (mk g 0 none) 2)=some (int i64 x_2)/\∃ x_3,cell? w (add (mk g
 0 none) 3)=some (int i64 x_3)/\∃ x_4,cell? w (add (mk g 0 none) 4)=some (int i64 x_4)/\∃ (I:ByteArray->Int->World->Prop) (μ:ByteArray->Int->World->Nat),I x
 0 w/\∀ (x:ByteArray) x_5 w,I x x_5 w->bif decide (x_5<4) then (0<=x_5/\x_5<(↑4:Int))/\bif decide (x_5=(↑0:Int)) then CallsV Tryz.prog 61 #[int i64 x_1] w fun v w'
 => ∃ (x_6:ByteArray),v=string x_6/\ByteArray.size (ByteArray.mk #[(32:UInt8)])+ByteArray.size x_6<=9223372036854775807/\ByteArray.size x+ByteArray.size (ByteArray.mk #[(32:UInt8)] ++
 x_6)<=9223372036854775807/\I (x++(ByteArray.mk #[(32:UInt8)]++x_6)) (wrap i64 (x_5+1)) w'/\μ (x++(ByteArray.mk #[(32:UInt8)]++x_6)) (wrap i64 (x_5+1)) w'<μ x x_5 w else bif
 decide (x_5=(↑1:Int)) then CallsV Tryz.prog 61 #[int i64 x_2] w fun v w'=>∃ (x_6:ByteArray),v=string x_6/\ByteArray.size (ByteArray.mk #[(32:UInt8)])+ByteArray.size x_6 <=
 9223372036854775807/\ByteArray.size x+ByteArray.size (ByteArray.mk #[(32:UInt8)]++x_6)<=9223372036854775807/\I (x++(ByteArray.mk #[(32:UInt8)]++x_6)) (wrap i64 (x_5+1)) w'/\μ (x ++
 (ByteArray.mk #[(32:UInt8)]++x_6)) (wrap i64 (x_5+1)) w'<μ x x_5 w else bif decide (x_5=(↑2:Int)) then CallsV Tryz.prog 61 #[int i64 x_3] w fun v w'=>∃ (x_6:ByteArray),v =
 string x_6/\ByteArray.size (ByteArray.mk #[(32:UInt8)])+ByteArray.size x_6<=9223372036854775807/\ByteArray.size x+ByteArray.size (ByteArray.mk #[(32:UInt8)]++x_6)<=9223372036854775807/\I
 (x++(ByteArray.mk #[(32:UInt8)]++x_6)) (wrap i64 (x_5+1)) w'/\μ (x++(ByteArray.mk #[(32:UInt8)]++x_6)) (wrap i64 (x_5+1)) w'<μ x x_5 w else bif decide (x_5=(↑3:Int))
 then CallsV Tryz.prog 61 #[int i64 x_4] w fun v w'=>∃ (x_6:ByteArray),v=string x_6/\ByteArray.size (ByteArray.mk #[(32:UInt8)])+ByteArray.size x_6<=9223372036854775807/\ByteArray.size x +
 ByteArray.size (ByteArray.mk #[(32:UInt8)]++x_6)<=9223372036854775807/\I (x++(ByteArray.mk #[(32:UInt8)]++x_6)) (wrap i64 (x_5+1)) w'/\μ (x++(ByteArray.mk #[(32:UInt8)]++x_6))
 (wrap i64 (x_5+1)) w'<μ x x_5 w else False else K (string x) w)/\bif ByteArray.toList x == ByteArray.toList (ByteArray.mk #[]) then ∃ x,cell? w' (add (mk g 0 none) 0)=some (int u8
 x)/\CallsV Tryz.prog 61 #[int i64 (wrap i64 x)] w' fun v w'=>∃ (x:ByteArray),v=string x/\ByteArray.size (ByteArray.mk #[(111:UInt8),(112:UInt8)])+ByteArray.size x<=9223372036854775807
 /\ J (ByteArray.mk #[(111:UInt8),(112:UInt8)]++x) w' else J x w'
theorem code_Show.calls (ok:Okay Tryz.prog) {i0 i1 i2 i3 i4 w K} (h:code_Show.W i0 i1 i2 i3 i4 w K):CallsV Tryz.prog 21 #[.agg #[.int .u8 i0,.int .i64 i1,.int .i64 i2,.int .i64 i3,.int .i64 i4]] w K :=
  fnW_calls ok Tryz.func21 (an:=(.named (.seq .auto (.seq .auto (.join [(3,.one .str)] .auto (.seq (.seq .auto (.block (.loop [(3,.one .str),(25,.one (.int .i64))] .auto))) .auto)))))) (args:=[.agg #[.int .u8 i0,.int .i64 i1,.int .i64 i2,.int .i64 i3,.int .i64 i4]]) (Eq.mp (by kernel_rfl) h)
noncomputable def code_Word.W:Int->World->(Value->World->Prop)->Prop:=fun o w K=>CallsV Tryz.prog 56 #[string (ByteArray.mk #[(99:UInt8),(111:UInt8),(110:UInt8),(115:UInt8),(116
 : UInt8),(32:UInt8),(98:UInt8),(105:UInt8),(110:UInt8),(100:UInt8),(32:UInt8),(109:UInt8),(111:UInt8),(118:UInt8),(101:UInt8),(32:UInt8),(116:UInt8),(119:UInt8),
 (111:UInt8),(32:UInt8),(111:UInt8),(110:UInt8),(101:UInt8),(32:UInt8),(105:UInt8),(115:UInt8),(32:UInt8),(99:UInt8),(97:UInt8),(115:UInt8),(116:UInt8),(32 :
 UInt8),(99:UInt8),(97:UInt8),(108:UInt8),(108:UInt8),(32:UInt8),(109:UInt8),(117:UInt8),(115:UInt8),(116:UInt8),(32:UInt8),(106:UInt8),(117:UInt8),(109:UInt8),
 (112:UInt8),(32:UInt8),(105:UInt8),(102:UInt8),(32:UInt8),(100:UInt8),(105:UInt8),(102:UInt8),(102:UInt8),(101:UInt8),(114:UInt8),(32:UInt8),(102:UInt8),(105 :
 UInt8),(114:UInt8),(115:UInt8),(116:UInt8),(32:UInt8),(115:UInt8),(101:UInt8),(101:UInt8),(107:UInt8),(32:UInt8),(110:UInt8),(101:UInt8),(120:UInt8),(116:UInt8),
 (32:UInt8),(112:UInt8),(97:UInt8),(115:UInt8),(116:UInt8),(32:UInt8),(102:UInt8),(105:UInt8),(110:UInt8),(100:UInt8),(32:UInt8),(99:UInt8),(111:UInt8),(108 :
 UInt8),(32:UInt8),(114:UInt8),(111:UInt8),(119:UInt8),(105:UInt8),(100:UInt8),(32:UInt8),(97:UInt8),(100:UInt8),(100:UInt8),(32:UInt8),(115:UInt8),(111:UInt8),
 (114:UInt8),(116:UInt8),(101:UInt8),(100:UInt8),(32:UInt8),(97:UInt8),(102:UInt8),(116:UInt8),(101:UInt8),(114:UInt8),(32:UInt8),(116:UInt8),(97:UInt8),(107 :
 UInt8),(101:UInt8),(32:UInt8),(99:UInt8),(108:UInt8),(101:UInt8),(97:UInt8),(114:UInt8),(32:UInt8),(115:UInt8),(116:UInt8),(101:UInt8),(112:UInt8),(32:UInt8),
 (116:UInt8),(111:UInt8),(116:UInt8),(97:UInt8),(108:UInt8),(32:UInt8),(114:UInt8),(111:UInt8),(119:UInt8),(32:UInt8),(110:UInt8),(101:UInt8),(119:UInt8),(105 :
 UInt8),(100:UInt8),(32:UInt8),(105:UInt8),(110:UInt8),(115:UInt8),(101:UInt8),(114:UInt8),(116:UInt8),(32:UInt8),(100:UInt8),(101:UInt8),(108:UInt8),(101:UInt8),
 (116:UInt8),(101:UInt8),(32:UInt8),(100:UInt8),(101:UInt8),(102:UInt8),(105:UInt8),(110:UInt8),(101:UInt8),(32:UInt8),(98:UInt8),(101:UInt8),(103:UInt8),(105 :
 UInt8),(110:UInt8),(32:UInt8),(99:UInt8),(111:UInt8),(109:UInt8),(109:UInt8),(105:UInt8),(116:UInt8),(32:UInt8),(98:UInt8),(97:UInt8),(99:UInt8),(107:UInt8),(32
 : UInt8),(104:UInt8),(97:UInt8),(108:UInt8),(116:UInt8)]),int i64 (wrap i64 (wrap i64 o-1))] w fun v w'=>∃ (x:ByteArray) (x_1:Bool),v=tuple #[string x,bool x_1]/\K (string x)
 w'
theorem code_Word.calls (ok:Okay Tryz.prog) {o w K} (h:code_Word.W o w K):CallsV Tryz.prog 23 #[.int .u8 o] w K :=
  fnW_calls ok Tryz.func23 (an:=(.named .auto)) (args:=[.int .u8 o]) (Eq.mp (by kernel_rfl) h)
noncomputable def cardindexlaw15_Great.W:Int->Int->Int->Option Addr->Nat->Nat->Option Addr->Nat->Nat->Option Addr->Nat->Nat->Option Addr->Nat->Nat->Option Addr->Nat->Nat->Option
 Addr->Nat->Nat->World->(Value->World->Prop)->Prop:=fun p0 p1 p2 p3_A p3_n p3_c p4_A p4_n p4_c p5_A p5_n p5_c p6_A p6_n p6_c p7_A p7_n p7_c p8_A p8_n p8_c w K=>∀ g w',Fresh w g w' [int i64
 p0,int i64 p1,int i64 p2,slice p3_A p3_n p3_c,slice p4_A p4_n p4_c,slice p5_A p5_n p5_c,slice p6_A p6_n p6_c,slice p7_A p7_n p7_c,slice p8_A p8_n p8_c] 29->∃ x x_1 x_2,cell? w' (add (mk g 0
 none) 8)=some (slice x x_1 x_2)/\bif decide (5000<(x_1:Int)) then K (bool true) w' else ∃ x x_3 x_4,cell? w' (add (mk g 0 none) 3)=some (slice x x_3
 x_4)/\∃ x x_5 x_6,cell? w' (add (mk g 0 none) 5)=some (slice x x_5 x_6)/\∃ x x_7 x_8,cell? w' (add (mk g 0 none) 6)=some (slice x x_7 x_8)/\∃ x x_9 x_10,cell? w'
 (add (mk g 0 none) 7)=some (slice x x_9 x_10)/\bif decide (1100<wrap i64 (wrap i64 (wrap i64 ((x_3:Int)+(x_5:Int))+(x_7:Int))+(x_9:Int))) then K (bool
 true) w' else ∃ x x_11 x_12,cell? w' (add (mk g 0 none) 4)=some (slice x x_11 x_12)/\bif decide (1100<(x_11:Int)) then K (bool true) w' else ∃ x x_13 x_14,
 cell? w' (add (mk g 0 none) 3)=some (slice x x_13 x_14)/\∃ (I:Int->Int->World->Prop) (μ:Int->Int->World->Nat),I 0 0 w'/\∀ x x_15 w,I x x_15 w->bif decide (x_15
 < (x_13:Int)) then ∃ x_16 x_17 x_18,cell? w (add (mk g 0 none) 3)=some (slice x_16 x_17 x_18)/\∃ ad,x_16=some ad/\(0<=x_15/\x_15<(x_17:Int))/\∃ (x_19:ByteArray),
 cell? w (add ad (Int.toNat x_15*1))=some (string x_19)/\I (wrap i64 (x+(↑(ByteArray.size x_19):Int))) (wrap i64 (x_15+1)) w/\μ (wrap i64 (x+(↑(ByteArray.size x_19):Int))) (wrap
 i64 (x_15+1)) w<μ x x_15 w else ∃ x_16 x_17 x_18,cell? w (add (mk g 0 none) 4)=some (slice x_16 x_17 x_18)/\∃ (I:Int->Int->World->Prop) (μ:Int->Int->World->Nat),I x 0 w
 /\ ∀ x x_19 w,I x x_19 w->bif decide (x_19<(x_17:Int)) then ∃ x_20 x_21 x_22,cell? w (add (mk g 0 none) 4)=some (slice x_20 x_21 x_22)/\∃ ad,x_20=some ad/\(0
 <= x_19/\x_19<(x_21:Int))/\∃ (x_23:ByteArray),cell? w (add (add ad (Int.toNat x_19*3)) 2)=some (string x_23)/\I (wrap i64 (x+(↑(ByteArray.size x_23):Int))) (wrap i64 (x_19+1))
 w/\μ (wrap i64 (x+(↑(ByteArray.size x_23):Int))) (wrap i64 (x_19+1)) w<μ x x_19 w else ∃ x_20 x_21 x_22,cell? w (add (mk g 0 none) 5)=some (slice x_20 x_21 x_22)/\∃ (I:Int
 -> Int->World->Prop) (μ:Int->Int->World->Nat),I x 0 w/\∀ x x_23 w,I x x_23 w->bif decide (x_23<(x_21:Int)) then ∃ x_24 x_25 x_26,cell? w (add (mk g 0 none) 5) =
 some (slice x_24 x_25 x_26)/\∃ ad,x_24=some ad/\(0<=x_23/\x_23<(x_25:Int))/\∃ (x_27:ByteArray),cell? w (add (add ad (Int.toNat x_23*3)) 0)=some (string x_27)/\I
 (wrap i64 (x+(↑(ByteArray.size x_27):Int))) (wrap i64 (x_23+1)) w/\μ (wrap i64 (x+(↑(ByteArray.size x_27):Int))) (wrap i64 (x_23+1)) w<μ x x_23 w else ∃ x_24 x_25 x_26,cell? w (add (mk
 g 0 none) 6)=some (slice x_24 x_25 x_26)/\∃ (I:Int->Int->World->Prop) (μ:Int->Int->World->Nat),I x 0 w/\∀ x x_27 w,I x x_27 w->bif decide (x_27<(x_25:Int))
 then ∃ x_28 x_29 x_30,cell? w (add (mk g 0 none) 6)=some (slice x_28 x_29 x_30)/\∃ ad,x_28=some ad/\(0<=x_27/\x_27<(x_29:Int))/\∃ x_31 x_32 x_33,cell? w (add (add
 ad (Int.toNat x_27*3)) 0)=some (slice x_31 x_32 x_33)/\I (wrap i64 (x+(x_32:Int))) (wrap i64 (x_27+1)) w/\μ (wrap i64 (x+(x_32:Int))) (wrap i64 (x_27+1)) w<μ x x_27 w else ∃
 x_28 x_29 x_30,cell? w (add (mk g 0 none) 7)=some (slice x_28 x_29 x_30)/\∃ (I:Int->Int->World->Prop) (μ:Int->Int->World->Nat),I x 0 w/\∀ x x_31 w,I x x_31 w->bif
 decide (x_31<(x_29:Int)) then ∃ x_32 x_33 x_34,cell? w (add (mk g 0 none) 7)=some (slice x_32 x_33 x_34)/\∃ ad,x_32=some ad/\(0<=x_31/\x_31<(x_33:Int))
 /\ ∃ (x_35:ByteArray),cell? w (add (add ad (Int.toNat x_31*2)) 0)=some (string x_35)/\I (wrap i64 (x+(↑(ByteArray.size x_35):Int))) (wrap i64 (x_31+1)) w/\μ (wrap i64 (x +
 (↑(ByteArray.size x_35):Int))) (wrap i64 (x_31+1)) w<μ x x_31 w else K (bool (decide (70000<x))) w
theorem cardindexlaw15_Great.calls (ok:Okay Tryz.prog) {p0 p1 p2 p3_A p3_n p3_c p4_A p4_n p4_c p5_A p5_n p5_c p6_A p6_n p6_c p7_A p7_n p7_c p8_A p8_n p8_c w K} (h:cardindexlaw15_Great.W p0 p1 p2 p3_A p3_n p3_c p4_A p4_n p4_c p5_A p5_n p5_c p6_A p6_n p6_c p7_A p7_n p7_c p8_A p8_n p8_c w K):CallsV Tryz.prog 6 #[.agg #[.int .i64 p0,.int .i64 p1,.int .i64 p2,.slice p3_A p3_n p3_c,.slice p4_A p4_n p4_c,.slice p5_A p5_n p5_c,.slice p6_A p6_n p6_c,.slice p7_A p7_n p7_c,.slice p8_A p8_n p8_c]] w K :=
  fnW_calls ok Tryz.func6 (an:=(.named (.seq .auto (.seq .auto (.seq .auto (.seq (.seq .auto (.block (.loop [(3,.one (.int .i64)),(40,.one (.int .i64))] .auto))) (.seq (.seq .auto (.block (.loop [(3,.one (.int .i64)),(55,.one (.int .i64))] .auto))) (.seq (.seq .auto (.block (.loop [(3,.one (.int .i64)),(71,.one (.int .i64))] .auto))) (.seq (.seq .auto (.block (.loop [(3,.one (.int .i64)),(87,.one (.int .i64))] .auto))) (.seq (.seq .auto (.block (.loop [(3,.one (.int .i64)),(103,.one (.int .i64))] .auto))) .auto)))))))))) (args:=[.agg #[.int .i64 p0,.int .i64 p1,.int .i64 p2,.slice p3_A p3_n p3_c,.slice p4_A p4_n p4_c,.slice p5_A p5_n p5_c,.slice p6_A p6_n p6_c,.slice p7_A p7_n p7_c,.slice p8_A p8_n p8_c]]) (Eq.mp (by kernel_rfl) h)
noncomputable def cardindexlaw15_awake.W:World->(Value->World->Prop)->Prop:=fun w K=>∀ g w',Fresh w g w' [int u8 35,int i64 0,int i64 0,int i64 0,int i64 0] 46->∀ g_1 w'_1,Fresh w' g_1
 w'_1 [int i64 0,int i64 0,int i64 0,slice none 0 0,slice none 0 0,slice none 0 0,slice none 0 0,slice none 0 0,slice none 0 0] 29->stOK (mk g_1 0
 none) 0 [int i64 1,int i64 1,int i64 0,slice none 0 0,slice none 0 0,slice none 0 0,slice none 0 0,slice none 0 0,slice (some (mk g 0
 none)) 1 1] w'_1/\∀ w',w'=setAll (mk g_1 0 none) 0 [int i64 1,int i64 1,int i64 0,slice none 0 0,slice none 0 0,slice none 0 0,slice none 0 0,slice
 none 0 0,slice (some (mk g 0 none)) 1 1] w'_1->∃ (S:World->Prop),S (drew w')/\∃ x,(∀ u,S u->cell? u (add (mk g_1 0 none) 0)=some (int i64 x))/\∃ x_1,(∀
 u,S u->cell? u (add (mk g_1 0 none) 1)=some (int i64 x_1))/\∃ x_2,(∀ u,S u->cell? u (add (mk g_1 0 none) 2)=some (int i64 x_2))/\∃ x_3 x_4 x_5,(∀ u,S u->cell?
 u (add (mk g_1 0 none) 3)=some (slice x_3 x_4 x_5))/\∃ x_6 x_7 x_8,(∀ u,S u->cell? u (add (mk g_1 0 none) 4)=some (slice x_6 x_7 x_8))/\∃ x_9 x_10 x_11,(∀ u,S u ->
 cell? u (add (mk g_1 0 none) 5)=some (slice x_9 x_10 x_11))/\∃ x_12 x_13 x_14,(∀ u,S u->cell? u (add (mk g_1 0 none) 6)=some (slice x_12 x_13 x_14))/\∃ x_15 x_16
 x_17,(∀ u,S u->cell? u (add (mk g_1 0 none) 7)=some (slice x_15 x_16 x_17))/\∃ x_18 x_19 x_20,(∀ u,S u->cell? u (add (mk g_1 0 none) 8)=some (slice x_18 x_19
 x_20))/\∃ x_21,(∀ u,S u->cell? u (add (mk g_1 0 none) 0)=some (int i64 x_21))/\∃ x_22,(∀ u,S u->cell? u (add (mk g_1 0 none) 1)=some (int i64 x_22))/\∃ x_23,(∀
 u,S u->cell? u (add (mk g_1 0 none) 2)=some (int i64 x_23))/\∃ x_24 x_25 x_26,(∀ u,S u->cell? u (add (mk g_1 0 none) 3)=some (slice x_24 x_25 x_26))/\∃ x_27 x_28
 x_29,(∀ u,S u->cell? u (add (mk g_1 0 none) 4)=some (slice x_27 x_28 x_29))/\∃ x_30 x_31 x_32,(∀ u,S u->cell? u (add (mk g_1 0 none) 5)=some (slice x_30 x_31
 x_32))/\∃ x_33 x_34 x_35,(∀ u,S u->cell? u (add (mk g_1 0 none) 6)=some (slice x_33 x_34 x_35))/\∃ x_36 x_37 x_38,(∀ u,S u->cell? u (add (mk g_1 0 none) 7)=some
 (slice x_36 x_37 x_38))/\∃ x_39 x_40 x_41,(∀ u,S u->cell? u (add (mk g_1 0 none) 8)=some (slice x_39 x_40 x_41))/\(∀ g w'_2,Fresh (drew w') g w'_2 [int i64 0,int i64 0,int i64
 0,slice none 0 0,slice none 0 0,slice none 0 0,slice none 0 0,slice none 0 0,slice none 0 0] 29->S w'_2/\∀ g_2 w',Fresh w'_2 g_2 w' [int i64 0,int
 i64 0,int i64 0,slice none 0 0,slice none 0 0,slice none 0 0,slice none 0 0,slice none 0 0,slice none 0 0] 29->S w'/\stOK (mk g 0 none) 0 [int
 i64 x,int i64 x_1,int i64 x_2,slice x_3 x_4 x_5,slice x_6 x_7 x_8,slice x_9 x_10 x_11,slice x_12 x_13 x_14,slice x_15 x_16 x_17,slice x_18 x_19 x_20] w'/\∀ w'_3,w'_3=setAll (mk g 0
 none) 0 [int i64 x,int i64 x_1,int i64 x_2,slice x_3 x_4 x_5,slice x_6 x_7 x_8,slice x_9 x_10 x_11,slice x_12 x_13 x_14,slice x_15 x_16 x_17,slice x_18 x_19 x_20] w'->S w'_3/\stOK (mk
 g_2 0 none) 0 [int i64 x_21,int i64 x_22,int i64 x_23,slice x_24 x_25 x_26,slice x_27 x_28 x_29,slice x_30 x_31 x_32,slice x_33 x_34 x_35,slice x_36 x_37 x_38,slice x_39 x_40 x_41] w'_3
 /\ ∀ w',w'=setAll (mk g_2 0 none) 0 [int i64 x_21,int i64 x_22,int i64 x_23,slice x_24 x_25 x_26,slice x_27 x_28 x_29,slice x_30 x_31 x_32,slice x_33 x_34 x_35,slice x_36 x_37 x_38,
 slice x_39 x_40 x_41] w'_3->∀ g_3 w'_4,Fresh w' g_3 w'_4 [int u8 10,int i64 0,int i64 0,int i64 0,int i64 0,int u8 35,int i64 0,int i64 0,int i64 0,int i64 0] 46->stOK (add (mk g 0
 none) 8) 0 [slice (some (mk g_3 0 none)) 2 2] w'_4/\∀ w',w'=setAll (add (mk g 0 none) 8) 0 [slice (some (mk g_3 0 none)) 2 2] w'_4->∀ g_4 w'_5,Fresh w'
 g_4 w'_5 [int u8 10,int i64 1,int i64 0,int i64 0,int i64 0,int u8 35,int i64 0,int i64 0,int i64 0,int i64 0] 46->stOK (add (mk g_2 0 none) 8) 0 [slice (some (mk g_4 0
 none)) 2 2] w'_5/\∀ w',w'=setAll (add (mk g_2 0 none) 8) 0 [slice (some (mk g_4 0 none)) 2 2] w'_5->CallsV Tryz.prog 21 #[agg #[int u8 4,int i64 2,int i64 0,int i64
 1,int i64 6]] w' fun v w'=>∃ (x:ByteArray),v=string x/\bif ByteArray.toList x == ByteArray.toList (ByteArray.mk #[(116:UInt8),(119:UInt8),(111:UInt8),(32:UInt8),(50:UInt8),(32 :
 UInt8),(48:UInt8),(32:UInt8),(49:UInt8),(32:UInt8),(54:UInt8)]) then ∃ x,cell? w' (add (mk g_1 0 none) 0)=some (int i64 x)/\∃ x_42,cell? w' (add (mk g_1 0 none)
 1)=some (int i64 x_42)/\∃ x_43,cell? w' (add (mk g_1 0 none) 2)=some (int i64 x_43)/\∃ x_44 x_45 x_46,cell? w' (add (mk g_1 0 none) 3)=some (slice x_44 x_45
 x_46)/\∃ x_47 x_48 x_49,cell? w' (add (mk g_1 0 none) 4)=some (slice x_47 x_48 x_49)/\∃ x_50 x_51 x_52,cell? w' (add (mk g_1 0 none) 5)=some (slice x_50 x_51 x_52) /\
 ∃ x_53 x_54 x_55,cell? w' (add (mk g_1 0 none) 6)=some (slice x_53 x_54 x_55)/\∃ x_56 x_57 x_58,cell? w' (add (mk g_1 0 none) 7)=some (slice x_56 x_57 x_58)/\∃ x_59
 x_60 x_61,cell? w' (add (mk g_1 0 none) 8)=some (slice x_59 x_60 x_61)/\CallsV Tryz.prog 12 #[agg #[int i64 x,int i64 x_42,int i64 x_43,slice x_44 x_45 x_46,slice x_47 x_48 x_49,
 slice x_50 x_51 x_52,slice x_53 x_54 x_55,slice x_56 x_57 x_58,slice x_59 x_60 x_61]] w' fun v w'=>∃ x,v=int i64 x/\bif decide (x=0) then ∃ x,cell? w' (add (mk g 0 none) 0)
 = some (int i64 x)/\∃ x_62,cell? w' (add (mk g 0 none) 1)=some (int i64 x_62)/\∃ x_63,cell? w' (add (mk g 0 none) 2)=some (int i64 x_63)/\∃ x_64 x_65 x_66,
 cell? w' (add (mk g 0 none) 3)=some (slice x_64 x_65 x_66)/\∃ x_67 x_68 x_69,cell? w' (add (mk g 0 none) 4)=some (slice x_67 x_68 x_69)/\∃ x_70 x_71 x_72,cell? w'
 (add (mk g 0 none) 5)=some (slice x_70 x_71 x_72)/\∃ x_73 x_74 x_75,cell? w' (add (mk g 0 none) 6)=some (slice x_73 x_74 x_75)/\∃ x_76 x_77 x_78,cell? w' (add (mk g
 0 none) 7)=some (slice x_76 x_77 x_78)/\∃ x_79 x_80 x_81,cell? w' (add (mk g 0 none) 8)=some (slice x_79 x_80 x_81)/\CallsV Tryz.prog 12 #[agg #[int i64 x,int i64
 x_62,int i64 x_63,slice x_64 x_65 x_66,slice x_67 x_68 x_69,slice x_70 x_71 x_72,slice x_73 x_74 x_75,slice x_76 x_77 x_78,slice x_79 x_80 x_81]] w' fun v w'=>∃ x,v=int i64 x/\bif
 decide (x=140) then ∃ x,cell? w' (add (mk g_2 0 none) 0)=some (int i64 x)/\∃ x_82,cell? w' (add (mk g_2 0 none) 1)=some (int i64 x_82)/\∃ x_83,cell? w'
 (add (mk g_2 0 none) 2)=some (int i64 x_83)/\∃ x_84 x_85 x_86,cell? w' (add (mk g_2 0 none) 3)=some (slice x_84 x_85 x_86)/\∃ x_87 x_88 x_89,cell? w' (add (mk g_2 0
 none) 4)=some (slice x_87 x_88 x_89)/\∃ x_90 x_91 x_92,cell? w' (add (mk g_2 0 none) 5)=some (slice x_90 x_91 x_92)/\∃ x_93 x_94 x_95,cell? w' (add (mk g_2 0
 none) 6)=some (slice x_93 x_94 x_95)/\∃ x_96 x_97 x_98,cell? w' (add (mk g_2 0 none) 7)=some (slice x_96 x_97 x_98)/\∃ x_99 x_100 x_101,cell? w' (add (mk g_2 0
 none) 8)=some (slice x_99 x_100 x_101)/\CallsV Tryz.prog 12 #[agg #[int i64 x,int i64 x_82,int i64 x_83,slice x_84 x_85 x_86,slice x_87 x_88 x_89,slice x_90 x_91 x_92,slice x_93
 x_94 x_95,slice x_96 x_97 x_98,slice x_99 x_100 x_101]] w' fun v w'=>∃ x,v=int i64 x/\K (bool (decide (x=0))) w' else K (bool false) w' else K (bool false) w' else K (bool
 false) w')/\∀ g w'_2,Fresh (drew w') g w'_2 [int i64 0,int i64 0,int i64 0,slice none 0 0,slice none 0 0,slice none 0 0,slice none 0 0,slice none 0 0,
 slice none 0 0] 29->S w'_2/\∀ g_2 w',Fresh w'_2 g_2 w' [int i64 0,int i64 0,int i64 0,slice none 0 0,slice none 0 0,slice none 0 0,slice none 0 0,slice
 none 0 0,slice none 0 0] 29->S w'/\stOK (mk g_2 0 none) 0 [int i64 x,int i64 x_1,int i64 x_2,slice x_3 x_4 x_5,slice x_6 x_7 x_8,slice x_9 x_10 x_11,slice x_12 x_13 x_14,
 slice x_15 x_16 x_17,slice x_18 x_19 x_20] w'/\∀ w'_3,w'_3=setAll (mk g_2 0 none) 0 [int i64 x,int i64 x_1,int i64 x_2,slice x_3 x_4 x_5,slice x_6 x_7 x_8,slice x_9 x_10 x_11,slice
 x_12 x_13 x_14,slice x_15 x_16 x_17,slice x_18 x_19 x_20] w'->S w'_3/\stOK (mk g 0 none) 0 [int i64 x_21,int i64 x_22,int i64 x_23,slice x_24 x_25 x_26,slice x_27 x_28 x_29,slice x_30
 x_31 x_32,slice x_33 x_34 x_35,slice x_36 x_37 x_38,slice x_39 x_40 x_41] w'_3/\∀ w',w'=setAll (mk g 0 none) 0 [int i64 x_21,int i64 x_22,int i64 x_23,slice x_24 x_25 x_26,slice x_27
 x_28 x_29,slice x_30 x_31 x_32,slice x_33 x_34 x_35,slice x_36 x_37 x_38,slice x_39 x_40 x_41] w'_3->∀ g_3 w'_4,Fresh w' g_3 w'_4 [int u8 10,int i64 0,int i64 0,int i64 0,int i64 0,int u8
 35,int i64 0,int i64 0,int i64 0,int i64 0] 46->stOK (add (mk g_2 0 none) 8) 0 [slice (some (mk g_3 0 none)) 2 2] w'_4/\∀ w',w'=setAll (add (mk g_2 0 none) 8) 0
 [slice (some (mk g_3 0 none)) 2 2] w'_4->∀ g_4 w'_5,Fresh w' g_4 w'_5 [int u8 10,int i64 1,int i64 0,int i64 0,int i64 0,int u8 35,int i64 0,int i64 0,int i64 0,int i64 0] 46 ->
 stOK (add (mk g 0 none) 8) 0 [slice (some (mk g_4 0 none)) 2 2] w'_5/\∀ w',w'=setAll (add (mk g 0 none) 8) 0 [slice (some (mk g_4 0 none)) 2 2] w'_5 ->
 CallsV Tryz.prog 21 #[agg #[int u8 4,int i64 2,int i64 0,int i64 1,int i64 6]] w' fun v w'=>∃ (x:ByteArray),v=string x/\bif ByteArray.toList x == ByteArray.toList (ByteArray.mk #[(116 :
 UInt8),(119:UInt8),(111:UInt8),(32:UInt8),(50:UInt8),(32:UInt8),(48:UInt8),(32:UInt8),(49:UInt8),(32:UInt8),(54:UInt8)]) then ∃ x,cell? w' (add (mk g_1 0 none) 0)
 = some (int i64 x)/\∃ x_42,cell? w' (add (mk g_1 0 none) 1)=some (int i64 x_42)/\∃ x_43,cell? w' (add (mk g_1 0 none) 2)=some (int i64 x_43)/\∃ x_44 x_45
 x_46,cell? w' (add (mk g_1 0 none) 3)=some (slice x_44 x_45 x_46)/\∃ x_47 x_48 x_49,cell? w' (add (mk g_1 0 none) 4)=some (slice x_47 x_48 x_49)/\∃ x_50 x_51 x_52,
 cell? w' (add (mk g_1 0 none) 5)=some (slice x_50 x_51 x_52)/\∃ x_53 x_54 x_55,cell? w' (add (mk g_1 0 none) 6)=some (slice x_53 x_54 x_55)/\∃ x_56 x_57 x_58,cell?
 w' (add (mk g_1 0 none) 7)=some (slice x_56 x_57 x_58)/\∃ x_59 x_60 x_61,cell? w' (add (mk g_1 0 none) 8)=some (slice x_59 x_60 x_61)/\CallsV Tryz.prog 12 #[agg #[int
 i64 x,int i64 x_42,int i64 x_43,slice x_44 x_45 x_46,slice x_47 x_48 x_49,slice x_50 x_51 x_52,slice x_53 x_54 x_55,slice x_56 x_57 x_58,slice x_59 x_60 x_61]] w' fun v w'=>∃ x,v=int i64 x
 /\ bif decide (x=0) then ∃ x,cell? w' (add (mk g_2 0 none) 0)=some (int i64 x)/\∃ x_62,cell? w' (add (mk g_2 0 none) 1)=some (int i64 x_62)/\∃ x_63,cell?
 w' (add (mk g_2 0 none) 2)=some (int i64 x_63)/\∃ x_64 x_65 x_66,cell? w' (add (mk g_2 0 none) 3)=some (slice x_64 x_65 x_66)/\∃ x_67 x_68 x_69,cell? w' (add (mk g_2
 0 none) 4)=some (slice x_67 x_68 x_69)/\∃ x_70 x_71 x_72,cell? w' (add (mk g_2 0 none) 5)=some (slice x_70 x_71 x_72)/\∃ x_73 x_74 x_75,cell? w' (add (mk g_2 0
 none) 6)=some (slice x_73 x_74 x_75)/\∃ x_76 x_77 x_78,cell? w' (add (mk g_2 0 none) 7)=some (slice x_76 x_77 x_78)/\∃ x_79 x_80 x_81,cell? w' (add (mk g_2 0
 none) 8)=some (slice x_79 x_80 x_81)/\CallsV Tryz.prog 12 #[agg #[int i64 x,int i64 x_62,int i64 x_63,slice x_64 x_65 x_66,slice x_67 x_68 x_69,slice x_70 x_71 x_72,slice x_73
 x_74 x_75,slice x_76 x_77 x_78,slice x_79 x_80 x_81]] w' fun v w'=>∃ x,v=int i64 x/\bif decide (x=140) then ∃ x,cell? w' (add (mk g 0 none) 0)=some (int i64 x)/\∃
 x_82,cell? w' (add (mk g 0 none) 1)=some (int i64 x_82)/\∃ x_83,cell? w' (add (mk g 0 none) 2)=some (int i64 x_83)/\∃ x_84 x_85 x_86,cell? w' (add (mk g 0
 none) 3)=some (slice x_84 x_85 x_86)/\∃ x_87 x_88 x_89,cell? w' (add (mk g 0 none) 4)=some (slice x_87 x_88 x_89)/\∃ x_90 x_91 x_92,cell? w' (add (mk g 0
 none) 5)=some (slice x_90 x_91 x_92)/\∃ x_93 x_94 x_95,cell? w' (add (mk g 0 none) 6)=some (slice x_93 x_94 x_95)/\∃ x_96 x_97 x_98,cell? w' (add (mk g 0
 none) 7)=some (slice x_96 x_97 x_98)/\∃ x_99 x_100 x_101,cell? w' (add (mk g 0 none) 8)=some (slice x_99 x_100 x_101)/\CallsV Tryz.prog 12 #[agg #[int i64 x,int i64
 x_82,int i64 x_83,slice x_84 x_85 x_86,slice x_87 x_88 x_89,slice x_90 x_91 x_92,slice x_93 x_94 x_95,slice x_96 x_97 x_98,slice x_99 x_100 x_101]] w' fun v w'=>∃ x,v=int i64 x/\K (bool
 (decide (x=0))) w' else K (bool false) w' else K (bool false) w' else K (bool false) w'
theorem cardindexlaw15_awake.calls (ok:Okay Tryz.prog)  {w:World} {K:Value->World->Prop} (h:cardindexlaw15_awake.W  w K):CallsV Tryz.prog 7 #[] w K :=
  fnW_calls ok Tryz.func7 (an:=(.named .auto)) (args:=[]) (Eq.mp (by kernel_rfl) h)
noncomputable def cardindexkit_Pick.W:Int->Int->World->(Value->World->Prop)->Prop:=fun x n w K=>bif decide (n<1) then K (int i64 0) w else n≠0/\bif decide (Int.tmod
 x n<0) then K (int i64 (wrap i64 (Int.tmod x n+n))) w else K (int i64 (Int.tmod x n)) w
theorem cardindexkit_Pick.calls (ok:Okay Tryz.prog) {x n w K} (h:cardindexkit_Pick.W x n w K):CallsV Tryz.prog 10 #[.int .i64 x,.int .i64 n] w K :=
  fnW_calls ok Tryz.func10 (an:=(.named .auto)) (args:=[.int .i64 x,.int .i64 n]) (Eq.mp (by kernel_rfl) h)
end Go.Proofs.YtaifphjenebgoaaGreatDoor
set_option linter.unusedVariables false
set_option linter.unusedSimpArgs false
namespace Go.Proofs.YtaifphjenebgoaaGreatDoor
open Go Go.Sx R1 K15
def shapeV (l:List UInt8):Value:=.agg #[.string (bs l)]
theorem look_get (o:Int):∀ l:List (Int×List UInt8),(getM (l.map fun p=>(p.1,shapeV p.2)) o).getD (.agg #[.string (ByteArray.mk #[])])=shapeV (lookS l o)
  | []=>rfl
  | (k,x)::r=>by
    rw [List.map_cons,getM,lookS]
    split
    · rfl
    · exact look_get o r
theorem upd_step {kt et t:TypeId} {d:TypeDesc} {q:IntKind} (F:KeyF Tryz.prog kt d (fun a:Int=>Value.int q a)) (ht:und Tryz.prog t=some (.map kt et)) {w0 w:World} {b:Nat} {l:List (Int×Value)} {a:Int} {v:Value} {Kp:World->Prop}
    (hb:w0.heap.size<=b) (hm:MapK (fun a:Int=>Value.int q a) w b l/\Ext w0 w) (h:∀ w',MapK (fun a:Int=>Value.int q a) w' b (setM l a v)/\Ext w0 w'->Kp w') :
    ∃ w',RunsTo Tryz.prog (Instr.mapUpdate t (.map (some b)) (.int q a) v) w () w'/\Kp w':=by
  obtain ⟨w',hr,hm',hf⟩:=hm.1.update F ht a v
  exact ⟨w',hr,h w' ⟨hm',hm.2.trans hf (fun _ _ h=>h) (fun k hk e=>by omega)⟩⟩
set_option maxRecDepth 10000 in
theorem shape_spec (w:World) (o:Int):CallsV Tryz.prog 46 #[.int .u8 o] w fun r w'=>r=.string (bs (shapeP o))/\Ext w w':=by
  refine code_shape.calls okay ?_
  unfold code_shape.W
  have F:KeyF Tryz.prog 44 (.int .u8) (fun a:Int=>Value.int .u8 a):=keyInt (by kernel_rfl)
  have hT:und Tryz.prog 132=some (.map 44 131):=by kernel_rfl
  refine ⟨_,_,makeMap_run _ _,?_⟩
  have hm:MapK (fun a:Int=>Value.int .u8 a) (w.alloc (.map #[] 0)) w.heap.size []/\Ext w (w.alloc (.map #[] 0)):=⟨MapK.new _ _,Fr.alloc NoB _ _⟩
  generalize w.alloc (.map #[] 0)=w1 at *
  iterate 35 (refine upd_step F hT (Nat.le_refl _) hm ?_;clear hm;intro w1 hm)
  have hl:∀ {x},MapK (fun a:Int=>Value.int .u8 a) w1 w.heap.size x/\Ext w w1->x=shapes.map (fun p=>(p.1,shapeV p.2))->MapK (fun a:Int=>Value.int .u8 a) w1 w.heap.size (shapes.map fun p=>(p.1,shapeV p.2)):=fun h e=>by rw [<- e];exact h.1
  have hM:=hl hm (by kernel_rfl)
  obtain ⟨_,hr⟩:=hM.look F hT o (z:=.agg #[.string (ByteArray.mk #[])]) (fun w=>by kernel_rfl)
  rw [look_get] at hr
  exact ⟨_,_,hr,rfl,hm.2⟩
end Go.Proofs.YtaifphjenebgoaaGreatDoor
set_option linter.unusedVariables false
set_option maxRecDepth 100000
namespace Go.Proofs.YtaifphjenebgoaaGreatDoor
open Go Go.Sx Value IntKind World Addr Builtin
noncomputable def code_field_2.W:Value->Addr->Addr->Addr->World->(Value->World->Prop)->Prop:=fun okx a1 a2 a3 w K=>cellsL okx=[okx]/\∀ g w',Fresh w g w' [okx] 120->K (func (Fn.func
 90) #[] #[pointer (some a1),pointer (some a2),pointer (some (mk g 0 none)),pointer (some a3)]) w'
theorem code_field_2.calls (ok:Okay Tryz.prog) {okx a1 a2 a3 w K} (h:code_field_2.W okx a1 a2 a3 w K):CallsV Tryz.prog 89 #[okx,.pointer (some a1),.pointer (some a2),.pointer (some a3)] w K :=
  fnW_calls ok Tryz.func89 (an:=(.named (.named .auto))) (args:=[okx,.pointer (some a1),.pointer (some a2),.pointer (some a3)]) (Eq.mp (by kernel_rfl) h)
noncomputable def code_field_2_1.W:Addr->Addr->Addr->Addr->World->(Value->World->Prop)->Prop:=fun a0 a1 a2 a3 w K=>∃ (S:World->Prop),S (drew w)/\∃ x,(∀ u,S u->cell? u a0 =
 some x)/\∃ x_1 x_2 x_3,(∀ u,S u->cell? u (add a1 5)=some (slice x_1 x_2 x_3))/\∃ (fid:Nat) (first captured:Array Value),x=func (Fn.func fid) first captured/\bodied
 Tryz.prog fid=true/\CallsV Tryz.prog fid (List.toArray (Array.toList first++([int i64 (x_2:Int)]++Array.toList captured))) (drew w) fun r w'=>∃ x,r=x/\S w'/\∃ (fid:Nat) (first
 captured:Array Value),x=func (Fn.func fid) first captured/\bodied Tryz.prog fid=true/\CallsV Tryz.prog fid (List.toArray (Array.toList first++([]++Array.toList captured))) w' fun r w'
 => ∃ x,r=bool x/\S w'/\bif x then ∃ (S_1:World->Prop),S_1 w'/\∃ x,(∀ u,S_1 u->cell? u a2=some x)/\∃ x_4 x_5 x_6,(∀ u,S_1 u->cell? u (add a1 5)=some (slice x_4 x_5
 x_6))/\∃ x_7,(∀ u,S_1 u->cell? u a3=some (int i64 x_7))/\∃ ad,x_4=some ad/\(0<=x_7/\x_7<(x_5:Int))/\∃ (x_8:ByteArray),(∀ u,S_1 u->cell? u (add (add ad (Int.toNat
 x_7*3)) 0)=some (string x_8))/\∃ x_9,(∀ u,S_1 u->cell? u (add (add ad (Int.toNat x_7*3)) 1)=some (bool x_9))/\∃ x_10,(∀ u,S_1 u->cell? u (add (add ad (Int.toNat x_7*3))
 2)=some (bool x_10))/\∃ (fid:Nat) (first captured:Array Value),x=func (Fn.func fid) first captured/\bodied Tryz.prog fid=true/\CallsV Tryz.prog fid (List.toArray (Array.toList
 first++([agg #[string x_8,bool x_9,bool x_10]]++Array.toList captured))) w' fun r w'=>∃ x,r=bool x/\S_1 w'/\S w'/\K (bool x) w' else K (bool false) w'
theorem code_field_2_1.calls (ok:Okay Tryz.prog) {a0 a1 a2 a3 w K} (h:code_field_2_1.W a0 a1 a2 a3 w K):CallsV Tryz.prog 90 #[.pointer (some a0),.pointer (some a1),.pointer (some a2),.pointer (some a3)] w K :=
  fnW_calls ok Tryz.func90 (an:=(.named (.named .auto))) (args:=[.pointer (some a0),.pointer (some a1),.pointer (some a2),.pointer (some a3)]) (Eq.mp (by kernel_rfl) h)
noncomputable def code_field_10.W:Addr->Addr->Addr->World->(Value->World->Prop)->Prop:=fun a0 a1 a2 w K=>∃ x,cell? w a0=some x/\∃ x_1 x_2 x_3,cell? w (add a1 4)=some
 (slice x_1 x_2 x_3)/\∃ (fid:Nat) (first captured:Array Value),x=func (Fn.func fid) first captured/\bodied Tryz.prog fid=true/\CallsV Tryz.prog fid (List.toArray (Array.toList first ++
 ([int i64 (x_2:Int)]++Array.toList captured))) w fun r w'=>∃ x,r=x/\∃ (fid:Nat) (first captured:Array Value),x=func (Fn.func fid) first captured/\bodied Tryz.prog fid=true /\
 CallsV Tryz.prog fid (List.toArray (Array.toList first++([]++Array.toList captured))) w' fun r w'=>∃ x,r=bool x/\bif x then ∃ x x_4 x_5,cell? w' (add a1 4)=some (slice x x_4 x_5) /\
 ∃ x_6,cell? w' a2=some (int i64 x_6)/\∃ ad,x=some ad/\(0<=x_6/\x_6<(x_4:Int))/\∃ x,cell? w' (add (add ad (Int.toNat x_6*3)) 0)=some (int u8 x)/\K (bool
 (decide (x=2))) w' else K (bool false) w'
theorem code_field_10.calls (ok:Okay Tryz.prog) {a0 a1 a2 w K} (h:code_field_10.W a0 a1 a2 w K):CallsV Tryz.prog 98 #[.pointer (some a0),.pointer (some a1),.pointer (some a2)] w K :=
  fnW_calls ok Tryz.func98 (an:=(.named (.named .auto))) (args:=[.pointer (some a0),.pointer (some a1),.pointer (some a2)]) (Eq.mp (by kernel_rfl) h)
noncomputable def code_field.W:Int->Int->Int->Option Addr->Nat->Nat->Option Addr->Nat->Nat->Option Addr->Nat->Nat->Option Addr->Nat->Nat->Option Addr->Nat->Nat->Option Addr->Nat ->
 Nat->Int->Int->Int->World->(Value->World->Prop)->Prop:=fun p0 p1 p2 p3_A p3_n p3_c p4_A p4_n p4_c p5_A p5_n p5_c p6_A p6_n p6_c p7_A p7_n p7_c p8_A p8_n p8_c atx letter n w K=>∀ g w',Fresh
 w g w' [int i64 p0,int i64 p1,int i64 p2,slice p3_A p3_n p3_c,slice p4_A p4_n p4_c,slice p5_A p5_n p5_c,slice p6_A p6_n p6_c,slice p7_A p7_n p7_c,slice p8_A p8_n p8_c] 29->∀ g_1 w'_1,Fresh w'
 g_1 w'_1 [int i64 atx] 3->∀ g_2 w',Fresh w'_1 g_2 w' [int i64 n] 3->∀ g_3 w'_2,Fresh w' g_3 w'_2 [nilFunc] 133->cellsL (func (Fn.func 87) #[] #[pointer (some (mk g_2 0 none))]) =
 [func (Fn.func 87) #[] #[pointer (some (mk g_2 0 none))]]/\oneCell' (func (Fn.func 87) #[] #[pointer (some (mk g_2 0 none))])=true/\stOK (mk g_3 0 none) 0
 [func (Fn.func 87) #[] #[pointer (some (mk g_2 0 none))]] w'_2/\∀ w',w'=setAll (mk g_3 0 none) 0 [func (Fn.func 87) #[] #[pointer (some (mk g_2 0 none))]] w'_2 ->
 ∃ (S:World->Prop),S (drew w')/\∃ x,(∀ u,S u->cell? u (mk g_3 0 none)=some x)/\∃ x_1,(∀ u,S u->cell? u (add (mk g 0 none) 1)=some (int i64 x_1))/\∃ x_2,(∀
 u,S u->cell? u (mk g_3 0 none)=some x_2)/\∃ x_3 x_4 x_5,(∀ u,S u->cell? u (add (mk g 0 none) 4)=some (slice x_3 x_4 x_5))/\∃ x_6,(∀ u,S u->cell? u (mk g_3 0
 none)=some x_6)/\∃ x_7,(∀ u,S u->cell? u (add (mk g 0 none) 2)=some (int i64 x_7))/\∃ x_8,(∀ u,S u->cell? u (mk g_3 0 none)=some x_8)/\∃ x_9
 x_10 x_11,(∀ u,S u->cell? u (add (mk g 0 none) 6)=some (slice x_9 x_10 x_11))/\∃ x_12,(∀ u,S u->cell? u (mk g_3 0 none)=some x_12)/\∃ x_13 x_14 x_15,(∀ u,S u ->
 cell? u (add (mk g 0 none) 7)=some (slice x_13 x_14 x_15))/\∃ x_16,(∀ u,S u->cell? u (mk g_3 0 none)=some x_16)/\∃ x_17 x_18 x_19,(∀ u,S u->cell? u (add (mk g 0
 none) 5)=some (slice x_17 x_18 x_19))/\∃ x_20,(∀ u,S u->cell? u (mk g_3 0 none)=some x_20)/\∃ x_21,(∀ u,S u->cell? u (mk g_3 0 none)=some x_21) /\
 ∃ x_22,(∀ u,S u->cell? u (mk g_3 0 none)=some x_22)/\∃ x_23,(∀ u,S u->cell? u (mk g_3 0 none)=some x_23)/\∃ (G:(Nat->Bool)->(Nat->Value)->World->Prop),(∀
 (ν:Nat->Value),G (fun x=>false) ν (drew w'))/\(∀ (D:Nat->Bool) (ν:Nat->Value) w,G D ν w->S w)/\((∀ (D:Nat->Bool) (ν:Nat->Value) w,G D ν w->D 0=false->∃ (x:Option
 Nat) (w':World),RunsTo Tryz.prog (Instr.makeMap 135 none) w (map x) w'/\G (setD D 0) (setNuV ν (some 14) (map x)) w')/\(∀ (D:Nat->Bool) (ν:Nat->Value) w,G D ν w->D 2 =
 false->D 0=true->∃ (x:Option Nat),ν 14=map x/\∃ w',RunsTo Tryz.prog (Instr.mapUpdate 135 (map x) (int u8 45) (func (Fn.func 91) #[] #[pointer (some (mk g_2 0
 none))])) w () w'/\G (setD D 2) (setNuV ν none undef) w')/\(∀ (D:Nat->Bool) (ν:Nat->Value) w,G D ν w->D 6=false->∃ (fid:Nat) (first captured:Array Value),x=func
 (Fn.func fid) first captured/\bodied Tryz.prog fid=true/\CallsV Tryz.prog fid (List.toArray (Array.toList first++([int i64 x_1]++Array.toList captured))) w fun r w'=>∃ x,r=x/\G (setD
 D 6) (setNuV ν (some 19) x) w')/\(∀ (D:Nat->Bool) (ν:Nat->Value) w,G D ν w->D 7=false->D 0=true->D 6=true->∃ (x:Option Nat),ν 14=map x/\∃ w',RunsTo
 Tryz.prog (Instr.mapUpdate 135 (map x) (int u8 114) (ν 19)) w () w'/\G (setD D 7) (setNuV ν none undef) w')/\(∀ (D:Nat->Bool) (ν:Nat->Value) w,G D ν w->D 12=false->D 6 =
 true->∃ (fid:Nat) (first captured:Array Value),x_2=func (Fn.func fid) first captured/\bodied Tryz.prog fid=true/\CallsV Tryz.prog fid (List.toArray (Array.toList first++([int
 i64 (x_4:Int)]++Array.toList captured))) w fun r w'=>∃ x,r=x/\G (setD D 12) (setNuV ν (some 24) x) w')/\(∀ (D:Nat->Bool) (ν:Nat->Value) w,G D ν w->D 13=false->D 0 =
 true->D 12=true->∃ (x:Option Nat),ν 14=map x/\∃ w',RunsTo Tryz.prog (Instr.mapUpdate 135 (map x) (int u8 107) (ν 24)) w () w'/\G (setD D 13) (setNuV ν none undef) w')/\(∀
 (D:Nat->Bool) (ν:Nat->Value) w,G D ν w->D 17=false->D 12=true->∃ (fid:Nat) (first captured:Array Value),x_6=func (Fn.func fid) first captured/\bodied Tryz.prog fid =
 true/\CallsV Tryz.prog fid (List.toArray (Array.toList first++([int i64 x_7]++Array.toList captured))) w fun r w'=>∃ x,r=x/\G (setD D 17) (setNuV ν (some 28) x) w')/\(∀ (D:Nat
 -> Bool) (ν:Nat->Value) w,G D ν w->D 18=false->D 0=true->D 17=true->∃ (x:Option Nat),ν 14=map x/\∃ w',RunsTo Tryz.prog (Instr.mapUpdate 135 (map x) (int u8 98) (ν
 28)) w () w'/\G (setD D 18) (setNuV ν none undef) w')/\(∀ (D:Nat->Bool) (ν:Nat->Value) w,G D ν w->D 23=false->D 17=true->∃ (fid:Nat) (first captured:Array Value),
 x_8=func (Fn.func fid) first captured/\bodied Tryz.prog fid=true/\CallsV Tryz.prog fid (List.toArray (Array.toList first++([int i64 (x_10:Int)]++Array.toList captured))) w fun r w' =>
 ∃ x,r=x/\G (setD D 23) (setNuV ν (some 33) x) w')/\(∀ (D:Nat->Bool) (ν:Nat->Value) w,G D ν w->D 24=false->D 0=true->D 23=true->∃ (x:Option Nat),ν 14=map
 x/\∃ w',RunsTo Tryz.prog (Instr.mapUpdate 135 (map x) (int u8 115) (ν 33)) w () w'/\G (setD D 24) (setNuV ν none undef) w')/\(∀ (D:Nat->Bool) (ν:Nat->Value) w,G D ν w->D 29 =
 false->D 23=true->∃ (fid:Nat) (first captured:Array Value),x_12=func (Fn.func fid) first captured/\bodied Tryz.prog fid=true/\CallsV Tryz.prog fid (List.toArray
 (Array.toList first++([int i64 (x_14:Int)]++Array.toList captured))) w fun r w'=>∃ x,r=x/\G (setD D 29) (setNuV ν (some 38) x) w')/\(∀ (D:Nat->Bool) (ν:Nat->Value) w,G D ν w
 -> D 30=false->D 0=true->D 29=true->∃ (x:Option Nat),ν 14=map x/\∃ w',RunsTo Tryz.prog (Instr.mapUpdate 135 (map x) (int u8 116) (ν 38)) w () w'/\G (setD D 30) (setNuV ν
 none undef) w')/\(∀ (D:Nat->Bool) (ν:Nat->Value) w,G D ν w->D 35=false->D 29=true->∃ (fid:Nat) (first captured:Array Value),x_16=func (Fn.func fid) first captured
 /\ bodied Tryz.prog fid=true/\CallsV Tryz.prog fid (List.toArray (Array.toList first++([int i64 (x_18:Int)]++Array.toList captured))) w fun r w'=>∃ x,r=x/\G (setD D 35) (setNuV ν
 (some 43) x) w')/\(∀ (D:Nat->Bool) (ν:Nat->Value) w,G D ν w->D 36=false->D 0=true->D 35=true->∃ (x:Option Nat),ν 14=map x/\∃ w',RunsTo Tryz.prog
 (Instr.mapUpdate 135 (map x) (int u8 99) (ν 43)) w () w'/\G (setD D 36) (setNuV ν none undef) w')/\(∀ (D:Nat->Bool) (ν:Nat->Value) w,G D ν w->D 38=false->D 35=true->∃
 (fid:Nat) (first captured:Array Value),x_20=func (Fn.func fid) first captured/\bodied Tryz.prog fid=true/\CallsV Tryz.prog fid (List.toArray (Array.toList first++([int i64 15] ++
 Array.toList captured))) w fun r w'=>∃ x,r=x/\G (setD D 38) (setNuV ν (some 45) x) w')/\(∀ (D:Nat->Bool) (ν:Nat->Value) w,G D ν w->D 39=false->D 0=true->D 38 =
 true->∃ (x:Option Nat),ν 14=map x/\∃ w',RunsTo Tryz.prog (Instr.mapUpdate 135 (map x) (int u8 50) (ν 45)) w () w'/\G (setD D 39) (setNuV ν none undef) w')/\(∀ (D:Nat->Bool) (ν
 : Nat->Value) w,G D ν w->D 41=false->D 38=true->∃ (fid:Nat) (first captured:Array Value),x_21=func (Fn.func fid) first captured/\bodied Tryz.prog fid=true/\CallsV
 Tryz.prog fid (List.toArray (Array.toList first++([int i64 2]++Array.toList captured))) w fun r w'=>∃ x,r=x/\G (setD D 41) (setNuV ν (some 47) x) w')/\(∀ (D:Nat->Bool) (ν:Nat ->
 Value) w,G D ν w->D 42=false->D 0=true->D 41=true->∃ (x:Option Nat),ν 14=map x/\∃ w',RunsTo Tryz.prog (Instr.mapUpdate 135 (map x) (int u8 49) (ν 47)) w () w'/\G (setD
 D 42) (setNuV ν none undef) w')/\(∀ (D:Nat->Bool) (ν:Nat->Value) w,G D ν w->D 44=false->D 41=true->∃ (fid:Nat) (first captured:Array Value),x_22=func (Fn.func
 fid) first captured/\bodied Tryz.prog fid=true/\CallsV Tryz.prog fid (List.toArray (Array.toList first++([int i64 10]++Array.toList captured))) w fun r w'=>∃ x,r=x/\G (setD D 44)
 (setNuV ν (some 49) x) w')/\(∀ (D:Nat->Bool) (ν:Nat->Value) w,G D ν w->D 45=false->D 0=true->D 44=true->∃ (x:Option Nat),ν 14=map x/\∃ w',RunsTo Tryz.prog
 (Instr.mapUpdate 135 (map x) (int u8 102) (ν 49)) w () w'/\G (setD D 45) (setNuV ν none undef) w')/\(∀ (D:Nat->Bool) (ν:Nat->Value) w,G D ν w->D 47=false->D 44=true->∃
 (fid:Nat) (first captured:Array Value),x_23=func (Fn.func fid) first captured/\bodied Tryz.prog fid=true/\CallsV Tryz.prog fid (List.toArray (Array.toList first++([int i64 60] ++
 Array.toList captured))) w fun r w'=>∃ x,r=x/\G (setD D 47) (setNuV ν (some 51) x) w')/\(∀ (D:Nat->Bool) (ν:Nat->Value) w,G D ν w->D 48=false->D 0=true->D 47 =
 true->∃ (x:Option Nat),ν 14=map x/\∃ w',RunsTo Tryz.prog (Instr.mapUpdate 135 (map x) (int u8 120) (ν 51)) w () w'/\G (setD D 48) (setNuV ν none undef) w')/\(∀ (D:Nat->Bool) (ν
 : Nat->Value) w,G D ν w->D 50=false->D 0=true->∃ (x:Option Nat),ν 14=map x/\∃ w',RunsTo Tryz.prog (Instr.mapUpdate 135 (map x) (int u8 106) (func (Fn.func 92) #[] #[pointer
 (some (mk g_2 0 none)),pointer (some (mk g_1 0 none)),pointer (some (mk g 0 none))])) w () w'/\G (setD D 50) (setNuV ν none undef) w')/\(∀ (D:Nat
 -> Bool) (ν:Nat->Value) w,G D ν w->D 52=false->D 0=true->∃ (x:Option Nat),ν 14=map x/\∃ w',RunsTo Tryz.prog (Instr.mapUpdate 135 (map x) (int u8 110) (func (Fn.func 93) #[]
 #[pointer (some (mk g_2 0 none)),pointer (some (mk g_1 0 none))])) w () w'/\G (setD D 52) (setNuV ν none undef) w')/\(∀ (D:Nat->Bool) (ν:Nat->Value) w,G D ν
 w->D 54=false->D 0=true->∃ (x:Option Nat),ν 14=map x/\∃ w',RunsTo Tryz.prog (Instr.mapUpdate 135 (map x) (int u8 109) (func (Fn.func 94) #[] #[pointer (some (mk g_2 0
 none)),pointer (some (mk g 0 none))])) w () w'/\G (setD D 54) (setNuV ν none undef) w')/\(∀ (D:Nat->Bool) (ν:Nat->Value) w,G D ν w->D 56=false->D 47 =
 true->∃ (fid:Nat) (first captured:Array Value),func (Fn.func 89) #[] #[pointer (some (mk g_3 0 none)),pointer (some (mk g 0 none)),pointer (some (mk g_2
 0 none))]=func (Fn.func fid) first captured/\bodied Tryz.prog fid=true/\CallsV Tryz.prog fid (List.toArray (Array.toList first++([func (Fn.func 95) #[] #[]]++Array.toList
 captured))) w fun r w'=>∃ x,r=x/\G (setD D 56) (setNuV ν (some 56) x) w')/\(∀ (D:Nat->Bool) (ν:Nat->Value) w,G D ν w->D 57=false->D 0=true->D 56=true->∃ (x
 : Option Nat),ν 14=map x/\∃ w',RunsTo Tryz.prog (Instr.mapUpdate 135 (map x) (int u8 105) (ν 56)) w () w'/\G (setD D 57) (setNuV ν none undef) w')/\(∀ (D:Nat->Bool) (ν:Nat->Value)
 w,G D ν w->D 59=false->D 56=true->∃ (fid:Nat) (first captured:Array Value),func (Fn.func 89) #[] #[pointer (some (mk g_3 0 none)),pointer (some (mk g 0
 none)),pointer (some (mk g_2 0 none))]=func (Fn.func fid) first captured/\bodied Tryz.prog fid=true/\CallsV Tryz.prog fid (List.toArray (Array.toList first++([func
 (Fn.func 96) #[] #[]]++Array.toList captured))) w fun r w'=>∃ x,r=x/\G (setD D 59) (setNuV ν (some 58) x) w')/\(∀ (D:Nat->Bool) (ν:Nat->Value) w,G D ν w->D 60=false->D 0
 = true->D 59=true->∃ (x:Option Nat),ν 14=map x/\∃ w',RunsTo Tryz.prog (Instr.mapUpdate 135 (map x) (int u8 108) (ν 58)) w () w'/\G (setD D 60) (setNuV ν none undef) w') /\
 (∀ (D:Nat->Bool) (ν:Nat->Value) w,G D ν w->D 62=false->D 59=true->∃ (fid:Nat) (first captured:Array Value),func (Fn.func 89) #[] #[pointer (some (mk g_3 0
 none)),pointer (some (mk g 0 none)),pointer (some (mk g_2 0 none))]=func (Fn.func fid) first captured/\bodied Tryz.prog fid=true/\CallsV Tryz.prog fid
 (List.toArray (Array.toList first++([func (Fn.func 97) #[] #[]]++Array.toList captured))) w fun r w'=>∃ x,r=x/\G (setD D 62) (setNuV ν (some 60) x) w')/\(∀ (D:Nat->Bool) (ν:Nat ->
 Value) w,G D ν w->D 63=false->D 0=true->D 62=true->∃ (x:Option Nat),ν 14=map x/\∃ w',RunsTo Tryz.prog (Instr.mapUpdate 135 (map x) (int u8 119) (ν 60)) w () w'/\G
 (setD D 63) (setNuV ν none undef) w')/\∀ (D:Nat->Bool) (ν:Nat->Value) w,G D ν w->D 65=false->D 0=true->∃ (x:Option Nat),ν 14=map x/\∃ w',RunsTo Tryz.prog
 (Instr.mapUpdate 135 (map x) (int u8 113) (func (Fn.func 98) #[] #[pointer (some (mk g_3 0 none)),pointer (some (mk g 0 none)),pointer (some (mk g_2 0
 none))])) w () w'/\G (setD D 65) (setNuV ν none undef) w')/\∀ (D:Nat->Bool) (ν:Nat->Value) w,D 0=true->D 2=true->D 6=true->D 7=true->D 12 =
 true->D 13=true->D 17=true->D 18=true->D 23=true->D 24=true->D 29=true->D 30=true->D 35=true->D 36=true->D 38=true ->
 D 39=true->D 41=true->D 42=true->D 44=true->D 45=true->D 47=true->D 48=true->D 50=true->D 52=true->D 54=true->D 56 =
 true->D 57=true->D 59=true->D 60=true->D 62=true->D 63=true->D 65=true->G D ν w->∃ (x:Option Nat),ν 14=map x/\∃ x_24 w',RunsTo Tryz.prog
 (Instr.lookup 135 (map x) (int u8 letter) false) w x_24 w'/\∃ (fid:Nat) (first captured:Array Value),x_24=func (Fn.func fid) first captured/\bodied Tryz.prog fid=true/\CallsV
 Tryz.prog fid (List.toArray (Array.toList first++([]++Array.toList captured))) w' fun r w'=>∃ x,r=bool x/\K (bool x) w'
theorem code_field.calls (ok:Okay Tryz.prog) {p0 p1 p2 p3_A p3_n p3_c p4_A p4_n p4_c p5_A p5_n p5_c p6_A p6_n p6_c p7_A p7_n p7_c p8_A p8_n p8_c atx letter n w K} (h:code_field.W p0 p1 p2 p3_A p3_n p3_c p4_A p4_n p4_c p5_A p5_n p5_c p6_A p6_n p6_c p7_A p7_n p7_c p8_A p8_n p8_c atx letter n w K):CallsV Tryz.prog 47 #[.agg #[.int .i64 p0,.int .i64 p1,.int .i64 p2,.slice p3_A p3_n p3_c,.slice p4_A p4_n p4_c,.slice p5_A p5_n p5_c,.slice p6_A p6_n p6_c,.slice p7_A p7_n p7_c,.slice p8_A p8_n p8_c],.int .i64 atx,.int .u8 letter,.int .i64 n] w K :=
  fnW_calls ok Tryz.func47 (an:=(.named (.named (.seq .auto (.seq .auto (.seq .auto (.seq (.loop [(14,.one .map)] .auto) .auto))))))) (args:=[.agg #[.int .i64 p0,.int .i64 p1,.int .i64 p2,.slice p3_A p3_n p3_c,.slice p4_A p4_n p4_c,.slice p5_A p5_n p5_c,.slice p6_A p6_n p6_c,.slice p7_A p7_n p7_c,.slice p8_A p8_n p8_c],.int .i64 atx,.int .u8 letter,.int .i64 n]) (Eq.mp (by kernel_rfl) h)
end Go.Proofs.YtaifphjenebgoaaGreatDoor
set_option linter.unusedVariables false
set_option linter.unusedSimpArgs false
namespace Go.Proofs.YtaifphjenebgoaaGreatDoor
open Go Go.Sx R1 K15
structure PAd where
  nA:Option Addr
  nc:Nat
  cA:Option Addr
  cc:Nat
  uA:Option Addr
  uc:Nat
  sA:Option Addr
  sc:Nat
  tA:Option Addr
  tc:Nat
  dA:Option Addr
  dc:Nat
abbrev pcs (p:Prog) (a:PAd):List Value:=[.int .i64 p.ver,.int .i64 p.regs,.int .i64 p.binds,.slice a.nA p.names.length a.nc,.slice a.cA p.consts.length a.cc,.slice a.uA p.curs.length a.uc,.slice a.sA p.sorts.length a.sc,.slice a.tA p.tots.length a.tc,.slice a.dA p.code.length a.dc]
abbrev pagg (p:Prog) (a:PAd):Value:=.agg #[.int .i64 p.ver,.int .i64 p.regs,.int .i64 p.binds,.slice a.nA p.names.length a.nc,.slice a.cA p.consts.length a.cc,.slice a.uA p.curs.length a.uc,.slice a.sA p.sorts.length a.sc,.slice a.tA p.tots.length a.tc,.slice a.dA p.code.length a.dc]
structure PIm (w:World) (p:Prog) (a:PAd):Prop where
  names:Imm Kd.str NoB w a.nA p.names
  consts:Imm KV NoB w a.cA p.consts
  curs:Imm KCur NoB w a.uA p.curs
  sorts:Imm KSrt NoB w a.sA p.sorts
  tots:Imm KTot NoB w a.tA p.tots
  code:Imm KIns NoB w a.dA p.code
  l1:p.names.length<=maxLen
  l2:p.consts.length<=maxLen
  l3:p.curs.length<=maxLen
  l4:p.sorts.length<=maxLen
  l5:p.tots.length<=maxLen
  l6:p.code.length<=maxLen
  c6:p.code.length<=a.dc
theorem PIm.ext {w w':World} {p:Prog} {a:PAd} (h:PIm w p a) (e:Ext w w'):PIm w' p a :=
  ⟨h.names.ext KStr_pos e,h.consts.ext KV_pos e,h.curs.ext KCur_pos e,h.sorts.ext KSrt_pos e,h.tots.ext KTot_pos e,h.code.ext KIns_pos e,h.l1,h.l2,h.l3,h.l4,h.l5,h.l6,h.c6⟩
set_option maxRecDepth 10000 in
theorem parts_spec {w:World} {p:Prog} {a:PAd} (h:PIm w p a):CallsV Tryz.prog 45 #[pagg p a] w fun r w'=>r=.bool (partsP p)/\Ext w w':=by
  refine code_parts.calls okay ?_
  unfold code_parts.W
  intro g w1 f1
  intro g1 w2 f2
  refine ⟨rfl,rfl,f2.blk.stOK [_] 0 (by simp),?_⟩
  intro w3 hw3
  have b3:Blk w3 g1 [.func (.func 74) #[] #[]]:=by rw [hw3];exact Blk.setAll (o:=0) [_] 0 f2.blk
  have e3:Ext w w3:=by rw [hw3];exact Ext.setAll (f1.ext.trans' f2.ext) (Nat.le_trans f1.ext.size f2.ge) _ _
  have bp:Blk w3 g (pcs p a):=by
    rw [hw3]
    exact ((f1.blk.ext f2.ext).keep (Fr.setAll (g:=g1) (o:=0) _ 0 w2) (fun e=>by have:=f2.ge;have:=f1.blk.lt;omega))
  clear hw3
  have fin:∀ (b:Bool) (u:World),b=partsP p->Ext w3 u->(Value.bool b=.bool (partsP p)/\Ext w u):=fun b u hb e=>⟨by rw [hb],e3.trans' e⟩
  refine ⟨_,b3.cell0 rfl,_,bp.cell rfl,_,_,_,rfl,by kernel_rfl,?_⟩
  refine (within_spec w3 p.ver 1 1099511627776).mono ?_
  rintro _ u ⟨rfl,hu⟩
  obtain rfl:w3=u:=hu.symm
  refine ⟨_,rfl,cbool (fun h0=>?_) (fun h0=>fin _ _ (by simp [partsP,h0]) (.refl _ _))⟩
  refine ⟨_,b3.cell0 rfl,_,bp.cell rfl,_,_,_,rfl,by kernel_rfl,?_⟩
  refine (within_spec w3 p.regs 1 250).mono ?_
  rintro _ u ⟨rfl,hu⟩
  obtain rfl:w3=u:=hu.symm
  refine ⟨_,rfl,cbool (fun h1=>?_) (fun h1=>fin _ _ (by simp [partsP,h0,h1]) (.refl _ _))⟩
  refine ⟨_,b3.cell0 rfl,_,bp.cell rfl,_,_,_,rfl,by kernel_rfl,?_⟩
  refine (within_spec w3 p.binds 0 1000).mono ?_
  rintro _ u ⟨rfl,hu⟩
  obtain rfl:w3=u:=hu.symm
  refine ⟨_,rfl,cbool (fun h2=>?_) (fun h2=>fin _ _ (by simp [partsP,h0,h1,h2]) (.refl _ _))⟩
  refine ⟨_,_,_,bp.cell rfl,brd (fun h3=>?_) (fun h3=>fin _ _ (by simp [partsP,h0,h1,h2,show ¬ p.names.length<=200 by omega]) (.refl _ _))⟩
  have h3:p.names.length<=200:=by omega
  refine ⟨_,_,_,bp.cell rfl,brd (fun h4=>?_) (fun h4=>fin _ _ (by simp [partsP,h0,h1,h2,h3,show ¬ p.consts.length<=1000 by omega]) (.refl _ _))⟩
  have h4:p.consts.length<=1000:=by omega
  refine ⟨_,_,_,bp.cell rfl,brd (fun h5=>?_) (fun h5=>fin _ _ (by simp [partsP,h0,h1,h2,h3,h4,show ¬ p.curs.length<=12 by omega]) (.refl _ _))⟩
  have h5:p.curs.length<=12:=by omega
  refine ⟨_,_,_,bp.cell rfl,brd (fun h6=>?_) (fun h6=>fin _ _ (by simp [partsP,h0,h1,h2,h3,h4,h5,show ¬ p.sorts.length<=6 by omega]) (.refl _ _))⟩
  have h6:p.sorts.length<=6:=by omega
  refine ⟨_,_,_,bp.cell rfl,brd (fun h7=>?_) (fun h7=>fin _ _ (by simp [partsP,h0,h1,h2,h3,h4,h5,h6,show ¬ p.tots.length<=60 by omega]) (.refl _ _))⟩
  have h7:p.tots.length<=60:=by omega
  have e30:Ext w3 w3:=.refl _ _
  refine ⟨_,_,_,(bp.ext e30).cell rfl,?_⟩
  refine (contains_string rfl (h.ext (e3.trans' e30)).names h.l1 (tests1 w3)).mono ?_
  rintro _ v1 ⟨rfl,q1⟩
  have e31:=e30.trans' q1
  refine ⟨_,rfl,brnb (fun k0=>?_) (fun k0=>fin _ _ (by simp only [partsP,k0];simp [h0,h1,h2,h3,h4,h5,h6,h7]) e31)⟩
  refine ⟨_,_,_,(bp.ext e31).cell rfl,?_⟩
  refine (contains_api_Value rfl (h.ext (e3.trans' e31)).consts h.l2 (tests2 v1)).mono ?_
  rintro _ v2 ⟨rfl,q2⟩
  have e32:=e31.trans' q2
  refine ⟨_,rfl,brnb (fun k1=>?_) (fun k1=>fin _ _ (by simp only [partsP,k1];simp [h0,h1,h2,h3,h4,h5,h6,h7,k0]) e32)⟩
  refine ⟨_,_,_,(bp.ext e32).cell rfl,?_⟩
  refine (contains_api_Cur rfl (h.ext (e3.trans' e32)).curs h.l3 (tests3 v2)).mono ?_
  rintro _ v3 ⟨rfl,q3⟩
  have e33:=e32.trans' q3
  refine ⟨_,rfl,brnb (fun k2=>?_) (fun k2=>fin _ _ (by simp only [partsP,k2];simp [h0,h1,h2,h3,h4,h5,h6,h7,k0,k1]) e33)⟩
  refine ⟨_,_,_,(bp.ext e33).cell rfl,?_⟩
  refine (contains_api_Sort rfl (h.ext (e3.trans' e33)).sorts h.l4 (tests4 (b3.ext e33))).mono ?_
  rintro _ v4 ⟨rfl,q4⟩
  have e34:=e33.trans' q4
  refine ⟨_,rfl,brnb (fun k3=>?_) (fun k3=>fin _ _ (by simp only [partsP,k3];simp [h0,h1,h2,h3,h4,h5,h6,h7,k0,k1,k2]) e34)⟩
  refine ⟨_,_,_,(bp.ext e34).cell rfl,?_⟩
  refine (contains_api_Acc rfl (h.ext (e3.trans' e34)).tots h.l5 (tests5 v4)).mono ?_
  rintro _ v5 ⟨rfl,q5⟩
  have e35:=e34.trans' q5
  exact ⟨_,rfl,fin _ _ (by simp [partsP,h0,h1,h2,h3,h4,h5,h6,h7,k0,k1,k2,k3]) e35⟩
end Go.Proofs.YtaifphjenebgoaaGreatDoor
set_option linter.unusedVariables false
set_option linter.unusedSimpArgs false
namespace Go.Proofs.YtaifphjenebgoaaGreatDoor
open Go Go.Sx R1 K15
abbrev bptr (g:Nat):Value:=.pointer (some ⟨g,0,none⟩)
theorem below1_spec {u:World} {g2 g:Nat} {n high:Int} (bn:Blk u g2 [.int .i64 n]) (bh:Blk u g [.int .i64 high]) :
    CallsV Tryz.prog 88 #[bptr g2,bptr g] u fun r w'=>r=.bool (below n high)/\Ext u w':=by
  refine code_field_1_1.calls okay ?_
  unfold code_field_1_1.W
  refine ⟨_,bn.cell0 rfl,brd (fun h=>?_) (fun h=>?_)⟩
  · exact ⟨_,bn.cell0 rfl,_,bh.cell0 rfl,by simp [below,h],.refl _ _⟩
  · exact ⟨by simp [below,h],.refl _ _⟩
theorem below_spec (u:World) (g2:Nat) (high:Int) :
    CallsV Tryz.prog 87 #[.int .i64 high,bptr g2] u fun r w'=>∃ g,r=.func (.func 88) #[] #[bptr g2,bptr g]/\Blk w' g [.int .i64 high]/\Ext u w':=by
  refine code_field_1.calls okay ?_
  unfold code_field_1.W
  intro g w' f
  exact ⟨g,rfl,f.blk,f.ext⟩
structure FCtx (w:World) (p:Prog) (a:PAd) (t n:Int) (g g1 g2 g3:Nat):Prop where
  P:PIm w p a
  bp:Blk w g (pcs p a)
  bt:Blk w g1 [.int .i64 t]
  bn:Blk w g2 [.int .i64 n]
  bb:Blk w g3 [.func (.func 87) #[] #[bptr g2]]
theorem FCtx.ext {w w':World} {p:Prog} {a:PAd} {t n:Int} {g g1 g2 g3:Nat} (h:FCtx w p a t n g g1 g2 g3) (e:Ext w w'):FCtx w' p a t n g g1 g2 g3 :=
  ⟨h.P.ext e,h.bp.ext e,h.bt.ext e,h.bn.ext e,h.bb.ext e⟩
section
variable {w:World} {p:Prog} {a:PAd} {t n:Int} {g g1 g2 g3:Nat}
theorem field3_spec (h:FCtx w p a t n g g1 g2 g3):CallsV Tryz.prog 91 #[bptr g2] w fun r w'=>r=.bool (decide (n=0))/\Ext w w':=by
  refine code_field_3.calls okay ?_
  unfold code_field_3.W
  exact ⟨_,h.bn.cell0 rfl,rfl,.refl _ _⟩
theorem field4_spec (h:FCtx w p a t n g g1 g2 g3):CallsV Tryz.prog 92 #[bptr g2,bptr g1,bptr g] w fun r w'=>r=.bool (decide (t<n) && decide (n<p.code.length))/\Ext w w':=by
  refine code_field_4.calls okay ?_
  unfold code_field_4.W
  refine ⟨_,h.bn.cell0 rfl,_,h.bt.cell0 rfl,brd (fun hq=>?_) (fun hq=>?_)⟩
  · exact ⟨_,h.bn.cell0 rfl,_,_,_,h.bp.cell rfl,by simp [hq],.refl _ _⟩
  · exact ⟨by simp [hq],.refl _ _⟩
theorem field5_spec (h:FCtx w p a t n g g1 g2 g3):CallsV Tryz.prog 93 #[bptr g2,bptr g1] w fun r w'=>r=.bool (decide (1<=n) && decide (n<=t))/\Ext w w':=by
  refine code_field_5.calls okay ?_
  unfold code_field_5.W
  refine ⟨_,h.bn.cell0 rfl,brd (fun hq=>?_) (fun hq=>?_)⟩
  · exact ⟨_,h.bn.cell0 rfl,_,h.bt.cell0 rfl,by simp [hq],.refl _ _⟩
  · exact ⟨by simp [hq],.refl _ _⟩
theorem field6_spec (h:FCtx w p a t n g g1 g2 g3):CallsV Tryz.prog 94 #[bptr g2,bptr g] w fun r w'=>r=.bool (decide (1<=n) && decide (n<=p.regs))/\Ext w w':=by
  refine code_field_6.calls okay ?_
  unfold code_field_6.W
  refine ⟨_,h.bn.cell0 rfl,brd (fun hq=>?_) (fun hq=>?_)⟩
  · exact ⟨_,h.bn.cell0 rfl,_,h.bp.cell rfl,by simp [hq],.refl _ _⟩
  · exact ⟨by simp [hq],.refl _ _⟩
theorem field7_spec (u:World) (c:Cur):CallsV Tryz.prog 95 #[.agg #[.string c.name,.bool c.ix,.bool c.wr]] u fun r w'=>r=.bool c.ix/\Ext u w':=by
  refine code_field_7.calls okay ?_
  unfold code_field_7.W
  intro g w' f
  exact ⟨_,f.blk.cell rfl,rfl,f.ext⟩
theorem field8_spec (u:World) (c:Cur):CallsV Tryz.prog 96 #[.agg #[.string c.name,.bool c.ix,.bool c.wr]] u fun r w'=>r=.bool (!c.ix)/\Ext u w':=by
  refine code_field_8.calls okay ?_
  unfold code_field_8.W
  intro g w' f
  exact ⟨_,f.blk.cell rfl,rfl,f.ext⟩
theorem field9_spec (u:World) (c:Cur):CallsV Tryz.prog 97 #[.agg #[.string c.name,.bool c.ix,.bool c.wr]] u fun r w'=>r=.bool (!c.ix && c.wr)/\Ext u w':=by
  refine code_field_9.calls okay ?_
  unfold code_field_9.W
  intro g w' f
  refine ⟨_,f.blk.cell rfl,?_⟩
  cases hx:c.ix with
  | true=>exact ⟨by simp,f.ext⟩
  | false=>exact ⟨_,f.blk.cell rfl,by simp,f.ext⟩
def AsksC (f:FuncId) (q:Cur->Bool):Prop:=bodied Tryz.prog f=true/\∀ (u:World) (c:Cur),CallsV Tryz.prog f #[.agg #[.string c.name,.bool c.ix,.bool c.wr]] u fun r w'=>r=.bool (q c)/\Ext u w'
theorem cursor_spec (u:World) (f:FuncId) :
    CallsV Tryz.prog 89 #[.func (.func f) #[] #[],bptr g3,bptr g,bptr g2] u fun r w'=>∃ k,r=.func (.func 90) #[] #[bptr g3,bptr g,bptr k,bptr g2]/\Blk w' k [.func (.func f) #[] #[]]/\Ext u w':=by
  refine code_field_2.calls okay ?_
  unfold code_field_2.W
  refine ⟨rfl,fun k w' f=>?_⟩
  exact ⟨k,rfl,f.blk,f.ext⟩
theorem cursor1_spec (h:FCtx w p a t n g g1 g2 g3) {f:FuncId} {q:Cur->Bool} (hq:AsksC f q) {k:Nat} (bk:Blk w k [.func (.func f) #[] #[]]) :
    CallsV Tryz.prog 90 #[bptr g3,bptr g,bptr k,bptr g2] w fun r w'=>r=.bool (below n p.curs.length && q (curAt p n))/\Ext w w':=by
  refine code_field_2_1.calls okay ?_
  unfold code_field_2_1.W
  refine ⟨fun u=>Ext w u,Fr.drew NoB w,_,fun u e=>(h.ext e).bb.cell0 rfl,_,_,_,fun u e=>(h.ext e).bp.cell rfl,_,_,_,rfl,by kernel_rfl,?_⟩
  refine (below_spec _ g2 p.curs.length).mono ?_
  rintro _ u ⟨k1,rfl,bk1,e1⟩
  have e1:Ext w u:=(Fr.drew NoB w).ext e1
  refine ⟨_,rfl,e1,_,_,_,rfl,by kernel_rfl,?_⟩
  refine (below1_spec (h.ext e1).bn bk1).mono ?_
  rintro _ u2 ⟨rfl,e2⟩
  have e2:=e1.trans' e2
  refine ⟨_,rfl,e2,?_⟩
  cases hb:below n p.curs.length with
  | false=>rw [cond_false];exact ⟨rfl,e2⟩
  | true =>
    rw [cond_true]
    simp only [below,Bool.and_eq_true,decide_eq_true_eq] at hb
    have hlt:n.toNat<p.curs.length:=by omega
    obtain ⟨ad,hA,cs,hrep,hc⟩:=h.P.curs.get1 hlt
    have hcs:cs=[.string p.curs[n.toNat].name,.bool p.curs[n.toNat].ix,.bool p.curs[n.toNat].wr]:=hrep
    subst hcs
    have hcur:curAt p n=p.curs[n.toNat]:=by simp [curAt,hlt]
    have cell:∀ (u:World),Ext w u->∀ (j:Nat) (v:Value),[Value.string p.curs[n.toNat].name,.bool p.curs[n.toNat].ix,.bool p.curs[n.toNat].wr][j]?=some v->u.cell? ((ad.add (n.toNat*3)).add j)=some v:=fun u e j v hv=>by
      rw [add_add];exact e.cell (fun h=>h) (hc j v hv)
    refine ⟨fun u=>Ext w u,e2,_,fun u e=>(bk.ext e).cell0 rfl,_,_,_,fun u e=>(h.ext e).bp.cell rfl,_,fun u e=>(h.ext e).bn.cell0 rfl,ad,hA,⟨hb.1,hb.2⟩,_,fun u e=>cell u e 0 _ rfl,_,fun u e=>cell u e 1 _ rfl,_,fun u e=>cell u e 2 _ rfl,f,_,_,rfl,hq.1,?_⟩
    refine (hq.2 u2 p.curs[n.toNat]).mono ?_
    rintro _ u3 ⟨rfl,e3⟩
    have e3:=e2.trans' e3
    exact ⟨_,rfl,e3,e3,by rw [hcur];rfl,e3⟩
theorem field10_spec (h:FCtx w p a t n g g1 g2 g3):CallsV Tryz.prog 98 #[bptr g3,bptr g,bptr g2] w fun r w'=>r=.bool (below n p.consts.length && decide ((constAt p n).k=2))/\Ext w w':=by
  refine code_field_10.calls okay ?_
  unfold code_field_10.W
  refine ⟨_,h.bb.cell0 rfl,_,_,_,h.bp.cell rfl,_,_,_,rfl,by kernel_rfl,?_⟩
  refine (below_spec _ g2 p.consts.length).mono ?_
  rintro _ u ⟨k1,rfl,bk1,e1⟩
  refine ⟨_,rfl,_,_,_,rfl,by kernel_rfl,?_⟩
  refine (below1_spec (h.ext e1).bn bk1).mono ?_
  rintro _ u2 ⟨rfl,e2⟩
  have e2:=e1.trans' e2
  refine ⟨_,rfl,?_⟩
  cases hb:below n p.consts.length with
  | false=>rw [cond_false];exact ⟨rfl,e2⟩
  | true =>
    rw [cond_true]
    simp only [below,Bool.and_eq_true,decide_eq_true_eq] at hb
    have hlt:n.toNat<p.consts.length:=by omega
    obtain ⟨ad,hA,cs,hrep,hc⟩:=h.P.consts.get1 hlt
    have hcs:cs=vc p.consts[n.toNat]:=hrep
    subst hcs
    have hcur:constAt p n=p.consts[n.toNat]:=by simp [constAt,hlt]
    exact ⟨_,_,_,(h.ext e2).bp.cell rfl,_,(h.ext e2).bn.cell0 rfl,ad,hA,⟨hb.1,hb.2⟩,_,by rw [add_add];exact e2.cell (fun h=>h) (hc 0 _ rfl),by rw [hcur];rfl,e2⟩
end
end Go.Proofs.YtaifphjenebgoaaGreatDoor
set_option linter.unusedVariables false
set_option linter.unusedSimpArgs false
namespace Go.Proofs.YtaifphjenebgoaaGreatDoor
open Go Go.Sx R1 K15
theorem getM_setM {α:Type} [DecidableEq α] (a : α) (v:Value) (c : α):∀ l:List (α×Value),getM (setM l a v) c=if c=a then some v else getM l c
  | []=>by simp only [setM,getM]
  | (x,u)::l=>by
    by_cases h:a=x
    · subst h
      by_cases hc:c=a<;>simp [setM,getM,hc]
    · rw [setM,if_neg h,getM,getM,getM_setM a v c l]
      by_cases hc:c=x
      · subst hc
        rw [if_pos rfl,if_pos rfl,if_neg (fun e=>h e.symm)]
      · rw [if_neg hc,if_neg hc]
def AnsF (w1 u:World) (v:Value) (b:Bool):Prop :=
  ∃ (fid:FuncId) (captured:Array Value) (k:Nat) (cur:List Value),v=.func (.func fid) #[] captured/\bodied Tryz.prog fid=true/\Blk u k cur /\
    ∀ u',Ext w1 u'->Blk u' k cur->CallsV Tryz.prog fid captured u' fun r w'=>r=.bool b/\Ext u' w'
theorem AnsF.keep {w1 u u':World} {v:Value} {b:Bool} {S:Nat->Prop} (h:AnsF w1 u v b) (f:Fr S u u') (hS:∀ k cur,Blk u k cur->¬ S k):AnsF w1 u' v b:=by
  obtain ⟨fid,cap,k,cur,h1,h2,h3,h4⟩:=h
  exact ⟨fid,cap,k,cur,h1,h2,h3.keep f (hS k cur h3),h4⟩
theorem AnsF.ext {w1 u u':World} {v:Value} {b:Bool} (h:AnsF w1 u v b) (e:Ext u u'):AnsF w1 u' v b:=h.keep e fun _ _ _ h=>h
abbrev kf:Int->Value:=fun a=>Value.int .u8 a
theorem mapk_apart {u:World} {M:Nat} {l:List (Int×Value)} (h:MapK kf u M l) (k:Nat) (cur:List Value) (hb:Blk u k cur) : ¬ (k=M):=by
  rintro rfl
  obtain ⟨es,c,h1,_⟩:=h
  obtain ⟨e,h2⟩:=hb
  rw [h1] at h2;cases h2
def GF (w1:World) (ans:Int->Bool) (calls:List (Nat×Nat×Int)) (ins:List (Nat×Int)) (D:Nat->Bool) (ν:Nat->Value) (u:World):Prop :=
  Ext w1 u/\(∀ p∈calls,D p.1=true->AnsF w1 u (ν p.2.1) (ans p.2.2))/\(∀ p∈ins,D p.1=true->D 0=true) /\
  (D 0=true->∃ M l,ν 14=.map (some M)/\w1.heap.size<=M/\MapK kf u M l/\(∀ c v,getM l c=some v->AnsF w1 u v (ans c))/\∀ p∈ins,D p.1=true->(getM l p.2).isSome=true)
theorem setD_ne {D:Nat->Bool} {i j:Nat} (h:j≠i):setD D i j=D j:=by
  have:Nat.beq j i=false:=by cases hb:Nat.beq j i with|false=>rfl|true=>exact absurd (Nat.eq_of_beq_eq_true hb) h
  simp [setD,this]
theorem setD_eq {D:Nat->Bool} {i:Nat}:setD D i i=true:=by simp [setD]
theorem setD_case {D:Nat->Bool} {i j:Nat} (h:setD D i j=true):j=i\/(j≠i/\D j=true):=by
  by_cases hj:j=i
  · exact .inl hj
  · rw [setD_ne hj] at h;exact .inr ⟨hj,h⟩
theorem setNuV_ne {ν:Nat->Value} {d t:Nat} {v:Value} (h:t≠d):setNuV ν (some d) v t=ν t:=by
  have:Nat.beq t d=false:=by cases hb:Nat.beq t d with|false=>rfl|true=>exact absurd (Nat.eq_of_beq_eq_true hb) h
  simp [setNuV,this]
theorem setNuV_eq {ν:Nat->Value} {d:Nat} {v:Value}:setNuV ν (some d) v d=v:=by simp [setNuV]
theorem keyLet:KeyF Tryz.prog 5 (.int .u8) kf:=keyInt (by kernel_rfl)
theorem mapLet:und Tryz.prog 135=some (.map 5 31):=by kernel_rfl
def tcalls:List (Nat×Nat×Int):=[(6,19,114),(12,24,107),(17,28,98),(23,33,115),(29,38,116),(35,43,99),(38,45,50),(41,47,49),(44,49,102),(47,51,120),(56,56,105),(59,58,108),(62,60,119)]
def tins:List (Nat×Int):=[(2,45),(7,114),(13,107),(18,98),(24,115),(30,116),(36,99),(39,50),(42,49),(45,102),(48,120),(50,106),(52,110),(54,109),(57,105),(60,108),(63,119),(65,113)]
section
variable {w1:World} {ans:Int->Bool} {D:Nat->Bool} {ν:Nat->Value} {u:World}
theorem tc_ne:∀ p∈tcalls,p.1≠0/\p.2.1≠14:=by decide
theorem ti_ne:∀ p∈tins,p.1≠0:=by decide
theorem G_map (h:GF w1 ans tcalls tins D ν u) (h0:D 0=false):GF w1 ans tcalls tins (setD D 0) (setNuV ν (some 14) (.map (some u.heap.size))) (u.alloc (.map #[] 0)):=by
  have e:Ext u (u.alloc (.map #[] 0)):=Fr.alloc NoB _ _
  refine ⟨h.1.trans' e,fun p hp hd=>?_,fun _ _ _=>setD_eq,fun _=>⟨_,[],setNuV_eq,h.1.size,MapK.new _ _,fun c v hv=>(by cases hv),fun p hp hd=>?_⟩⟩
  · obtain ⟨n1,n2⟩:=tc_ne p hp
    rw [setD_ne n1] at hd
    rw [setNuV_ne n2]
    exact (h.2.1 p hp hd).ext e
  · rw [setD_ne (ti_ne p hp)] at hd
    have:=h.2.2.1 p hp hd
    rw [h0] at this;cases this
theorem G_call {i t:Nat} {c:Int} (hm:(∀ p∈tcalls,(p.1=i->p.2.1=t)/\(p.2.1=t->p.2.2=c))/\(∀ p∈tins,p.1≠i)) (hn:i≠0/\t≠14) (h:GF w1 ans tcalls tins D ν u) {u':World} (e:Ext u u') {v:Value} (ha:AnsF w1 u' v (ans c)) :
    GF w1 ans tcalls tins (setD D i) (setNuV ν (some t) v) u':=by
  refine ⟨h.1.trans' e,fun p hp hd=>?_,fun p hp hd=>?_,fun hd=>?_⟩
  · obtain ⟨m1,m2⟩:=hm.1 p hp
    by_cases ht:p.2.1=t
    · rw [ht,setNuV_eq,m2 ht];exact ha
    · rw [setNuV_ne ht]
      rcases setD_case hd with hi|⟨_,hd⟩
      · exact absurd (m1 hi) ht
      · exact (h.2.1 p hp hd).ext e
  · rw [setD_ne (hm.2 p hp)] at hd
    rw [setD_ne (fun e=>hn.1 e.symm)]
    exact h.2.2.1 p hp hd
  · rw [setD_ne (fun e=>hn.1 e.symm)] at hd
    obtain ⟨M,l,h1,h2,h3,h4,h5⟩:=h.2.2.2 hd
    refine ⟨M,l,by rw [setNuV_ne (fun e=>hn.2 e.symm)];exact h1,h2,h3.ext e,fun c v hv=>(h4 c v hv).ext e,fun p hp hd=>h5 p hp ?_⟩
    rw [setD_ne (hm.2 p hp)] at hd;exact hd
theorem G_ins {i:Nat} {c:Int} (hm:(∀ p∈tins,p.1=i->p.2=c)/\∀ p∈tcalls,p.1≠i) (hn:i≠0) (h:GF w1 ans tcalls tins D ν u) (h0:D 0=true) {v:Value} (ha:AnsF w1 u v (ans c)) :
    ∃ M,ν 14=.map M/\∃ w',RunsTo Tryz.prog (Instr.mapUpdate 135 (.map M) (.int .u8 c) v) u () w'/\GF w1 ans tcalls tins (setD D i) (setNuV ν none undef) w':=by
  obtain ⟨M,l,h1,h2,h3,h4,h5⟩:=h.2.2.2 h0
  obtain ⟨w',hr,hm',hf⟩:=h3.update keyLet mapLet c v
  have hap:=mapk_apart h3
  refine ⟨_,h1,w',hr,h.1.trans hf (fun _ _ h=>h) (fun k hk e=>absurd hk (by omega)),fun p hp hd=>?_,fun p hp hd=>?_,fun _=>⟨M,_,h1,h2,hm',fun c' v' hv=>?_,fun p hp hd=>?_⟩⟩
  · rw [setD_ne (hm.2 p hp)] at hd
    exact (h.2.1 p hp hd).keep hf hap
  · rw [setD_ne (fun e=>hn e.symm)];exact h0
  · rw [getM_setM] at hv
    split at hv
    · rename_i e;cases hv;subst e;exact ha.keep hf hap
    · exact (h4 c' v' hv).keep hf hap
  · rw [getM_setM]
    by_cases hpc:p.2=c
    · rw [if_pos hpc];rfl
    · rw [if_neg hpc]
      rcases setD_case hd with hi|⟨_,hd⟩
      · exact absurd (hm.1 p hp hi) hpc
      · exact h5 p hp hd
end
section
variable {w1:World} {p:Prog} {a:PAd} {t n:Int} {g g1 g2 g3:Nat}
theorem ans_below (hc:FCtx w1 p a t n g g1 g2 g3) {u:World} (e:Ext w1 u) {k:Nat} {high:Int} (bk:Blk u k [.int .i64 high]) {b:Bool} (hb:b=below n high) :
    AnsF w1 u (.func (.func 88) #[] #[bptr g2,bptr k]) b :=
  ⟨_,_,k,_,rfl,by kernel_rfl,bk,fun u' e' b'=>by rw [hb];exact below1_spec (hc.ext e').bn b'⟩
theorem ans_cur (hc:FCtx w1 p a t n g g1 g2 g3) {u:World} (e:Ext w1 u) {f:FuncId} {q:Cur->Bool} (hq:AsksC f q) {k:Nat} (bk:Blk u k [.func (.func f) #[] #[]]) {b:Bool} (hb:b=(below n p.curs.length && q (curAt p n))) :
    AnsF w1 u (.func (.func 90) #[] #[bptr g3,bptr g,bptr k,bptr g2]) b :=
  ⟨_,_,k,_,rfl,by kernel_rfl,bk,fun u' e' b'=>by rw [hb];exact cursor1_spec (hc.ext e') hq b'⟩
end
theorem letters_in:∀ l∈letters,∃ q∈tins,q.2=l:=by decide
set_option maxRecDepth 10000 in
theorem field_spec {w:World} {p:Prog} {a:PAd} (h:PIm w p a) (t l n:Int) (hl:l∈letters) :
    CallsV Tryz.prog 47 #[pagg p a,.int .i64 t,.int .u8 l,.int .i64 n] w fun r w'=>r=.bool (fieldP p t l n)/\Ext w w':=by
  refine code_field.calls okay ?_
  unfold code_field.W
  intro g wa fa g1 wb fb g2 wc fc g3 wd fd
  refine ⟨rfl,rfl,fd.blk.stOK [_] 0 (by simp),fun w1 hw1=>?_⟩
  have ed:Ext wc wd:=fd.ext
  have hc:FCtx w1 p a t n g g1 g2 g3:=by
    have k1:∀ {k:Nat} {cur:List Value},Blk wc k cur->Blk w1 k cur:=fun {k cur} b=>by
      rw [hw1]
      exact (b.ext ed).keep (Fr.setAll (g:=g3) (o:=0) _ 0 wd) (fun e=>by have:=fd.ge;have:=b.lt;omega)
    refine ⟨?_,k1 ((fa.blk.ext fb.ext).ext fc.ext),k1 (fb.blk.ext fc.ext),k1 fc.blk,?_⟩
    · rw [hw1]
      exact h.ext (Ext.setAll (((fa.ext.trans' fb.ext).trans' fc.ext).trans' ed) (Nat.le_trans (((fa.ext.trans' fb.ext).trans' fc.ext).size) fd.ge) _ _)
    · rw [hw1];exact Blk.setAll (o:=0) [_] 0 fd.blk
  have e0:Ext w w1:=by rw [hw1];exact Ext.setAll (((fa.ext.trans' fb.ext).trans' fc.ext).trans' ed) (Nat.le_trans (((fa.ext.trans' fb.ext).trans' fc.ext).size) fd.ge) _ _
  clear hw1 fa fb fc fd ed
  refine ⟨fun u=>Ext w1 u,Fr.drew NoB w1,_,fun u e=>(hc.ext e).bb.cell0 rfl,_,fun u e=>(hc.ext e).bp.cell rfl,_,fun u e=>(hc.ext e).bb.cell0 rfl,_,_,_,fun u e=>(hc.ext e).bp.cell rfl,_,fun u e=>(hc.ext e).bb.cell0 rfl,_,fun u e=>(hc.ext e).bp.cell rfl,
    _,fun u e=>(hc.ext e).bb.cell0 rfl,_,_,_,fun u e=>(hc.ext e).bp.cell rfl,_,fun u e=>(hc.ext e).bb.cell0 rfl,_,_,_,fun u e=>(hc.ext e).bp.cell rfl,_,fun u e=>(hc.ext e).bb.cell0 rfl,_,_,_,fun u e=>(hc.ext e).bp.cell rfl,
    _,fun u e=>(hc.ext e).bb.cell0 rfl,_,fun u e=>(hc.ext e).bb.cell0 rfl,_,fun u e=>(hc.ext e).bb.cell0 rfl,_,fun u e=>(hc.ext e).bb.cell0 rfl,GF w1 (fun c=>fieldP p t c n) tcalls tins,?_,fun D ν u hG=>hG.1,?_,?_⟩
  · intro ν
    exact ⟨Fr.drew NoB w1,fun _ _ h=>(by cases h),fun _ _ h=>(by cases h),fun h=>(by cases h)⟩
  · refine ⟨?_,?_,?_,?_,?_,?_,?_,?_,?_,?_,?_,?_,?_,?_,?_,?_,?_,?_,?_,?_,?_,?_,?_,?_,?_,?_,?_,?_,?_,?_,?_,?_⟩
    · intro D ν u hG h0
      exact ⟨_,_,makeMap_run _ _,G_map hG h0⟩
    · intro D ν u hG _ h0
      exact G_ins (i:=2) (c:=45) (by decide) (by decide) hG h0 ⟨_,_,_,_,rfl,by kernel_rfl,(hc.ext hG.1).bn,fun u e _=>by
        refine (field3_spec (hc.ext e)).mono ?_
        rintro r w' ⟨rfl,e1⟩
        exact ⟨by simp [fieldP],e1⟩⟩
    · intro D ν u hG h0
      refine ⟨_,_,_,rfl,by kernel_rfl,(below_spec u g2 _).mono ?_⟩
      rintro _ u1 ⟨k,rfl,bk,e⟩
      exact ⟨_,rfl,G_call (i:=6) (t:=19) (c:=114) (by decide) (by decide) hG e (ans_below hc (hG.1.trans' e) bk (by simp [fieldP]))⟩
    · intro D ν u hG _ h0 h1
      exact G_ins (i:=7) (c:=114) (by decide) (by decide) hG h0 (hG.2.1 (6,19,114) (by decide) h1)
    · intro D ν u hG h0 _
      refine ⟨_,_,_,rfl,by kernel_rfl,(below_spec u g2 _).mono ?_⟩
      rintro _ u1 ⟨k,rfl,bk,e⟩
      exact ⟨_,rfl,G_call (i:=12) (t:=24) (c:=107) (by decide) (by decide) hG e (ans_below hc (hG.1.trans' e) bk (by simp [fieldP]))⟩
    · intro D ν u hG _ h0 h1
      exact G_ins (i:=13) (c:=107) (by decide) (by decide) hG h0 (hG.2.1 (12,24,107) (by decide) h1)
    · intro D ν u hG h0 _
      refine ⟨_,_,_,rfl,by kernel_rfl,(below_spec u g2 _).mono ?_⟩
      rintro _ u1 ⟨k,rfl,bk,e⟩
      exact ⟨_,rfl,G_call (i:=17) (t:=28) (c:=98) (by decide) (by decide) hG e (ans_below hc (hG.1.trans' e) bk (by simp [fieldP]))⟩
    · intro D ν u hG _ h0 h1
      exact G_ins (i:=18) (c:=98) (by decide) (by decide) hG h0 (hG.2.1 (17,28,98) (by decide) h1)
    · intro D ν u hG h0 _
      refine ⟨_,_,_,rfl,by kernel_rfl,(below_spec u g2 _).mono ?_⟩
      rintro _ u1 ⟨k,rfl,bk,e⟩
      exact ⟨_,rfl,G_call (i:=23) (t:=33) (c:=115) (by decide) (by decide) hG e (ans_below hc (hG.1.trans' e) bk (by simp [fieldP]))⟩
    · intro D ν u hG _ h0 h1
      exact G_ins (i:=24) (c:=115) (by decide) (by decide) hG h0 (hG.2.1 (23,33,115) (by decide) h1)
    · intro D ν u hG h0 _
      refine ⟨_,_,_,rfl,by kernel_rfl,(below_spec u g2 _).mono ?_⟩
      rintro _ u1 ⟨k,rfl,bk,e⟩
      exact ⟨_,rfl,G_call (i:=29) (t:=38) (c:=116) (by decide) (by decide) hG e (ans_below hc (hG.1.trans' e) bk (by simp [fieldP]))⟩
    · intro D ν u hG _ h0 h1
      exact G_ins (i:=30) (c:=116) (by decide) (by decide) hG h0 (hG.2.1 (29,38,116) (by decide) h1)
    · intro D ν u hG h0 _
      refine ⟨_,_,_,rfl,by kernel_rfl,(below_spec u g2 _).mono ?_⟩
      rintro _ u1 ⟨k,rfl,bk,e⟩
      exact ⟨_,rfl,G_call (i:=35) (t:=43) (c:=99) (by decide) (by decide) hG e (ans_below hc (hG.1.trans' e) bk (by simp [fieldP]))⟩
    · intro D ν u hG _ h0 h1
      exact G_ins (i:=36) (c:=99) (by decide) (by decide) hG h0 (hG.2.1 (35,43,99) (by decide) h1)
    · intro D ν u hG h0 _
      refine ⟨_,_,_,rfl,by kernel_rfl,(below_spec u g2 _).mono ?_⟩
      rintro _ u1 ⟨k,rfl,bk,e⟩
      exact ⟨_,rfl,G_call (i:=38) (t:=45) (c:=50) (by decide) (by decide) hG e (ans_below hc (hG.1.trans' e) bk (by simp [fieldP]))⟩
    · intro D ν u hG _ h0 h1
      exact G_ins (i:=39) (c:=50) (by decide) (by decide) hG h0 (hG.2.1 (38,45,50) (by decide) h1)
    · intro D ν u hG h0 _
      refine ⟨_,_,_,rfl,by kernel_rfl,(below_spec u g2 _).mono ?_⟩
      rintro _ u1 ⟨k,rfl,bk,e⟩
      exact ⟨_,rfl,G_call (i:=41) (t:=47) (c:=49) (by decide) (by decide) hG e (ans_below hc (hG.1.trans' e) bk (by simp [fieldP]))⟩
    · intro D ν u hG _ h0 h1
      exact G_ins (i:=42) (c:=49) (by decide) (by decide) hG h0 (hG.2.1 (41,47,49) (by decide) h1)
    · intro D ν u hG h0 _
      refine ⟨_,_,_,rfl,by kernel_rfl,(below_spec u g2 _).mono ?_⟩
      rintro _ u1 ⟨k,rfl,bk,e⟩
      exact ⟨_,rfl,G_call (i:=44) (t:=49) (c:=102) (by decide) (by decide) hG e (ans_below hc (hG.1.trans' e) bk (by simp [fieldP]))⟩
    · intro D ν u hG _ h0 h1
      exact G_ins (i:=45) (c:=102) (by decide) (by decide) hG h0 (hG.2.1 (44,49,102) (by decide) h1)
    · intro D ν u hG h0 _
      refine ⟨_,_,_,rfl,by kernel_rfl,(below_spec u g2 _).mono ?_⟩
      rintro _ u1 ⟨k,rfl,bk,e⟩
      exact ⟨_,rfl,G_call (i:=47) (t:=51) (c:=120) (by decide) (by decide) hG e (ans_below hc (hG.1.trans' e) bk (by simp [fieldP]))⟩
    · intro D ν u hG _ h0 h1
      exact G_ins (i:=48) (c:=120) (by decide) (by decide) hG h0 (hG.2.1 (47,51,120) (by decide) h1)
    · intro D ν u hG _ h0
      exact G_ins (i:=50) (c:=106) (by decide) (by decide) hG h0 ⟨_,_,_,_,rfl,by kernel_rfl,(hc.ext hG.1).bn,fun u e _=>by
        refine (field4_spec (hc.ext e)).mono ?_
        rintro r w' ⟨rfl,e1⟩
        exact ⟨by simp [fieldP],e1⟩⟩
    · intro D ν u hG _ h0
      exact G_ins (i:=52) (c:=110) (by decide) (by decide) hG h0 ⟨_,_,_,_,rfl,by kernel_rfl,(hc.ext hG.1).bn,fun u e _=>by
        refine (field5_spec (hc.ext e)).mono ?_
        rintro r w' ⟨rfl,e1⟩
        exact ⟨by simp [fieldP],e1⟩⟩
    · intro D ν u hG _ h0
      exact G_ins (i:=54) (c:=109) (by decide) (by decide) hG h0 ⟨_,_,_,_,rfl,by kernel_rfl,(hc.ext hG.1).bn,fun u e _=>by
        refine (field6_spec (hc.ext e)).mono ?_
        rintro r w' ⟨rfl,e1⟩
        exact ⟨by simp [fieldP],e1⟩⟩
    · intro D ν u hG h0 _
      refine ⟨_,_,_,rfl,by kernel_rfl,(cursor_spec u _).mono ?_⟩
      rintro _ u1 ⟨k,rfl,bk,e⟩
      exact ⟨_,rfl,G_call (i:=56) (t:=56) (c:=105) (by decide) (by decide) hG e (ans_cur hc (hG.1.trans' e) ⟨by kernel_rfl,field7_spec⟩ bk (by simp [fieldP]))⟩
    · intro D ν u hG _ h0 h1
      exact G_ins (i:=57) (c:=105) (by decide) (by decide) hG h0 (hG.2.1 (56,56,105) (by decide) h1)
    · intro D ν u hG h0 _
      refine ⟨_,_,_,rfl,by kernel_rfl,(cursor_spec u _).mono ?_⟩
      rintro _ u1 ⟨k,rfl,bk,e⟩
      exact ⟨_,rfl,G_call (i:=59) (t:=58) (c:=108) (by decide) (by decide) hG e (ans_cur hc (hG.1.trans' e) ⟨by kernel_rfl,field8_spec⟩ bk (by simp [fieldP]))⟩
    · intro D ν u hG _ h0 h1
      exact G_ins (i:=60) (c:=108) (by decide) (by decide) hG h0 (hG.2.1 (59,58,108) (by decide) h1)
    · intro D ν u hG h0 _
      refine ⟨_,_,_,rfl,by kernel_rfl,(cursor_spec u _).mono ?_⟩
      rintro _ u1 ⟨k,rfl,bk,e⟩
      exact ⟨_,rfl,G_call (i:=62) (t:=60) (c:=119) (by decide) (by decide) hG e (ans_cur hc (hG.1.trans' e) ⟨by kernel_rfl,field9_spec⟩ bk (by simp [fieldP]))⟩
    · intro D ν u hG _ h0 h1
      exact G_ins (i:=63) (c:=119) (by decide) (by decide) hG h0 (hG.2.1 (62,60,119) (by decide) h1)
    · intro D ν u hG _ h0
      exact G_ins (i:=65) (c:=113) (by decide) (by decide) hG h0 ⟨_,_,_,_,rfl,by kernel_rfl,(hc.ext hG.1).bn,fun u e _=>by
        refine (field10_spec (hc.ext e)).mono ?_
        rintro r w' ⟨rfl,e1⟩
        exact ⟨by simp [fieldP],e1⟩⟩
  · intro D ν u d0 d2 d6 d7 d12 d13 d17 d18 d23 d24 d29 d30 d35 d36 d38 d39 d41 d42 d44 d45 d47 d48 d50 d52 d54 d56 d57 d59 d60 d62 d63 d65 hG
    obtain ⟨M,m,h1,h2,h3,h4,h5⟩:=hG.2.2.2 d0
    obtain ⟨q,hq,hql⟩:=letters_in l hl
    have hd:∀ q∈tins,D q.1=true:=fun q hq=>by
      simp only [tins,List.mem_cons,List.mem_nil_iff,or_false] at hq
      rcases hq with rfl|rfl|rfl|rfl|rfl|rfl|rfl|rfl|rfl|rfl|rfl|rfl|rfl|rfl|rfl|rfl|rfl|rfl<;>assumption
    have hs:=h5 q hq (hd q hq)
    rw [hql] at hs
    obtain ⟨v,hv⟩:=Option.isSome_iff_exists.1 hs
    obtain ⟨_,hr⟩:=h3.look keyLet mapLet l (z:=Value.nilFunc) (fun w=>by kernel_rfl)
    rw [hv] at hr
    obtain ⟨fid,cap,k,cur,rfl,hb,bk,hcall⟩:=h4 l v hv
    refine ⟨_,h1,_,_,hr,fid,_,_,rfl,hb,?_⟩
    have:=hcall u hG.1 bk
    simp only [List.nil_append,Array.toArray_toList]
    refine this.mono ?_
    rintro _ u' ⟨rfl,e⟩
    exact ⟨_,rfl,rfl,(e0.trans' hG.1).trans' e⟩
end Go.Proofs.YtaifphjenebgoaaGreatDoor
set_option linter.unusedVariables false
set_option linter.unusedSimpArgs false
namespace Go.Proofs.YtaifphjenebgoaaGreatDoor
open Go Go.Sx R1 K15
theorem fields_of {p:Prog} {t:Int} {i:Ins} {x y z u:UInt8} (hs:shapeP i.op=[x,y,z,u]) (h:fieldsP p t i=true) :
    fieldP p t x.toNat i.a=true/\fieldP p t y.toNat i.b=true/\fieldP p t z.toNat i.c=true/\fieldP p t u.toNat i.d=true:=by
  unfold fieldsP at h
  rw [hs] at h
  simp only [fieldsL,Bool.and_eq_true] at h
  exact h
theorem field_r {p:Prog} {t n:Int} (h:fieldP p t ((114:UInt8).toNat:Int) n=true) : 0<=n/\n<p.regs:=by
  have h:fieldP p t 114 n=true:=h
  simpa [fieldP,below] using h
theorem field_s {p:Prog} {t n:Int} (h:fieldP p t ((115:UInt8).toNat:Int) n=true) : 0<=n/\n<p.sorts.length:=by
  have h:fieldP p t 115 n=true:=h
  simpa [fieldP,below] using h
section
variable {w:World} {p:Prog} {a:PAd}
theorem fits_spec {g:Nat} (bp:Blk w g (pcs p a)) {f m:Int} (hr : 0<=p.regs/\p.regs<=250) (hf : 0<=f/\f<p.regs) :
    CallsV Tryz.prog 99 #[.int .i64 f,.int .i64 m,.pointer (some ⟨g,0,none⟩)] w fun r w'=>r=.bool (fitsP p f m)/\w'=w:=by
  refine code_runs_1.calls okay ?_
  unfold code_runs_1.W
  exact ⟨_,bp.cell rfl,by rw [wi _ (by omega) (by omega)];rfl,rfl⟩
theorem insAt_imm (h:PIm w p a) {t:Nat} (ht:t<p.code.length):∃ ad,a.dA=some ad/\∀ (u:World),Ext w u->∀ (j:Nat) (v:Value),[Value.int .u8 p.code[t].op,.int .i64 p.code[t].a,.int .i64 p.code[t].b,.int .i64 p.code[t].c,.int .i64 p.code[t].d][j]?=some v->u.cell? ((ad.add (t*5)).add j)=some v:=by
  obtain ⟨ad,hA,cs,hrep,hc⟩:=h.code.get1 ht
  have hcs:cs=[.int .u8 p.code[t].op,.int .i64 p.code[t].a,.int .i64 p.code[t].b,.int .i64 p.code[t].c,.int .i64 p.code[t].d]:=hrep
  subst hcs
  exact ⟨ad,hA,fun u e j v hv=>by rw [add_add];exact e.cell (fun h=>h) (hc j v hv)⟩
theorem srtAt_imm (h:PIm w p a) {n:Int} (hn : 0<=n/\n<p.sorts.length):∃ ad,a.sA=some ad/\∃ A c,∀ (u:World),Ext w u->∀ (j:Nat) (v:Value),[Value.slice A (srtAt p n).desc.length c,.int .i64 (srtAt p n).cols,.bool (srtAt p n).dist][j]?=some v->u.cell? ((ad.add (n.toNat*3)).add j)=some v:=by
  have hlt:n.toNat<p.sorts.length:=by omega
  obtain ⟨ad,hA,cs,hrep,hc⟩:=h.sorts.get1 hlt
  have e:srtAt p n=p.sorts[n.toNat]:=by simp [srtAt,hlt]
  obtain ⟨A,c,hcs,_⟩:=id hrep
  subst hcs
  rw [e]
  exact ⟨ad,hA,A,c,fun u e j v hv=>by rw [add_add];exact e.cell (fun h=>h) (hc j v hv)⟩
set_option maxRecDepth 10000 in
theorem runs_spec (h:PIm w p a) (hT:Tab w) {t:Nat} (ht:t<p.code.length) (hr : 0<=p.regs/\p.regs<=250) (hf:fieldsP p t p.code[t]=true) :
    CallsV Tryz.prog 48 #[pagg p a,.int .i64 t] w fun r w'=>r=.bool (runsP p t p.code[t])/\Ext w w':=by
  refine code_runs.calls okay ?_
  unfold code_runs.W
  intro g wa fa
  obtain ⟨ad,hA,hc⟩:=insAt_imm h ht
  refine ⟨_,_,_,fa.blk.cell rfl,ad,hA,⟨by omega,by omega⟩,_,by rw [Int.toNat_natCast];exact hc wa fa.ext 0 _ rfl,_,by rw [Int.toNat_natCast];exact hc wa fa.ext 1 _ rfl,_,by rw [Int.toNat_natCast];exact hc wa fa.ext 2 _ rfl,
    _,by rw [Int.toNat_natCast];exact hc wa fa.ext 3 _ rfl,_,by rw [Int.toNat_natCast];exact hc wa fa.ext 4 _ rfl,?_⟩
  intro g1 wb fb
  refine ⟨fb.blk.stOK [_,_,_,_,_] 0 (by simp),fun w1 hw1=>?_⟩
  have bi:Blk w1 g1 [.int .u8 p.code[t].op,.int .i64 p.code[t].a,.int .i64 p.code[t].b,.int .i64 p.code[t].c,.int .i64 p.code[t].d]:=by rw [hw1];exact Blk.setAll (o:=0) [_,_,_,_,_] 0 fb.blk
  have bp:Blk w1 g (pcs p a):=by
    rw [hw1];exact (fa.blk.ext fb.ext).keep (Fr.setAll (g:=g1) (o:=0) _ 0 wb) (fun e=>by have:=fb.ge;have:=fa.blk.lt;omega)
  have e1:Ext w w1:=by rw [hw1];exact Ext.setAll (fa.ext.trans' fb.ext) (Nat.le_trans fa.ext.size fb.ge) _ _
  clear hw1 fa fb hc
  generalize hi:p.code[t]=i at *
  unfold runsP
  refine ⟨_,bi.cell rfl,brd (fun h8=>?_) (fun h8=>?_)⟩
  · rw [if_pos h8]
    obtain ⟨q1,q2,q3,q4⟩:=fields_of (x:=114) (y:=114) (z:=109) (u:=102) (by rw [h8];decide) hf
    refine ⟨_,bi.cell rfl,(Func_spec (hT.ext e1) i.d).mono ?_⟩
    rintro _ u ⟨rfl,e2⟩
    have e:=e1.trans' e2
    refine ⟨_,_,rfl,_,(bi.ext e2).cell rfl,brd (fun hq=>?_) (fun hq=>⟨by simp [hq],e⟩)⟩
    refine ⟨_,(bi.ext e2).cell rfl,_,(bi.ext e2).cell rfl,(fits_spec (bp.ext e2) hr (field_r q2)).mono ?_⟩
    rintro _ u' ⟨rfl,hu⟩
    obtain rfl:u=u':=hu.symm
    refine ⟨_,rfl,cbool (fun hq2=>?_) (fun hq2=>⟨by simp [hq,hq2],e⟩)⟩
    refine ⟨_,(bi.ext e2).cell rfl,(Known_spec u _ i.c).mono ?_⟩
    rintro _ u' ⟨rfl,hu⟩
    obtain rfl:u=u':=hu.symm
    refine ⟨_,rfl,?_,e⟩
    rw [hq2,decide_eq_true hq,Bool.true_and,Bool.true_and]
    have:(nth fNames i.d).1=fnAt i.d:=by unfold nth fnAt;split<;>rfl
    rw [this]
  rw [if_neg h8]
  refine brd (fun h12=>?_) (fun h12=>?_)
  · rw [if_pos h12]
    obtain ⟨q1,q2,q3,q4⟩:=fields_of (x:=106) (y:=114) (z:=114) (u:=109) (by rw [h12];decide) hf
    refine ⟨_,bi.cell rfl,_,bi.cell rfl,(fits_spec bp hr (field_r q2)).mono ?_⟩
    rintro _ u' ⟨rfl,hu⟩
    obtain rfl:w1=u':=hu.symm
    refine ⟨_,rfl,cbool (fun hq2=>?_) (fun hq2=>⟨by simp [hq2],e1⟩)⟩
    refine ⟨_,bi.cell rfl,_,bi.cell rfl,(fits_spec bp hr (field_r q3)).mono ?_⟩
    rintro _ u' ⟨rfl,hu⟩
    obtain rfl:w1=u':=hu.symm
    exact ⟨_,rfl,by simp [hq2],e1⟩
  rw [if_neg h12]
  refine ⟨fun x u=>x=decide (i.op=14\/i.op=16)/\u=w1,?_,?_⟩
  rotate_left
  · exact brd (fun h=>⟨by simp [h],rfl⟩) (fun h=>⟨by simp [h],rfl⟩)
  rintro x u ⟨rfl,hu⟩
  obtain rfl:w1=u:=hu.symm
  refine brd (fun h14=>?_) (fun h14=>?_)
  · rw [if_pos h14]
    obtain ⟨q1,q2,q3,q4⟩:=fields_of (x:=105) (y:=106) (z:=114) (u:=109) (by rcases h14 with h|h<;>rw [h]<;>decide) hf
    refine ⟨_,bi.cell rfl,_,bi.cell rfl,(fits_spec bp hr (field_r q3)).mono ?_⟩
    rintro _ u' ⟨rfl,hu⟩
    obtain rfl:w1=u':=hu.symm
    exact ⟨_,rfl,rfl,e1⟩
  rw [if_neg h14]
  refine brd (fun h18=>?_) (fun h18=>?_)
  · rw [if_pos h18]
    exact ⟨_,bi.cell rfl,rfl,e1⟩
  rw [if_neg h18]
  refine brd (fun h23=>?_) (fun h23=>?_)
  · rw [if_pos h23]
    obtain ⟨q1,q2,q3,q4⟩:=fields_of (x:=114) (y:=115) (z:=120) (u:=45) (by rw [h23];decide) hf
    have hs:=field_s q2
    obtain ⟨ad,hA,A,c,hcell⟩:=srtAt_imm h hs
    exact ⟨fun u=>Ext w1 u,Fr.drew NoB w1,_,fun u e=>(bi.ext e).cell rfl,_,_,_,fun u e=>(bp.ext e).cell rfl,_,fun u e=>(bi.ext e).cell rfl,ad,hA,⟨hs.1,hs.2⟩,_,fun u e=>hcell u (e1.trans' e) 1 _ rfl,rfl,e1.drew⟩
  rw [if_neg h23]
  refine brd (fun h20=>?_) (fun h20=>?_)
  · rw [if_pos h20]
    obtain ⟨q1,q2,q3,q4⟩:=fields_of (x:=115) (y:=114) (z:=114) (u:=45) (by rw [h20];decide) hf
    have hs:=field_s q1
    obtain ⟨ad,hA,A,c,hcell⟩:=srtAt_imm h hs
    have ed:Ext w1 w1.drew:=Fr.drew NoB w1
    refine ⟨fun u=>Ext w1 u,ed,_,fun u e=>(bi.ext e).cell rfl,_,_,_,fun u e=>(bp.ext e).cell rfl,_,fun u e=>(bi.ext e).cell rfl,ad,hA,⟨hs.1,hs.2⟩,_,_,_,fun u e=>hcell u (e1.trans' e) 0 _ rfl,(fits_spec (bp.ext ed) hr (field_r q2)).mono ?_⟩
    rintro _ u' ⟨rfl,hu⟩
    obtain rfl:w1.drew=u':=hu.symm
    refine ⟨_,rfl,ed,cbool (fun hq2=>?_) (fun hq2=>⟨by simp [hq2],e1.drew⟩)⟩
    refine ⟨fun u=>Ext w1 u,ed,_,fun u e=>(bi.ext e).cell rfl,_,_,_,fun u e=>(bp.ext e).cell rfl,_,fun u e=>(bi.ext e).cell rfl,ad,hA,⟨hs.1,hs.2⟩,_,fun u e=>hcell u (e1.trans' e) 1 _ rfl,(fits_spec (bp.ext ed) hr (field_r q3)).mono ?_⟩
    rintro _ u' ⟨rfl,hu⟩
    obtain rfl:w1.drew=u':=hu.symm
    exact ⟨_,rfl,ed,ed,by simp [hq2],e1.drew⟩
  rw [if_neg h20]
  refine brd (fun h27=>?_) (fun h27=>?_)
  · rw [if_pos h27]
    obtain ⟨q1,q2,q3,q4⟩:=fields_of (x:=114) (y:=45) (z:=45) (u:=45) (by rw [h27];decide) hf
    refine ⟨_,bi.cell rfl,_,_,_,bp.cell rfl,(fits_spec bp hr (field_r q1)).mono ?_⟩
    rintro _ u' ⟨rfl,hu⟩
    obtain rfl:w1=u':=hu.symm
    exact ⟨_,rfl,rfl,e1⟩
  rw [if_neg h27]
  refine ⟨fun x u=>x=decide (i.op=31\/i.op=32\/i.op=33\/i.op=34)/\u=w1,?_,?_⟩
  · rintro x u ⟨rfl,hu⟩
    obtain rfl:w1=u:=hu.symm
    refine brd (fun h31=>?_) (fun h31=>?_)
    · rw [if_pos h31]
      refine brd (fun h0=>?_) (fun h0=>⟨by rw [decide_eq_false h0];rfl,e1⟩)
      exact ⟨_,_,_,bp.cell rfl,by rw [decide_eq_true h0,Bool.true_and];congr 1;apply decide_eq_decide.2;omega,e1⟩
    · rw [if_neg h31];exact ⟨rfl,e1⟩
  · refine brd (fun h=>⟨by simp [h],rfl⟩) (fun ha=>brd (fun h=>⟨by simp [h],rfl⟩) (fun hb=>brd (fun h=>⟨by simp [h],rfl⟩) (fun hc=>⟨by simp [ha,hb,hc],rfl⟩)))
end
end Go.Proofs.YtaifphjenebgoaaGreatDoor
set_option linter.unusedVariables false
set_option linter.unusedSimpArgs false
namespace Go.Proofs.YtaifphjenebgoaaGreatDoor
open Go Go.Sx R1 K15
theorem lookS_or (o:Int):∀ l:List (Int×List UInt8),lookS l o=[]\/∃ q∈l,lookS l o=q.2
  | []=>.inl rfl
  | (k,x)::r=>by
    rw [lookS]
    split
    · exact .inr ⟨(k,x),by simp,rfl⟩
    · rcases lookS_or o r with h|⟨q,hq,h⟩
      · exact .inl h
      · exact .inr ⟨q,by simp [hq],h⟩
def four:List UInt8->Bool
  | [x,y,z,u]=>letters.contains (x.toNat:Int) && (letters.contains (y.toNat:Int) && (letters.contains (z.toNat:Int) && letters.contains (u.toNat:Int)))
  | _=>false
theorem shapes_four:shapes.all (fun q=>four q.2)=true:=by decide
theorem shape_four (o:Int):shapeP o=[]\/∃ x y z u:UInt8,shapeP o=[x,y,z,u]/\(x.toNat:Int)∈letters/\(y.toNat:Int)∈letters/\(z.toNat:Int)∈letters/\(u.toNat:Int)∈letters:=by
  rcases lookS_or o shapes with h|⟨q,hq,h⟩
  · exact .inl h
  · have e:=List.all_eq_true.1 shapes_four q hq
    right
    rw [show shapeP o=q.2 from h]
    generalize q.2=l at e
    match l,e with
    | [a,b,c,d],e =>
      simp only [four,Bool.and_eq_true,List.contains_iff_mem] at e
      exact ⟨a,b,c,d,rfl,e⟩
theorem bs_get (l:List UInt8) (k:Nat) (b:UInt8) (h:l[k]?=some b):(bs l)[k]?=some b:=by
  obtain ⟨hlt,rfl⟩:=List.getElem?_eq_some_iff.1 h
  have h1:k<(bs l).size:=by simpa [bs,ByteArray.size] using hlt
  rw [getElem?_pos (bs l) k h1]
  congr 1
def nums (i:Ins):List Int:=[i.a,i.b,i.c,i.d]
def fieldsFrom (p:Prog) (t:Int):List UInt8->List Int->Bool
  | x::l,n::r=>fieldP p t x.toNat n && fieldsFrom p t l r
  | _,_=>true
theorem fieldsFrom_eq {p:Prog} {t:Int} {i:Ins} {x y z u:UInt8} (h:shapeP i.op=[x,y,z,u]):fieldsFrom p t [x,y,z,u] (nums i)=fieldsP p t i:=by
  unfold fieldsP;rw [h];simp [fieldsFrom,nums,fieldsL]
section
variable {w:World} {p:Prog} {a:PAd}
theorem okFrom_drop (p:Prog) (l:List Ins) (t:Nat) (h:t<l.length):okFrom p t (l.drop t)=(okAt p t l[t] && okFrom p (t+1) (l.drop (t+1))):=by
  rw [List.drop_eq_getElem_cons h,okFrom]
set_option maxRecDepth 20000 in
theorem Check_spec (h:PIm w p a) (hT:Tab w):CallsV Tryz.prog 12 #[pagg p a] w fun r w'=>r=.int .i64 (if checkP p then 0 else 140)/\Ext w w':=by
  refine code_Check.calls okay ?_
  unfold code_Check.W
  intro g wa fa
  have cell:∀ u,Ext wa u->∀ (j:Nat) (v:Value),(pcs p a)[j]?=some v->u.cell? ((⟨g,0,none⟩:Addr).add j)=some v:=fun u e j v hv=>(fa.blk.ext e).cell (by simpa using hv)
  have er:Ext wa wa:=.refl _ _
  refine ⟨_,cell wa er 0 _ rfl,_,cell wa er 1 _ rfl,_,cell wa er 2 _ rfl,_,_,_,cell wa er 3 _ rfl,_,_,_,cell wa er 4 _ rfl,_,_,_,cell wa er 5 _ rfl,_,_,_,cell wa er 6 _ rfl,_,_,_,cell wa er 7 _ rfl,_,_,_,cell wa er 8 _ rfl,
    (parts_spec (h.ext fa.ext)).mono ?_⟩
  rintro _ w1 ⟨rfl,e1⟩
  have fin:∀ (b:Bool) (u:World) (x:Int),checkP p=b->Ext wa u->x=(if b then 0 else 140)->(Value.int .i64 x=.int .i64 (if checkP p then 0 else 140)/\Ext w u):=fun b u x hb e hx=>⟨by rw [hb,hx],fa.ext.trans' e⟩
  refine ⟨_,rfl,brnb (fun h0=>fin false _ _ (by simp [checkP,h0]) e1 rfl) (fun h0=>?_)⟩
  refine ⟨_,_,_,cell w1 e1 8 _ rfl,brd (fun h1=>fin false _ _ (by simp [checkP,show ¬ 1<=p.code.length by omega]) e1 rfl) (fun h1=>?_)⟩
  have h1 : 1<=p.code.length:=by omega
  refine ⟨_,_,_,cell w1 e1 8 _ rfl,brd (fun h2=>fin false _ _ (by simp [checkP,show ¬ p.code.length<=4000 by omega]) e1 rfl) (fun h2=>?_)⟩
  have h2:p.code.length<=4000:=by omega
  have hlast:p.code.length-1<p.code.length:=by omega
  obtain ⟨ad,hA,hc⟩:=insAt_imm (h.ext fa.ext) hlast
  have hw:IntKind.i64.wrap ((p.code.length:Int)-1)=(p.code.length:Int)-1:=wi _ (by omega) (by omega)
  refine ⟨_,_,_,cell w1 e1 8 _ rfl,_,_,_,cell w1 e1 8 _ rfl,ad,hA,⟨by rw [hw];omega,by rw [hw];omega⟩,_,by rw [hw,show ((p.code.length:Int)-1).toNat=p.code.length-1 by omega];exact hc w1 e1 0 _ rfl,?_⟩
  have hl:p.code.getD (p.code.length-1) I0=p.code[p.code.length-1]:=by simp [List.getD,hlast]
  refine brn (fun h3=>fin false _ _ (by simp only [checkP,hl,decide_eq_false h3];simp) e1 rfl) (fun h3=>?_)
  clear hc hA
  have hall:checkP p=okFrom p 0 p.code:=by simp only [checkP,hl,h0,decide_eq_true h1,decide_eq_true h2,decide_eq_true h3,Bool.true_and]
  have hr : 0<=p.regs/\p.regs<=250:=by
    simp only [partsP,within,Bool.and_eq_true,decide_eq_true_eq] at h0;omega
  refine ⟨_,_,_,cell w1 e1 8 _ rfl,fun x u=>∃ t:Nat,t<=p.code.length/\x=(t:Int)/\checkP p=okFrom p t (p.code.drop t)/\Ext wa u,fun x _=>((p.code.length:Int)-x).toNat,⟨0,by omega,rfl,by rw [hall];rfl,e1⟩,?_⟩
  rintro _ u ⟨t,ht,rfl,hq,e⟩
  refine brd (fun hlt=>?_) (fun hge=>?_)
  rotate_left
  · obtain rfl:t=p.code.length:=by omega
    rw [List.drop_length] at hq
    exact fin true _ _ hq e rfl
  have hlt:t<p.code.length:=by omega
  rw [okFrom_drop p p.code t hlt] at hq
  obtain ⟨ad,hA,hc⟩:=insAt_imm (h.ext fa.ext) hlt
  refine ⟨ad,hA,⟨by omega,by omega⟩,_,by rw [Int.toNat_natCast];exact hc u e 0 _ rfl,_,by rw [Int.toNat_natCast];exact hc u e 1 _ rfl,_,by rw [Int.toNat_natCast];exact hc u e 2 _ rfl,_,by rw [Int.toNat_natCast];exact hc u e 3 _ rfl,_,by rw [Int.toNat_natCast];exact hc u e 4 _ rfl,?_⟩
  intro g1 wb fb
  refine ⟨fb.blk.stOK [_,_,_,_,_] 0 (by simp),fun wc hwc=>?_⟩
  have bi:Blk wc g1 [.int .u8 p.code[t].op,.int .i64 p.code[t].a,.int .i64 p.code[t].b,.int .i64 p.code[t].c,.int .i64 p.code[t].d]:=by rw [hwc];exact Blk.setAll (o:=0) [_,_,_,_,_] 0 fb.blk
  have ec:Ext wa wc:=by rw [hwc];exact Ext.setAll (e.trans' fb.ext) (Nat.le_trans e.size fb.ge) _ _
  clear hwc fb hc hA
  generalize hi:p.code[t]=i at *
  refine ⟨_,bi.cell rfl,(shape_spec wc i.op).mono ?_⟩
  rintro _ wd ⟨rfl,ed⟩
  have e':=ec.trans' ed
  refine ⟨_,rfl,?_⟩
  rcases shape_four i.op with hs|⟨x,y,z,v,hs,m1,m2,m3,m4⟩
  · rw [hs]
    refine brS (l:=[]) (l':=[]) (fun _=>fin false _ _ ?_ e' rfl) (fun h=>absurd rfl h)
    rw [hq]
    simp [okAt,fieldsP,hs,fieldsL]
  rw [hs]
  refine brS (l:=[x,y,z,v]) (l':=[]) (fun h=>by cases h) (fun _=>?_)
  have bi:=bi.ext ed
  refine ⟨_,bi.cell rfl,_,bi.cell rfl,_,bi.cell rfl,_,bi.cell rfl,?_⟩
  have hfe:=fieldsFrom_eq (p:=p) (t:=(t:Int)) hs
  refine ⟨fun x' u=>∃ k:Nat,k<=4/\x'=(k:Int)/\fieldsP p t i=fieldsFrom p t ([x,y,z,v].drop k) ((nums i).drop k)/\Ext wa u,fun x' _=>(4-x').toNat,⟨0,by omega,rfl,by rw [<- hfe];rfl,e'⟩,?_⟩
  rintro _ u1 ⟨k,hk,rfl,hf,e2⟩
  have cells:∀ (Kp:World->Prop),Kp u1->True:=fun _ _=>trivial
  have go:∀ (k:Nat) (l:UInt8) (n:Int) (u2:World),[x,y,z,v][k]?=some l->(nums i)[k]?=some n->(l.toNat:Int)∈letters->Ext wa u2->k<4->fieldsP p t i=fieldsFrom p t ([x,y,z,v].drop k) ((nums i).drop k) ->
      CallsV Tryz.prog 47 #[pagg p a,.int .i64 t,.int .u8 (l.toNat:Int),.int .i64 n] u2 fun r w'=>∃ b,r=.bool b/\(b=false->checkP p=false)/\(b=true->fieldsP p t i=fieldsFrom p t ([x,y,z,v].drop (k+1)) ((nums i).drop (k+1)))/\Ext wa w':=by
    intro k l n u2 hl hn hm e3 hk hf
    refine (field_spec ((h.ext fa.ext).ext e3) t l.toNat n hm).mono ?_
    rintro _ u3 ⟨rfl,e4⟩
    obtain ⟨hlt1,rfl⟩:=List.getElem?_eq_some_iff.1 hl
    obtain ⟨hlt2,rfl⟩:=List.getElem?_eq_some_iff.1 hn
    rw [List.drop_eq_getElem_cons hlt1,List.drop_eq_getElem_cons hlt2,fieldsFrom] at hf
    refine ⟨_,rfl,fun hb=>?_,fun hb=>?_,e3.trans' e4⟩
    · rw [hq,okAt,hf,hb];simp
    · rw [hf,hb,Bool.true_and]
  refine brd (fun hk4=>?_) (fun hk4=>?_)
  · refine ⟨⟨by omega,by omega⟩,?_⟩
    have ez:=e2.drew
    have cell':∀ u,Ext wa u->∀ (j:Nat) (v:Value),(pcs p a)[j]?=some v->u.cell? ((⟨g,0,none⟩:Addr).add j)=some v:=cell
    have rest:∀ (k:Nat) (l:UInt8) (n:Int) (b0:Bool),k<4->True:=fun _ _ _ _ _=>trivial
    refine brd (fun hk0=>?_) (fun hk0=>brd (fun hk1=>?_) (fun hk1=>brd (fun hk2=>?_) (fun hk2=>brd (fun hk3=>?_) (fun hk3=>by omega))))
    · obtain rfl:k=0:=by omega
      refine ⟨fun u=>Ext wa u,ez,_,fun u e=>cell u e 0 _ rfl,_,fun u e=>cell u e 1 _ rfl,_,fun u e=>cell u e 2 _ rfl,_,_,_,fun u e=>cell u e 3 _ rfl,_,_,_,fun u e=>cell u e 4 _ rfl,_,_,_,fun u e=>cell u e 5 _ rfl,_,_,_,fun u e=>cell u e 6 _ rfl,_,_,_,fun u e=>cell u e 7 _ rfl,_,_,_,fun u e=>cell u e 8 _ rfl,
        _,⟨by omega,bs_get _ _ x (by rfl)⟩,(go 0 x i.a _ rfl rfl m1 ez (by omega) hf).mono ?_⟩
      rintro _ u3 ⟨b,rfl,hb1,hb2,e3⟩
      refine ⟨_,rfl,brnb (fun hb=>fin false _ _ (hb1 hb) e3 rfl) (fun hb=>⟨⟨1,by omega,rfl,hb2 hb,e3⟩,by dsimp only;decide⟩)⟩
    · obtain rfl:k=1:=by omega
      refine ⟨fun u=>Ext wa u,ez,_,fun u e=>cell u e 0 _ rfl,_,fun u e=>cell u e 1 _ rfl,_,fun u e=>cell u e 2 _ rfl,_,_,_,fun u e=>cell u e 3 _ rfl,_,_,_,fun u e=>cell u e 4 _ rfl,_,_,_,fun u e=>cell u e 5 _ rfl,_,_,_,fun u e=>cell u e 6 _ rfl,_,_,_,fun u e=>cell u e 7 _ rfl,_,_,_,fun u e=>cell u e 8 _ rfl,
        _,⟨by omega,bs_get _ _ y (by rfl)⟩,(go 1 y i.b _ rfl rfl m2 ez (by omega) hf).mono ?_⟩
      rintro _ u3 ⟨b,rfl,hb1,hb2,e3⟩
      refine ⟨_,rfl,brnb (fun hb=>fin false _ _ (hb1 hb) e3 rfl) (fun hb=>⟨⟨2,by omega,rfl,hb2 hb,e3⟩,by dsimp only;decide⟩)⟩
    · obtain rfl:k=2:=by omega
      refine ⟨fun u=>Ext wa u,ez,_,fun u e=>cell u e 0 _ rfl,_,fun u e=>cell u e 1 _ rfl,_,fun u e=>cell u e 2 _ rfl,_,_,_,fun u e=>cell u e 3 _ rfl,_,_,_,fun u e=>cell u e 4 _ rfl,_,_,_,fun u e=>cell u e 5 _ rfl,_,_,_,fun u e=>cell u e 6 _ rfl,_,_,_,fun u e=>cell u e 7 _ rfl,_,_,_,fun u e=>cell u e 8 _ rfl,
        _,⟨by omega,bs_get _ _ z (by rfl)⟩,(go 2 z i.c _ rfl rfl m3 ez (by omega) hf).mono ?_⟩
      rintro _ u3 ⟨b,rfl,hb1,hb2,e3⟩
      refine ⟨_,rfl,brnb (fun hb=>fin false _ _ (hb1 hb) e3 rfl) (fun hb=>⟨⟨3,by omega,rfl,hb2 hb,e3⟩,by dsimp only;decide⟩)⟩
    · obtain rfl:k=3:=by omega
      refine ⟨fun u=>Ext wa u,ez,_,fun u e=>cell u e 0 _ rfl,_,fun u e=>cell u e 1 _ rfl,_,fun u e=>cell u e 2 _ rfl,_,_,_,fun u e=>cell u e 3 _ rfl,_,_,_,fun u e=>cell u e 4 _ rfl,_,_,_,fun u e=>cell u e 5 _ rfl,_,_,_,fun u e=>cell u e 6 _ rfl,_,_,_,fun u e=>cell u e 7 _ rfl,_,_,_,fun u e=>cell u e 8 _ rfl,
        _,⟨by omega,bs_get _ _ v (by rfl)⟩,(go 3 v i.d _ rfl rfl m4 ez (by omega) hf).mono ?_⟩
      rintro _ u3 ⟨b,rfl,hb1,hb2,e3⟩
      refine ⟨_,rfl,brnb (fun hb=>fin false _ _ (hb1 hb) e3 rfl) (fun hb=>⟨⟨4,by omega,rfl,hb2 hb,e3⟩,by dsimp only;decide⟩)⟩
  · obtain rfl:k=4:=by omega
    have hf1:fieldsP p t i=true:=hf
    refine ⟨_,cell u1 e2 0 _ rfl,_,cell u1 e2 1 _ rfl,_,cell u1 e2 2 _ rfl,_,_,_,cell u1 e2 3 _ rfl,_,_,_,cell u1 e2 4 _ rfl,_,_,_,cell u1 e2 5 _ rfl,_,_,_,cell u1 e2 6 _ rfl,_,_,_,cell u1 e2 7 _ rfl,_,_,_,cell u1 e2 8 _ rfl,
      (runs_spec ((h.ext fa.ext).ext e2) (hT.ext (fa.ext.trans' e2)) hlt hr (by rw [hi];exact hf1)).mono ?_⟩
    rintro _ u3 ⟨rfl,e3⟩
    rw [hi]
    have e3:=e2.trans' e3
    refine ⟨_,rfl,brnb (fun hb=>fin false _ _ (by rw [hq,okAt,hb];simp) e3 rfl) (fun hb=>?_)⟩
    rw [wi _ (by omega) (by omega)]
    refine ⟨⟨t+1,by omega,by omega,by rw [hq,okAt,hf1,hb];simp,e3⟩,?_⟩
    dsimp only;omega
end
end Go.Proofs.YtaifphjenebgoaaGreatDoor
set_option linter.unusedVariables false
set_option linter.unusedSimpArgs false
namespace Go.Proofs.YtaifphjenebgoaaGreatDoor
open Go Go.Sx R1 K15
abbrev insC (i:Ins):List Value:=[.int .u8 i.op,.int .i64 i.a,.int .i64 i.b,.int .i64 i.c,.int .i64 i.d]
set_option maxRecDepth 10000 in
theorem Great_spec {w:World} {p:Prog} {a:PAd} (h:PIm w p a):CallsV Tryz.prog 6 #[pagg p a] w fun r w'=>∃ b,r=.bool b/\Ext w w':=by
  have m1:=h.l1
  have m2:=h.l2
  have m3:=h.l3
  have m4:=h.l4
  have m5:=h.l5
  simp only [maxLen] at m1 m2 m3 m4 m5
  refine cardindexlaw15_Great.calls okay ?_
  unfold cardindexlaw15_Great.W
  intro g w1 f
  have bp:=f.blk
  have h:=h.ext f.ext
  have e1:=f.ext
  repeat (first|refine ⟨_,Blk.cell (bp) (by rfl),?_⟩|refine ⟨_,_,_,Blk.cell (bp) (by rfl),?_⟩)
  refine brd (fun _=>⟨_,rfl,e1⟩) (fun _=>?_)
  repeat (first|refine ⟨_,Blk.cell (bp) (by rfl),?_⟩|refine ⟨_,_,_,Blk.cell (bp) (by rfl),?_⟩)
  refine brd (fun _=>⟨_,rfl,e1⟩) (fun _=>?_)
  repeat (first|refine ⟨_,Blk.cell (bp) (by rfl),?_⟩|refine ⟨_,_,_,Blk.cell (bp) (by rfl),?_⟩)
  refine brd (fun _=>⟨_,rfl,e1⟩) (fun _=>?_)
  repeat (first|refine ⟨_,Blk.cell (bp) (by rfl),?_⟩|refine ⟨_,_,_,Blk.cell (bp) (by rfl),?_⟩)
  refine ⟨fun x y u=>∃ k:Nat,k<=p.names.length/\y=(k:Int)/\u=w1,fun x y u=>((p.names.length:Int)-y).toNat,⟨0,by omega,rfl,rfl⟩,?_⟩
  rintro x _ u ⟨k,hk,rfl,hu⟩
  obtain rfl:w1=u:=hu.symm
  refine brd (fun hlt=>?_) (fun _=>?_)
  · repeat (first|refine ⟨_,Blk.cell (bp) (by rfl),?_⟩|refine ⟨_,_,_,Blk.cell (bp) (by rfl),?_⟩)
    obtain ⟨ad,hA,cs,hrep,hc⟩:=h.names.get1 (show k<p.names.length by omega)
    have hcs:cs=[.string p.names[k]]:=hrep
    subst hcs
    rw [wi ((k:Int)+1) (by omega) (by omega)]
    exact ⟨ad,hA,⟨by omega,by omega⟩,_,hc 0 _ rfl,⟨k+1,by omega,by omega,rfl⟩,by dsimp only;omega⟩
  repeat (first|refine ⟨_,Blk.cell (bp) (by rfl),?_⟩|refine ⟨_,_,_,Blk.cell (bp) (by rfl),?_⟩)
  refine ⟨fun x y u=>∃ k:Nat,k<=p.consts.length/\y=(k:Int)/\u=w1,fun x y u=>((p.consts.length:Int)-y).toNat,⟨0,by omega,rfl,rfl⟩,?_⟩
  rintro x _ u ⟨k,hk,rfl,hu⟩
  obtain rfl:w1=u:=hu.symm
  refine brd (fun hlt=>?_) (fun _=>?_)
  · repeat (first|refine ⟨_,Blk.cell (bp) (by rfl),?_⟩|refine ⟨_,_,_,Blk.cell (bp) (by rfl),?_⟩)
    obtain ⟨ad,hA,cs,hrep,hc⟩:=h.consts.get1 (show k<p.consts.length by omega)
    have hcs:cs=vc p.consts[k]:=hrep
    subst hcs
    rw [wi ((k:Int)+1) (by omega) (by omega)]
    exact ⟨ad,hA,⟨by omega,by omega⟩,_,by rw [add_add];exact hc 2 _ rfl,⟨k+1,by omega,by omega,rfl⟩,by dsimp only;omega⟩
  repeat (first|refine ⟨_,Blk.cell (bp) (by rfl),?_⟩|refine ⟨_,_,_,Blk.cell (bp) (by rfl),?_⟩)
  refine ⟨fun x y u=>∃ k:Nat,k<=p.curs.length/\y=(k:Int)/\u=w1,fun x y u=>((p.curs.length:Int)-y).toNat,⟨0,by omega,rfl,rfl⟩,?_⟩
  rintro x _ u ⟨k,hk,rfl,hu⟩
  obtain rfl:w1=u:=hu.symm
  refine brd (fun hlt=>?_) (fun _=>?_)
  · repeat (first|refine ⟨_,Blk.cell (bp) (by rfl),?_⟩|refine ⟨_,_,_,Blk.cell (bp) (by rfl),?_⟩)
    obtain ⟨ad,hA,cs,hrep,hc⟩:=h.curs.get1 (show k<p.curs.length by omega)
    have hcs:cs=[.string p.curs[k].name,.bool p.curs[k].ix,.bool p.curs[k].wr]:=hrep
    subst hcs
    rw [wi ((k:Int)+1) (by omega) (by omega)]
    exact ⟨ad,hA,⟨by omega,by omega⟩,_,by rw [add_add];exact hc 0 _ rfl,⟨k+1,by omega,by omega,rfl⟩,by dsimp only;omega⟩
  repeat (first|refine ⟨_,Blk.cell (bp) (by rfl),?_⟩|refine ⟨_,_,_,Blk.cell (bp) (by rfl),?_⟩)
  refine ⟨fun x y u=>∃ k:Nat,k<=p.sorts.length/\y=(k:Int)/\u=w1,fun x y u=>((p.sorts.length:Int)-y).toNat,⟨0,by omega,rfl,rfl⟩,?_⟩
  rintro x _ u ⟨k,hk,rfl,hu⟩
  obtain rfl:w1=u:=hu.symm
  refine brd (fun hlt=>?_) (fun _=>?_)
  · repeat (first|refine ⟨_,Blk.cell (bp) (by rfl),?_⟩|refine ⟨_,_,_,Blk.cell (bp) (by rfl),?_⟩)
    obtain ⟨ad,hA,cs,hrep,hc⟩:=h.sorts.get1 (show k<p.sorts.length by omega)
    obtain ⟨B,d,hcs,_⟩:=id hrep
    subst hcs
    rw [wi ((k:Int)+1) (by omega) (by omega)]
    exact ⟨ad,hA,⟨by omega,by omega⟩,_,_,_,by rw [add_add];exact hc 0 _ rfl,⟨k+1,by omega,by omega,rfl⟩,by dsimp only;omega⟩
  repeat (first|refine ⟨_,Blk.cell (bp) (by rfl),?_⟩|refine ⟨_,_,_,Blk.cell (bp) (by rfl),?_⟩)
  refine ⟨fun x y u=>∃ k:Nat,k<=p.tots.length/\y=(k:Int)/\u=w1,fun x y u=>((p.tots.length:Int)-y).toNat,⟨0,by omega,rfl,rfl⟩,?_⟩
  rintro x _ u ⟨k,hk,rfl,hu⟩
  obtain rfl:w1=u:=hu.symm
  refine brd (fun hlt=>?_) (fun _=>⟨_,rfl,e1⟩)
  repeat (first|refine ⟨_,Blk.cell (bp) (by rfl),?_⟩|refine ⟨_,_,_,Blk.cell (bp) (by rfl),?_⟩)
  obtain ⟨ad,hA,cs,hrep,hc⟩:=h.tots.get1 (show k<p.tots.length by omega)
  have hcs:cs=[.string p.tots[k].fn,.bool p.tots[k].dist]:=hrep
  subst hcs
  rw [wi ((k:Int)+1) (by omega) (by omega)]
  exact ⟨ad,hA,⟨by omega,by omega⟩,_,by rw [add_add];exact hc 0 _ rfl,⟨k+1,by omega,by omega,rfl⟩,by dsimp only;omega⟩
def oWords:ByteArray:=ByteArray.mk #[99,111,110,115,116,32,98,105,110,100,32,109,111,118,101,32,116,119,111,32,111,110,101,32,105,115,32,99,97,115,116,32,99,97,108,108,32,109,117,115,116,32,106,117,109,112,32,105,102,32,100,105,102,102,101,114,32,102,105,114,115,116,32,115,101,101,107,32,110,101,120,116,32,112,97,115,116,32,102,105,110,100,32,99,111,108,32,114,111,119,105,100,32,97,100,100,32,115,111,114,116,101,100,32,97,102,116,101,114,32,116,97,107,101,32,99,108,101,97,114,32,115,116,101,112,32,116,111,116,97,108,32,114,111,119,32,110,101,119,105,100,32,105,110,115,101,114,116,32,100,101,108,101,116,101,32,100,101,102,105,110,101,32,98,101,103,105,110,32,99,111,109,109,105,116,32,98,97,99,107,32,104,97,108,116]
theorem oField:nth (Lib.fields (sb oWords)) 3=([116,119,111],true):=by decide +kernel
theorem oAscii:∀ b∈sb oWords,b.toNat<128:=by decide +kernel
theorem WordTwo_spec {w:World} (hT:Tab w):CallsV Tryz.prog 23 #[.int .u8 4] w fun r w'=>r=.string (bs [116,119,111])/\Ext w w':=by
  refine code_Word.calls okay ?_
  unfold code_Word.W
  rw [show IntKind.i64.wrap (IntKind.i64.wrap 4-1)=3 by decide]
  refine (named_spec hT oWords (by decide +kernel) oAscii 3).mono ?_
  rw [oField]
  rintro _ w1 ⟨rfl,e⟩
  exact ⟨_,_,rfl,rfl,e⟩
theorem Itoa_spec (w:World) (i:Nat) (hi:i<10):CallsV Tryz.prog 61 #[.int .i64 i] w fun r w'=>r=.string (bs [UInt8.ofNat (48+i)])/\w'=w:=by
  refine Calls.mono (Tryz.strconv_Itoa_small i (by omega) w) ?_
  rintro e w' ⟨he,hw⟩
  rw [Lib.decDigits,dif_pos hi] at he
  exact ⟨_,he,rfl,hw⟩
def preS:List (List UInt8):=[[116,119,111],[116,119,111,32,50],[116,119,111,32,50,32,48],[116,119,111,32,50,32,48,32,49],[116,119,111,32,50,32,48,32,49,32,54]]
abbrev iTwo:Ins:=⟨4,2,0,1,6⟩
theorem ShowTwo_spec {w:World} (hT:Tab w):CallsV Tryz.prog 21 #[.agg #[.int .u8 4,.int .i64 2,.int .i64 0,.int .i64 1,.int .i64 6]] w fun r w'=>r=.string (bs [116,119,111,32,50,32,48,32,49,32,54])/\Ext w w':=by
  refine code_Show.calls okay ?_
  unfold code_Show.W
  intro g w1 f
  have b:Blk w1 g (insC iTwo):=f.blk
  repeat (first|refine ⟨_,Blk.cell (b) (by rfl),?_⟩|refine ⟨_,_,_,Blk.cell (b) (by rfl),?_⟩)
  refine (WordTwo_spec (hT.ext f.ext)).mono ?_
  rintro _ w2 ⟨rfl,k2⟩
  have e2:=f.ext.trans' k2
  have b:=b.ext k2
  clear f
  refine ⟨_,rfl,fun x u=>x=bs [116,119,111]/\u=w2,?_,brS (fun h=>absurd h (by decide)) (fun _=>⟨rfl,rfl⟩)⟩
  rintro x u ⟨rfl,hu⟩
  subst hu
  repeat (first|refine ⟨_,Blk.cell (b) (by rfl),?_⟩|refine ⟨_,_,_,Blk.cell (b) (by rfl),?_⟩)
  refine ⟨fun x y v=>∃ k:Nat,k<=4/\y=(k:Int)/\x=bs (preS.getD k [])/\v=u,fun x y v=>(4-y).toNat,⟨0,by omega,rfl,rfl,rfl⟩,?_⟩
  rintro x _ v ⟨k,hk,rfl,rfl,hv⟩
  subst hv
  refine brd (fun hlt=>⟨⟨by omega,by omega⟩,?_⟩) (fun hge=>?_)
  · refine brd (fun h=>?_) (fun n0=>brd (fun h=>?_) (fun n1=>brd (fun h=>?_) (fun n2=>brd (fun h=>?_) (fun n3=>by omega))))
    · obtain rfl:k=0:=by omega
      refine (Itoa_spec v 2 (by omega)).mono ?_
      rintro _ v1 ⟨rfl,hv⟩
      exact ⟨_,rfl,by decide,by decide,⟨1,by omega,rfl,rfl,hv⟩,by dsimp only;decide⟩
    · obtain rfl:k=1:=by omega
      refine (Itoa_spec v 0 (by omega)).mono ?_
      rintro _ v1 ⟨rfl,hv⟩
      exact ⟨_,rfl,by decide,by decide,⟨2,by omega,rfl,rfl,hv⟩,by dsimp only;decide⟩
    · obtain rfl:k=2:=by omega
      refine (Itoa_spec v 1 (by omega)).mono ?_
      rintro _ v1 ⟨rfl,hv⟩
      exact ⟨_,rfl,by decide,by decide,⟨3,by omega,rfl,rfl,hv⟩,by dsimp only;decide⟩
    · obtain rfl:k=3:=by omega
      refine (Itoa_spec v 6 (by omega)).mono ?_
      rintro _ v1 ⟨rfl,hv⟩
      exact ⟨_,rfl,by decide,by decide,⟨4,by omega,rfl,rfl,hv⟩,by dsimp only;decide⟩
  · obtain rfl:k=4:=by omega
    exact ⟨rfl,e2⟩
end Go.Proofs.YtaifphjenebgoaaGreatDoor
