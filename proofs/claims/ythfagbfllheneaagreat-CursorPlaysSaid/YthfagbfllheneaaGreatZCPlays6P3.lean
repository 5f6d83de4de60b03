/- Part 3 of the texts of this claim: the engine, contracts, plain laws. -/
import Derived.Test.YthfagbfllheneaaGreatProg
import Derived.Test.YthfagbfllheneaaGreatZCPlays6P1
import Derived.Test.YthfagbfllheneaaGreatZCPlays6P2
import Derived.Lib.Bytealg
import Derived.Lib.BytesEntry
import Derived.Laws.Externs
set_option linter.unusedVariables false
set_option maxRecDepth 100000
namespace Go.Proofs.YthfagbfllheneaaGreat
open Go Go.Sx Value IntKind World Addr Builtin
noncomputable def slices_Clone_byte_byte.W:Option Addr->Nat->Nat->World->(Value->World->Prop)->Prop:=fun s_A s_n s_c w K=>bif Option.isNone s_A then K (slice none 0 0) w else ∀ g
 w',Fresh w g w' [] 5->∃ x x_1 x_2 w'_1,RunsTo Tryz.prog (append_ (Array.mk [30,30]) 30 #[slice (some (mk g 0 none)) 0 0,slice s_A s_n s_c]) w' (slice x x_1 x_2) w'_1/\K (slice x x_1
 x_2) w'_1
theorem slices_Clone_byte_byte.calls (ok:Okay Tryz.prog) {s_A s_n s_c w K} (h:slices_Clone_byte_byte.W s_A s_n s_c w K):CallsV Tryz.prog 91 #[.slice s_A s_n s_c] w K :=
  fnW_calls ok Tryz.func91 (an:=(.named .auto)) (args:=[.slice s_A s_n s_c]) (Eq.mp (by kernel_rfl) h)
noncomputable def slices_Clone_tree_node_tree_node.W:Option Addr->Nat->Nat->World->(Value->World->Prop)->Prop:=fun s_A s_n s_c w K=>bif Option.isNone s_A then K (slice none 0 0) w
 else ∀ g w',Fresh w g w' [] 135->∃ x x_1 x_2 w'_1,RunsTo Tryz.prog (append_ (Array.mk [126,126]) 126 #[slice (some (mk g 0 none)) 0 0,slice s_A s_n s_c]) w' (slice x x_1 x_2) w'_1 /\
 K (slice x x_1 x_2) w'_1
theorem slices_Clone_tree_node_tree_node.calls (ok:Okay Tryz.prog) {s_A s_n s_c w K} (h:slices_Clone_tree_node_tree_node.W s_A s_n s_c w K):CallsV Tryz.prog 94 #[.slice s_A s_n s_c] w K :=
  fnW_calls ok Tryz.func94 (an:=(.named .auto)) (args:=[.slice s_A s_n s_c]) (Eq.mp (by kernel_rfl) h)
noncomputable def slices_Clone_int_int.W:Option Addr->Nat->Nat->World->(Value->World->Prop)->Prop:=fun s_A s_n s_c w K=>bif Option.isNone s_A then K (slice none 0 0) w else ∀ g w',
 Fresh w g w' [] 3->∃ x x_1 x_2 w'_1,RunsTo Tryz.prog (append_ (Array.mk [39,39]) 39 #[slice (some (mk g 0 none)) 0 0,slice s_A s_n s_c]) w' (slice x x_1 x_2) w'_1/\K (slice x x_1
 x_2) w'_1
theorem slices_Clone_int_int.calls (ok:Okay Tryz.prog) {s_A s_n s_c w K} (h:slices_Clone_int_int.W s_A s_n s_c w K):CallsV Tryz.prog 55 #[.slice s_A s_n s_c] w K :=
  fnW_calls ok Tryz.func55 (an:=(.named .auto)) (args:=[.slice s_A s_n s_c]) (Eq.mp (by kernel_rfl) h)
noncomputable def slices_Clone_byte_byte_2.W:Option Addr->Nat->Nat->World->(Value->World->Prop)->Prop:=fun s_A s_n s_c w K=>bif Option.isNone s_A then K (slice none 0 0) w else ∀ g
 w',Fresh w g w' [] 30->∃ x x_1 x_2 w'_1,RunsTo Tryz.prog (append_ (Array.mk [46,46]) 46 #[slice (some (mk g 0 none)) 0 0,slice s_A s_n s_c]) w' (slice x x_1 x_2) w'_1/\K (slice x
 x_1 x_2) w'_1
theorem slices_Clone_byte_byte_2.calls (ok:Okay Tryz.prog) {s_A s_n s_c w K} (h:slices_Clone_byte_byte_2.W s_A s_n s_c w K):CallsV Tryz.prog 107 #[.slice s_A s_n s_c] w K :=
  fnW_calls ok Tryz.func107 (an:=(.named .auto)) (args:=[.slice s_A s_n s_c]) (Eq.mp (by kernel_rfl) h)
noncomputable def slices_Insert_byte_byte.W:Option Addr->Nat->Nat->Int->Option Addr->Nat->Nat->World->(Value->World->Prop)->Prop:=fun s_A s_n s_c i v_A v_n v_c w K=>(0<=i/\i<=(s_n :
 Int))/\bif decide ((v_n:Int)=0) then K (slice s_A s_n s_c) w else bif decide (i=(s_n:Int)) then ∃ x x_1 x_2 w',RunsTo Tryz.prog (append_ (Array.mk [46,46]) 46 #[slice s_A
 s_n s_c,slice v_A v_n v_c]) w (slice x x_1 x_2) w'/\K (slice x x_1 x_2) w' else bif decide ((s_c:Int)<wrap i64 ((s_n:Int)+(v_n:Int))) then (0<=i/\i<=(s_c:Int))/\∃ x x_1 x_2
 w',RunsTo Tryz.prog (append_ (Array.mk [46,3]) 46 #[slice (cutAt s_A s_c 0 1) (Int.toNat i-0) (s_c-0),int i64 (wrap i64 (wrap i64 ((s_n:Int)+(v_n:Int))-i))]) w (slice x x_1 x_2) w'/\(0
 <= i/\i<=(x_1:Int))/\∃ x_3 w'_1,RunsTo Tryz.prog (copy_ (Array.mk [46,46]) 3 #[slice (cutAt x x_2 (Int.toNat i) 1) (x_1-Int.toNat i) (x_2-Int.toNat i),slice v_A v_n v_c]) w' (int i64 x_3)
 w'_1/\(0<=wrap i64 (i+(v_n:Int))/\wrap i64 (i+(v_n:Int))<=(x_1:Int))/\(0<=i/\i<=(s_n:Int))/\∃ x_4 w',RunsTo Tryz.prog (copy_ (Array.mk [46,46]) 3 #[slice (cutAt x x_2 (Int.toNat
 (wrap i64 (i+(v_n:Int)))) 1) (x_1-Int.toNat (wrap i64 (i+(v_n:Int)))) (x_2-Int.toNat (wrap i64 (i+(v_n:Int)))),slice (cutAt s_A s_c (Int.toNat i) 1) (s_n-Int.toNat i) (s_c -
 Int.toNat i)]) (drew w'_1) (int i64 x_4) w'/\K (slice x x_1 x_2) w' else (0<=wrap i64 ((s_n:Int)+(v_n:Int))/\wrap i64 ((s_n:Int)+(v_n:Int))<=(s_c:Int))/\(0<=wrap i64 (i+(v_n :
 Int))/\wrap i64 (i+(v_n:Int))<=(↑(Int.toNat (wrap i64 ((s_n:Int)+(v_n:Int)))-0):Int))/\∃ x w',RunsTo Tryz.prog (callFunc 114 #[slice v_A v_n v_c,slice (cutAt (cutAt s_A s_c 0 1) (s_c
 - 0) (Int.toNat (wrap i64 (i+(v_n:Int)))) 1) (Int.toNat (wrap i64 ((s_n:Int)+(v_n:Int)))-0-Int.toNat (wrap i64 (i+(v_n:Int)))) (s_c-0-Int.toNat (wrap i64 (i+(v_n:Int))))]) w
 (Next.value (bool x)) w'/\bif !x then (0<=wrap i64 (i+(v_n:Int))/\wrap i64 (i+(v_n:Int))<=(↑(Int.toNat (wrap i64 ((s_n:Int)+(v_n:Int)))-0):Int))/\(0<=i/\i<=(↑(Int.toNat (wrap
 i64 ((s_n:Int)+(v_n:Int)))-0):Int))/\∃ x w'_1,RunsTo Tryz.prog (copy_ (Array.mk [46,46]) 3 #[slice (cutAt (cutAt s_A s_c 0 1) (s_c-0) (Int.toNat (wrap i64 (i+(v_n:Int)))) 1)
 (Int.toNat (wrap i64 ((s_n:Int)+(v_n:Int)))-0-Int.toNat (wrap i64 (i+(v_n:Int)))) (s_c-0-Int.toNat (wrap i64 (i+(v_n:Int)))),slice (cutAt (cutAt s_A s_c 0 1) (s_c-0) (Int.toNat
 i) 1) (Int.toNat (wrap i64 ((s_n:Int)+(v_n:Int)))-0-Int.toNat i) (s_c-0-Int.toNat i)]) (drew w') (int i64 x) w'_1/\(0<=i/\i<=(↑(Int.toNat (wrap i64 ((s_n:Int)+(v_n:Int)))-0) :
 Int))/\∃ x w',RunsTo Tryz.prog (copy_ (Array.mk [46,46]) 3 #[slice (cutAt (cutAt s_A s_c 0 1) (s_c-0) (Int.toNat i) 1) (Int.toNat (wrap i64 ((s_n:Int)+(v_n:Int)))-0-Int.toNat i) (s_c-0
 - Int.toNat i),slice v_A v_n v_c]) w'_1 (int i64 x) w'/\K (slice (cutAt s_A s_c 0 1) (Int.toNat (wrap i64 ((s_n:Int)+(v_n:Int)))-0) (s_c-0)) w' else (0<=(s_n:Int)/\(s_n:Int) <=
 (↑(Int.toNat (wrap i64 ((s_n:Int)+(v_n:Int)))-0):Int))/\∃ x w'_1,RunsTo Tryz.prog (copy_ (Array.mk [46,46]) 3 #[slice (cutAt (cutAt s_A s_c 0 1) (s_c-0) (Int.toNat s_n) 1) (Int.toNat
 (wrap i64 ((s_n:Int)+(v_n:Int)))-0-Int.toNat s_n) (s_c-0-Int.toNat s_n),slice v_A v_n v_c]) w' (int i64 x) w'_1/\(0<=i/\i<=(↑(Int.toNat (wrap i64 ((s_n:Int)+(v_n:Int)))-0) :
 Int))/\CallsV Tryz.prog 115 #[slice (cutAt (cutAt s_A s_c 0 1) (s_c-0) (Int.toNat i) 1) (Int.toNat (wrap i64 ((s_n:Int)+(v_n:Int)))-0-Int.toNat i) (s_c-0-Int.toNat i),int i64 (v_n :
 Int)] w'_1 fun v w'=>v=tuple #[]/\K (slice (cutAt s_A s_c 0 1) (Int.toNat (wrap i64 ((s_n:Int)+(v_n:Int)))-0) (s_c-0)) w'
theorem slices_Insert_byte_byte.calls (ok:Okay Tryz.prog) {s_A s_n s_c i v_A v_n v_c w K} (h:slices_Insert_byte_byte.W s_A s_n s_c i v_A v_n v_c w K):CallsV Tryz.prog 108 #[.slice s_A s_n s_c,.int .i64 i,.slice v_A v_n v_c] w K :=
  fnW_calls ok Tryz.func108 (an:=(.named .auto)) (args:=[.slice s_A s_n s_c,.int .i64 i,.slice v_A v_n v_c]) (Eq.mp (by kernel_rfl) h)
noncomputable def slices_Insert_int_int.W:Option Addr->Nat->Nat->Int->Option Addr->Nat->Nat->World->(Value->World->Prop)->Prop:=fun s_A s_n s_c i v_A v_n v_c w K=>(0<=i/\i<=(s_n :
 Int))/\bif decide ((v_n:Int)=0) then K (slice s_A s_n s_c) w else bif decide (i=(s_n:Int)) then ∃ x x_1 x_2 w',RunsTo Tryz.prog (append_ (Array.mk [39,39]) 39 #[slice s_A
 s_n s_c,slice v_A v_n v_c]) w (slice x x_1 x_2) w'/\K (slice x x_1 x_2) w' else bif decide ((s_c:Int)<wrap i64 ((s_n:Int)+(v_n:Int))) then (0<=i/\i<=(s_c:Int))/\∃ x x_1 x_2
 w',RunsTo Tryz.prog (append_ (Array.mk [39,3]) 39 #[slice (cutAt s_A s_c 0 1) (Int.toNat i-0) (s_c-0),int i64 (wrap i64 (wrap i64 ((s_n:Int)+(v_n:Int))-i))]) w (slice x x_1 x_2) w'/\(0
 <= i/\i<=(x_1:Int))/\∃ x_3 w'_1,RunsTo Tryz.prog (copy_ (Array.mk [39,39]) 3 #[slice (cutAt x x_2 (Int.toNat i) 1) (x_1-Int.toNat i) (x_2-Int.toNat i),slice v_A v_n v_c]) w' (int i64 x_3)
 w'_1/\(0<=wrap i64 (i+(v_n:Int))/\wrap i64 (i+(v_n:Int))<=(x_1:Int))/\(0<=i/\i<=(s_n:Int))/\∃ x_4 w',RunsTo Tryz.prog (copy_ (Array.mk [39,39]) 3 #[slice (cutAt x x_2 (Int.toNat
 (wrap i64 (i+(v_n:Int)))) 1) (x_1-Int.toNat (wrap i64 (i+(v_n:Int)))) (x_2-Int.toNat (wrap i64 (i+(v_n:Int)))),slice (cutAt s_A s_c (Int.toNat i) 1) (s_n-Int.toNat i) (s_c -
 Int.toNat i)]) (drew w'_1) (int i64 x_4) w'/\K (slice x x_1 x_2) w' else (0<=wrap i64 ((s_n:Int)+(v_n:Int))/\wrap i64 ((s_n:Int)+(v_n:Int))<=(s_c:Int))/\(0<=wrap i64 (i+(v_n :
 Int))/\wrap i64 (i+(v_n:Int))<=(↑(Int.toNat (wrap i64 ((s_n:Int)+(v_n:Int)))-0):Int))/\∃ x w',RunsTo Tryz.prog (callFunc 116 #[slice v_A v_n v_c,slice (cutAt (cutAt s_A s_c 0 1) (s_c
 - 0) (Int.toNat (wrap i64 (i+(v_n:Int)))) 1) (Int.toNat (wrap i64 ((s_n:Int)+(v_n:Int)))-0-Int.toNat (wrap i64 (i+(v_n:Int)))) (s_c-0-Int.toNat (wrap i64 (i+(v_n:Int))))]) w
 (Next.value (bool x)) w'/\bif !x then (0<=wrap i64 (i+(v_n:Int))/\wrap i64 (i+(v_n:Int))<=(↑(Int.toNat (wrap i64 ((s_n:Int)+(v_n:Int)))-0):Int))/\(0<=i/\i<=(↑(Int.toNat (wrap
 i64 ((s_n:Int)+(v_n:Int)))-0):Int))/\∃ x w'_1,RunsTo Tryz.prog (copy_ (Array.mk [39,39]) 3 #[slice (cutAt (cutAt s_A s_c 0 1) (s_c-0) (Int.toNat (wrap i64 (i+(v_n:Int)))) 1)
 (Int.toNat (wrap i64 ((s_n:Int)+(v_n:Int)))-0-Int.toNat (wrap i64 (i+(v_n:Int)))) (s_c-0-Int.toNat (wrap i64 (i+(v_n:Int)))),slice (cutAt (cutAt s_A s_c 0 1) (s_c-0) (Int.toNat
 i) 1) (Int.toNat (wrap i64 ((s_n:Int)+(v_n:Int)))-0-Int.toNat i) (s_c-0-Int.toNat i)]) (drew w') (int i64 x) w'_1/\(0<=i/\i<=(↑(Int.toNat (wrap i64 ((s_n:Int)+(v_n:Int)))-0) :
 Int))/\∃ x w',RunsTo Tryz.prog (copy_ (Array.mk [39,39]) 3 #[slice (cutAt (cutAt s_A s_c 0 1) (s_c-0) (Int.toNat i) 1) (Int.toNat (wrap i64 ((s_n:Int)+(v_n:Int)))-0-Int.toNat i) (s_c-0
 - Int.toNat i),slice v_A v_n v_c]) w'_1 (int i64 x) w'/\K (slice (cutAt s_A s_c 0 1) (Int.toNat (wrap i64 ((s_n:Int)+(v_n:Int)))-0) (s_c-0)) w' else (0<=(s_n:Int)/\(s_n:Int) <=
 (↑(Int.toNat (wrap i64 ((s_n:Int)+(v_n:Int)))-0):Int))/\∃ x w'_1,RunsTo Tryz.prog (copy_ (Array.mk [39,39]) 3 #[slice (cutAt (cutAt s_A s_c 0 1) (s_c-0) (Int.toNat s_n) 1) (Int.toNat
 (wrap i64 ((s_n:Int)+(v_n:Int)))-0-Int.toNat s_n) (s_c-0-Int.toNat s_n),slice v_A v_n v_c]) w' (int i64 x) w'_1/\(0<=i/\i<=(↑(Int.toNat (wrap i64 ((s_n:Int)+(v_n:Int)))-0) :
 Int))/\CallsV Tryz.prog 117 #[slice (cutAt (cutAt s_A s_c 0 1) (s_c-0) (Int.toNat i) 1) (Int.toNat (wrap i64 ((s_n:Int)+(v_n:Int)))-0-Int.toNat i) (s_c-0-Int.toNat i),int i64 (v_n :
 Int)] w'_1 fun v w'=>v=tuple #[]/\K (slice (cutAt s_A s_c 0 1) (Int.toNat (wrap i64 ((s_n:Int)+(v_n:Int)))-0) (s_c-0)) w'
theorem slices_Insert_int_int.calls (ok:Okay Tryz.prog) {s_A s_n s_c i v_A v_n v_c w K} (h:slices_Insert_int_int.W s_A s_n s_c i v_A v_n v_c w K):CallsV Tryz.prog 110 #[.slice s_A s_n s_c,.int .i64 i,.slice v_A v_n v_c] w K :=
  fnW_calls ok Tryz.func110 (an:=(.named .auto)) (args:=[.slice s_A s_n s_c,.int .i64 i,.slice v_A v_n v_c]) (Eq.mp (by kernel_rfl) h)
noncomputable def slices_Delete_byte_byte.W:Option Addr->Nat->Nat->Int->Int->World->(Value->World->Prop)->Prop:=fun s_A s_n s_c i j w K=>(0<=(s_n:Int)/\(s_n:Int)<=(s_c:Int)) /\
 (0<=j/\j<=(↑(Int.toNat s_n):Int))/\(0<=i/\i<=(↑(Int.toNat j):Int))/\bif decide (i=j) then K (slice s_A s_n s_c) w else (0<=i/\i<=(s_c:Int))/\(0<=j/\j<=(s_n:Int))/\∃
 x x_1 x_2 w',RunsTo Tryz.prog (append_ (Array.mk [46,46]) 46 #[slice (cutAt s_A s_c 0 1) (Int.toNat i-0) (s_c-0),slice (cutAt s_A s_c (Int.toNat j) 1) (s_n-Int.toNat j) (s_c-Int.toNat j)])
 (drew w) (slice x x_1 x_2) w'/\(0<=(s_n:Int)/\(s_n:Int)<=(x_2:Int))/\(0<=(x_1:Int)/\(x_1:Int)<=(↑(Int.toNat s_n):Int))/\∃ w'_1,RunsTo Tryz.prog (clear_ (Array.mk [46]) 0 #[slice
 (cutAt x x_2 (Int.toNat x_1) 1) (Int.toNat s_n-Int.toNat x_1) (x_2-Int.toNat x_1)]) w' (tuple #[]) w'_1/\K (slice x x_1 x_2) w'_1
theorem slices_Delete_byte_byte.calls (ok:Okay Tryz.prog) {s_A s_n s_c i j w K} (h:slices_Delete_byte_byte.W s_A s_n s_c i j w K):CallsV Tryz.prog 111 #[.slice s_A s_n s_c,.int .i64 i,.int .i64 j] w K :=
  fnW_calls ok Tryz.func111 (an:=(.named .auto)) (args:=[.slice s_A s_n s_c,.int .i64 i,.int .i64 j]) (Eq.mp (by kernel_rfl) h)
noncomputable def slices_Delete_int_int.W:Option Addr->Nat->Nat->Int->Int->World->(Value->World->Prop)->Prop:=fun s_A s_n s_c i j w K=>(0<=(s_n:Int)/\(s_n:Int)<=(s_c:Int))/\(0
 <= j/\j<=(↑(Int.toNat s_n):Int))/\(0<=i/\i<=(↑(Int.toNat j):Int))/\bif decide (i=j) then K (slice s_A s_n s_c) w else (0<=i/\i<=(s_c:Int))/\(0<=j/\j<=(s_n:Int))/\∃ x
 x_1 x_2 w',RunsTo Tryz.prog (append_ (Array.mk [39,39]) 39 #[slice (cutAt s_A s_c 0 1) (Int.toNat i-0) (s_c-0),slice (cutAt s_A s_c (Int.toNat j) 1) (s_n-Int.toNat j) (s_c-Int.toNat j)])
 (drew w) (slice x x_1 x_2) w'/\(0<=(s_n:Int)/\(s_n:Int)<=(x_2:Int))/\(0<=(x_1:Int)/\(x_1:Int)<=(↑(Int.toNat s_n):Int))/\∃ w'_1,RunsTo Tryz.prog (clear_ (Array.mk [39]) 0 #[slice
 (cutAt x x_2 (Int.toNat x_1) 1) (Int.toNat s_n-Int.toNat x_1) (x_2-Int.toNat x_1)]) w' (tuple #[]) w'_1/\K (slice x x_1 x_2) w'_1
theorem slices_Delete_int_int.calls (ok:Okay Tryz.prog) {s_A s_n s_c i j w K} (h:slices_Delete_int_int.W s_A s_n s_c i j w K):CallsV Tryz.prog 120 #[.slice s_A s_n s_c,.int .i64 i,.int .i64 j] w K :=
  fnW_calls ok Tryz.func120 (an:=(.named .auto)) (args:=[.slice s_A s_n s_c,.int .i64 i,.int .i64 j]) (Eq.mp (by kernel_rfl) h)
noncomputable def slices_Concat_byte_byte.W:Option Addr->Nat->Nat->World->(Value->World->Prop)->Prop:=fun slices_A slices_n slices_c w K=>∃ (I:Int->Int->World->Prop) (μ:Int->Int ->
 World->Nat),I 0 0 w/\∀ x x_1 w,I x x_1 w->bif decide (x_1<(slices_n:Int)) then ∃ ad,slices_A=some ad/\(0<=x_1/\x_1<(slices_n:Int))/\∃ x_2 x_3 x_4,cell? w (add ad
 (Int.toNat x_1*1))=some (slice x_2 x_3 x_4)/\bif decide (wrap i64 (x+(x_3:Int))<0) then False else I (wrap i64 (x+(x_3:Int))) (wrap i64 (x_1+1)) w/\μ (wrap i64 (x +
 (x_3:Int))) (wrap i64 (x_1+1)) w<μ x x_1 w else CallsV Tryz.prog 123 #[slice none 0 0,int i64 x] w fun v w'=>∃ x x_2 x_3,v=slice x x_2 x_3/\∃ (I:Option Addr->Nat->Nat->Int ->
 World->Prop) (μ:Option Addr->Nat->Nat->Int->World->Nat),I x x_2 x_3 0 w'/\∀ x x_4 x_5 x_6 w,I x x_4 x_5 x_6 w->bif decide (x_6<(slices_n:Int)) then ∃ ad,slices_A =
 some ad/\(0<=x_6/\x_6<(slices_n:Int))/\∃ x_7 x_8 x_9,cell? w (add ad (Int.toNat x_6*1))=some (slice x_7 x_8 x_9)/\∃ x_10 x_11 x_12 w',RunsTo Tryz.prog (append_ (Array.mk
 [46,46]) 46 #[slice x x_4 x_5,slice x_7 x_8 x_9]) w (slice x_10 x_11 x_12) w'/\I x_10 x_11 x_12 (wrap i64 (x_6+1)) w'/\μ x_10 x_11 x_12 (wrap i64 (x_6+1)) w'<μ x x_4 x_5 x_6 w else K (slice x
 x_4 x_5) w
theorem slices_Concat_byte_byte.calls (ok:Okay Tryz.prog) {slices_A slices_n slices_c w K} (h:slices_Concat_byte_byte.W slices_A slices_n slices_c w K):CallsV Tryz.prog 118 #[.slice slices_A slices_n slices_c] w K :=
  fnW_calls ok Tryz.func118 (an:=(.named (.seq .auto (.seq .auto (.seq (.seq .auto (.block (.loop [(3,.one (.int .i64)),(11,.one (.int .i64))] .auto))) (.seq .auto (.seq (.seq .auto (.block (.loop [(6,.one .slc),(27,.one (.int .i64))] .auto))) .auto))))))) (args:=[.slice slices_A slices_n slices_c]) (Eq.mp (by kernel_rfl) h)
noncomputable def slices_Concat_int_int.W:Option Addr->Nat->Nat->World->(Value->World->Prop)->Prop:=fun slices_A slices_n slices_c w K=>∃ (I:Int->Int->World->Prop) (μ:Int->Int ->
 World->Nat),I 0 0 w/\∀ x x_1 w,I x x_1 w->bif decide (x_1<(slices_n:Int)) then ∃ ad,slices_A=some ad/\(0<=x_1/\x_1<(slices_n:Int))/\∃ x_2 x_3 x_4,cell? w (add ad
 (Int.toNat x_1*1))=some (slice x_2 x_3 x_4)/\bif decide (wrap i64 (x+(x_3:Int))<0) then False else I (wrap i64 (x+(x_3:Int))) (wrap i64 (x_1+1)) w/\μ (wrap i64 (x +
 (x_3:Int))) (wrap i64 (x_1+1)) w<μ x x_1 w else CallsV Tryz.prog 124 #[slice none 0 0,int i64 x] w fun v w'=>∃ x x_2 x_3,v=slice x x_2 x_3/\∃ (I:Option Addr->Nat->Nat->Int ->
 World->Prop) (μ:Option Addr->Nat->Nat->Int->World->Nat),I x x_2 x_3 0 w'/\∀ x x_4 x_5 x_6 w,I x x_4 x_5 x_6 w->bif decide (x_6<(slices_n:Int)) then ∃ ad,slices_A =
 some ad/\(0<=x_6/\x_6<(slices_n:Int))/\∃ x_7 x_8 x_9,cell? w (add ad (Int.toNat x_6*1))=some (slice x_7 x_8 x_9)/\∃ x_10 x_11 x_12 w',RunsTo Tryz.prog (append_ (Array.mk
 [39,39]) 39 #[slice x x_4 x_5,slice x_7 x_8 x_9]) w (slice x_10 x_11 x_12) w'/\I x_10 x_11 x_12 (wrap i64 (x_6+1)) w'/\μ x_10 x_11 x_12 (wrap i64 (x_6+1)) w'<μ x x_4 x_5 x_6 w else K (slice x
 x_4 x_5) w
theorem slices_Concat_int_int.calls (ok:Okay Tryz.prog) {slices_A slices_n slices_c w K} (h:slices_Concat_int_int.W slices_A slices_n slices_c w K):CallsV Tryz.prog 119 #[.slice slices_A slices_n slices_c] w K :=
  fnW_calls ok Tryz.func119 (an:=(.named (.seq .auto (.seq .auto (.seq (.seq .auto (.block (.loop [(3,.one (.int .i64)),(11,.one (.int .i64))] .auto))) (.seq .auto (.seq (.seq .auto (.block (.loop [(6,.one .slc),(27,.one (.int .i64))] .auto))) .auto))))))) (args:=[.slice slices_A slices_n slices_c]) (Eq.mp (by kernel_rfl) h)
noncomputable def slices_Grow_byte_byte.W:Option Addr->Nat->Nat->Int->World->(Value->World->Prop)->Prop:=fun s_A s_n s_c n w K=>∃ (J:World->Prop),(∀ w,J w->bif decide (0 <
 wrap i64 (n-wrap i64 ((s_c:Int)-(s_n:Int)))) then (0<=(s_c:Int)/\(s_c:Int)<=(s_c:Int))/\∃ x x_1 x_2 w',RunsTo Tryz.prog (append_ (Array.mk [46,3]) 46 #[slice (cutAt s_A s_c 0 1)
 (Int.toNat s_c-0) (s_c-0),int i64 (wrap i64 (n-wrap i64 ((s_c:Int)-(s_n:Int))))]) w (slice x x_1 x_2) w'/\(0<=(s_n:Int)/\(s_n:Int)<=(x_2:Int))/\K (slice (cutAt x x_2 0 1)
 (Int.toNat s_n-0) (x_2-0)) w' else K (slice s_A s_n s_c) w)/\bif decide (n<0) then False else J w
theorem slices_Grow_byte_byte.calls (ok:Okay Tryz.prog) {s_A s_n s_c n w K} (h:slices_Grow_byte_byte.W s_A s_n s_c n w K):CallsV Tryz.prog 123 #[.slice s_A s_n s_c,.int .i64 n] w K :=
  fnW_calls ok Tryz.func123 (an:=(.named (.seq .auto (.join [] .auto .auto)))) (args:=[.slice s_A s_n s_c,.int .i64 n]) (Eq.mp (by kernel_rfl) h)
noncomputable def slices_Grow_int_int.W:Option Addr->Nat->Nat->Int->World->(Value->World->Prop)->Prop:=fun s_A s_n s_c n w K=>∃ (J:World->Prop),(∀ w,J w->bif decide (0 <
 wrap i64 (n-wrap i64 ((s_c:Int)-(s_n:Int)))) then (0<=(s_c:Int)/\(s_c:Int)<=(s_c:Int))/\∃ x x_1 x_2 w',RunsTo Tryz.prog (append_ (Array.mk [39,3]) 39 #[slice (cutAt s_A s_c 0 1)
 (Int.toNat s_c-0) (s_c-0),int i64 (wrap i64 (n-wrap i64 ((s_c:Int)-(s_n:Int))))]) w (slice x x_1 x_2) w'/\(0<=(s_n:Int)/\(s_n:Int)<=(x_2:Int))/\K (slice (cutAt x x_2 0 1)
 (Int.toNat s_n-0) (x_2-0)) w' else K (slice s_A s_n s_c) w)/\bif decide (n<0) then False else J w
theorem slices_Grow_int_int.calls (ok:Okay Tryz.prog) {s_A s_n s_c n w K} (h:slices_Grow_int_int.W s_A s_n s_c n w K):CallsV Tryz.prog 124 #[.slice s_A s_n s_c,.int .i64 n] w K :=
  fnW_calls ok Tryz.func124 (an:=(.named (.seq .auto (.join [] .auto .auto)))) (args:=[.slice s_A s_n s_c,.int .i64 n]) (Eq.mp (by kernel_rfl) h)
noncomputable def slices_Collect_int.W:Value->World->(Value->World->Prop)->Prop:=fun seq w K=>CallsV Tryz.prog 102 #[slice none 0 0,seq] w fun v w'=>∃ x x_1 x_2,v=slice x x_1
 x_2/\K (slice x x_1 x_2) w'
theorem slices_Collect_int.calls (ok:Okay Tryz.prog) {seq w K} (h:slices_Collect_int.W seq w K):CallsV Tryz.prog 78 #[seq] w K :=
  fnW_calls ok Tryz.func78 (an:=(.named .auto)) (args:=[seq]) (Eq.mp (by kernel_rfl) h)
end Go.Proofs.YthfagbfllheneaaGreat
set_option linter.unusedVariables false
set_option maxRecDepth 100000
namespace Go.Proofs.YthfagbfllheneaaGreat
open Go Go.Sx Value IntKind World Addr Builtin
noncomputable def slices_BinarySearchFunc_byte_byte_byte.W:Option Addr->Nat->Nat->Option Addr->Nat->Nat->Value->World->(Value->World->Prop)->Prop:=fun x_A x_n x_c target_A target_n
 target_c cmp w K=>∃ (I:Int->Int->World->Prop) (μ:Int->Int->World->Nat),I 0 (x_n:Int) w/\∀ x x_1 w,I x x_1 w->bif decide (x<x_1) then (0: Int)<=1/\∃ ad,x_A=some
 ad/\(0<=wrap i64 (Int.fdiv (wrap u64 (wrap i64 (x+x_1))) (2 ^ Min.min (Int.toNat 1) 64))/\wrap i64 (Int.fdiv (wrap u64 (wrap i64 (x+x_1))) (2 ^ Min.min (Int.toNat 1) 64))<(x_n:Int))/\∃ x_2
 x_3 x_4,cell? w (add ad (Int.toNat (wrap i64 (Int.fdiv (wrap u64 (wrap i64 (x+x_1))) (2 ^ Min.min (Int.toNat 1) 64)))*1))=some (slice x_2 x_3 x_4)/\∃ (fid:Nat) (first captured:Array
 Value),cmp=func (Fn.func fid) first captured/\bodied Tryz.prog fid=true/\CallsV Tryz.prog fid (List.toArray (Array.toList first++([slice x_2 x_3 x_4,slice target_A target_n target_c] ++
 Array.toList captured))) w fun r w'=>∃ x_5,r=int i64 x_5/\bif decide (x_5<0) then I (wrap i64 (wrap i64 (Int.fdiv (wrap u64 (wrap i64 (x+x_1))) (2 ^ Min.min (Int.toNat 1) 64))+1))
 x_1 w'/\μ (wrap i64 (wrap i64 (Int.fdiv (wrap u64 (wrap i64 (x+x_1))) (2 ^ Min.min (Int.toNat 1) 64))+1)) x_1 w'<μ x x_1 w else I x (wrap i64 (Int.fdiv (wrap u64 (wrap i64 (x+x_1))) (2 ^
 Min.min (Int.toNat 1) 64))) w'/\μ x (wrap i64 (Int.fdiv (wrap u64 (wrap i64 (x+x_1))) (2 ^ Min.min (Int.toNat 1) 64))) w'<μ x x_1 w else bif decide (x<(x_n:Int)) then ∃ ad,x_A =
 some ad/\(0<=x/\x<(x_n:Int))/\∃ x_2 x_3 x_4,cell? w (add ad (Int.toNat x*1))=some (slice x_2 x_3 x_4)/\∃ (fid:Nat) (first captured:Array Value),cmp=func (Fn.func fid)
 first captured/\bodied Tryz.prog fid=true/\CallsV Tryz.prog fid (List.toArray (Array.toList first++([slice x_2 x_3 x_4,slice target_A target_n target_c]++Array.toList captured))) w fun r
 w'=>∃ x_5,r=int i64 x_5/\K (tuple #[int i64 x,bool (decide (x_5=0))]) w' else K (tuple #[int i64 x,bool false]) w
theorem slices_BinarySearchFunc_byte_byte_byte.calls (ok:Okay Tryz.prog) {x_A x_n x_c target_A target_n target_c cmp w K} (h:slices_BinarySearchFunc_byte_byte_byte.W x_A x_n x_c target_A target_n target_c cmp w K):CallsV Tryz.prog 87 #[.slice x_A x_n x_c,.slice target_A target_n target_c,cmp] w K :=
  fnW_calls ok Tryz.func87 (an:=(.named (.named (.seq .auto (.seq .auto (.seq .auto (.seq (.block (.loop [(9,.one (.int .i64)),(10,.one (.int .i64))] .auto)) .auto))))))) (args:=[.slice x_A x_n x_c,.slice target_A target_n target_c,cmp]) (Eq.mp (by kernel_rfl) h)
end Go.Proofs.YthfagbfllheneaaGreat
set_option linter.unusedVariables false
set_option maxRecDepth 100000
namespace Go.Proofs.YthfagbfllheneaaGreat
open Go Go.Sx Value IntKind World Addr Builtin
noncomputable def tree_New.W:Int->Int->World->(Value->World->Prop)->Prop:=fun fan most w K=>bif decide (fan<4) then K (tuple #[pointer none,int i64 2]) w else bif
 decide (64<fan) then K (tuple #[pointer none,int i64 2]) w else bif decide (most<1) then K (tuple #[pointer none,int i64 2]) w else bif decide (65536 <
 most) then K (tuple #[pointer none,int i64 2]) w else ∃ (x:Option Nat) (w':World),RunsTo Tryz.prog (Instr.makeMap 127 none) w (map x) w'/\∀ g w'_1,Fresh w' g w'_1 [int i64 fan,
 int i64 most,slice none 0 0,slice none 0 0,map x,int i64 0] 129->K (tuple #[pointer (some (mk g 0 none)),int i64 0]) w'_1
theorem tree_New.calls (ok:Okay Tryz.prog) {fan most w K} (h:tree_New.W fan most w K):CallsV Tryz.prog 59 #[.int .i64 fan,.int .i64 most] w K :=
  fnW_calls ok Tryz.func59 (an:=(.named .auto)) (args:=[.int .i64 fan,.int .i64 most]) (Eq.mp (by kernel_rfl) h)
noncomputable def tree_Arena_Create.W:Option Addr->World->(Value->World->Prop)->Prop:=fun a w K=>CallsV Tryz.prog 83 #[pointer a] w fun v w'=>∃ x,v=bool x/\bif !x then K (tuple #[int
 i64 0,int i64 1]) w' else ∃ a_1,a=some a_1/\∃ (S:World->Prop),S (drew w')/\∃ (x:Option Nat),(∀ u,S u->cell? u (add a_1 4)=some (map x))/\∃ x_1 w'_1,RunsTo Tryz.prog
 (len_ (Array.mk [127]) 3 #[map x]) (drew w') (int i64 x_1) w'_1/\bif decide (1000<=x_1) then K (tuple #[int i64 0,int i64 5]) w'_1 else ∃ a_2,a=some a_2/\∃ (S:World->Prop),S
 w'_1/\∃ x,(∀ u,S u->cell? u (add a_2 1)=some (int i64 x))/\CallsV Tryz.prog 84 #[pointer a] w'_1 fun v w'=>∃ x_2,v=int i64 x_2/\S w'/\bif decide (x<=x_2) then K (tuple
 #[int i64 0,int i64 5]) w' else ∃ a_3,a=some a_3/\∃ x,cell? w' (add a_3 5)=some (int i64 x)/\∃ a_4,a=some a_4/\stOK (add a_4 5) 0 [int i64 (wrap i64 (x+1))] w'/\∀
 w'_2,w'_2=setAll (add a_4 5) 0 [int i64 (wrap i64 (x+1))] w'->∃ (J:World->Prop),(∀ w,J w->∃ a_7,a=some a_7/\∃ x,cell? w (add a_7 5)=some (int i64 x)/\K (tuple #[int
 i64 x,int i64 0]) w)/\∃ a_6,a=some a_6/\∃ (S:World->Prop),S (drew w'_2)/\∃ (x:Option Nat),(∀ u,S u->cell? u (add a_6 4)=some (map x))/\∃ a_7,a=some a_7/\∃
 x_3,(∀ u,S u->cell? u (add a_7 5)=some (int i64 x_3))/\∀ g w',Fresh (drew w'_2) g w' [slice none 0 0,slice none 0 0,slice none 0 0] 137->S w'/\CallsV Tryz.prog 85
 #[pointer a,pointer (some (mk g 0 none))] w' fun v w'=>∃ x_4,v=int i64 x_4/\S w'/\∃ w'_3,RunsTo Tryz.prog (Instr.mapUpdate 127 (map x) (int i64 x_3) (int i64 x_4)) w' () w'_3/\J
 w'_3
theorem tree_Arena_Create.calls (ok:Okay Tryz.prog) {a w K} (h:tree_Arena_Create.W a w K):CallsV Tryz.prog 60 #[.pointer a] w K :=
  fnW_calls ok Tryz.func60 (an:=(.named (.seq .auto (.seq .auto (.seq .auto (.join [] .auto .auto)))))) (args:=[.pointer a]) (Eq.mp (by kernel_rfl) h)
noncomputable def tree_Arena_Nodes.W:Option Addr->World->(Value->World->Prop)->Prop:=fun a w K=>bif Option.isNone a then K (int i64 0) w else ∃ a_1,a=some a_1/\∃ (S:World ->
 Prop),S (drew w)/\∃ x x_1 x_2,(∀ u,S u->cell? u (add a_1 2)=some (slice x x_1 x_2))/\∃ a_2,a=some a_2/\∃ x x_3 x_4,(∀ u,S u->cell? u (add a_2 3)=some (slice x x_3
 x_4))/\K (int i64 (wrap i64 ((x_1:Int)-(x_3:Int)))) (drew w)
theorem tree_Arena_Nodes.calls (ok:Okay Tryz.prog) {a w K} (h:tree_Arena_Nodes.W a w K):CallsV Tryz.prog 84 #[.pointer a] w K :=
  fnW_calls ok Tryz.func84 (an:=(.named .auto)) (args:=[.pointer a]) (Eq.mp (by kernel_rfl) h)
noncomputable def tree_Arena_Put.W:Option Addr->Int->Option Addr->Nat->Nat->Option Addr->Nat->Nat->World->(Value->World->Prop)->Prop:=fun a root key_A key_n key_c val_A val_n val_c w K
 => CallsV Tryz.prog 77 #[pointer a,int i64 root] w fun v w'=>∃ x x_1,v=tuple #[int i64 x,int i64 x_1]/\bif !decide (x_1=0) then K (tuple #[bool false,int i64 x_1]) w' else bif
 decide (1048576<(key_n:Int)) then K (tuple #[bool false,int i64 3]) w' else bif decide (1048576<(val_n:Int)) then K (tuple #[bool false,int i64 3]) w' else
 CallsV Tryz.prog 86 #[pointer a,int i64 x,slice key_A key_n key_c] w' fun v w'=>∃ x_2 x_3 x_4 x_5,v=tuple #[pointer x_2,slice x_3 x_4 x_5]/\∃ a_1,x_2=some a_1/\∃ x_6 x_7 x_8,cell?
 w' (add a_1 0)=some (slice x_6 x_7 x_8)/\CallsV Tryz.prog 87 #[slice x_6 x_7 x_8,slice key_A key_n key_c,func (Fn.func 88) #[] #[]] w' fun v w'=>∃ x_9 x_10,v=tuple #[int i64 x_9,bool
 x_10]/\∃ (J:World->Prop),(∀ w,J w->CallsV Tryz.prog 91 #[slice key_A key_n key_c] w fun v w'=>∃ x_11 x_12 x_13,v=slice x_11 x_12 x_13/\CallsV Tryz.prog 91 #[slice val_A val_n val_c] w' fun
 v w'=>∃ x_14 x_15 x_16,v=slice x_14 x_15 x_16/\CallsV Tryz.prog 90 #[pointer a,int i64 x,slice x_11 x_12 x_13,slice x_14 x_15 x_16] w' fun v w'=>∃ x_17 x_18 x_19 x_20 x_21,v=tuple #[slice
 x_17 x_18 x_19,int i64 x_20,bool x_21]/\bif x_21 then ∃ a_3,a=some a_3/\∃ x_22 x_23 x_24,cell? w' (add a_3 2)=some (slice x_22 x_23 x_24)/\∃ ad,x_22=some ad/\(0<=x
 /\ x<(x_23:Int))/\∃ x_25,cell? w' (add ad (Int.toNat x*1))=some (pointer x_25)/\CallsV Tryz.prog 85 #[pointer a,pointer x_25] w' fun v w'=>∃ x_26,v=int i64 x_26/\∃ a_4,a =
 some a_4/\∃ x_27 x_28 x_29,cell? w' (add a_4 2)=some (slice x_27 x_28 x_29)/\∀ g w'_1,Fresh w' g w'_1 [slice x_17 x_18 x_19] 30->∀ g_1 w',Fresh w'_1 g_1 w' [int i64 x_26,int i64
 x_20] 3->∀ g_2 w'_2,Fresh w' g_2 w'_2 [slice (some (mk g 0 none)) 1 1,slice none 0 0,slice (some (mk g_1 0 none)) 2 2] 137->∃ ad,x_27=some ad/\(0<=x
 /\ x<(x_28:Int))/\stOK (add ad (Int.toNat x*1)) 0 [pointer (some (mk g_2 0 none))] w'_2/\∀ w',w'=setAll (add ad (Int.toNat x*1)) 0 [pointer (some (mk g_2 0
 none))] w'_2->K (tuple #[bool x_10,int i64 0]) w' else K (tuple #[bool x_10,int i64 0]) w')/\bif !x_10 then ∃ a_2,a=some a_2/\∃ (S:World->Prop),S (drew w')/\∃ x,(∀ u,S u ->
 cell? u (add a_2 1)=some (int i64 x))/\CallsV Tryz.prog 84 #[pointer a] (drew w') fun v w'=>∃ x_11,v=int i64 x_11/\S w'/\CallsV Tryz.prog 89 #[pointer a,slice x_3 x_4 x_5] w' fun v w'
 => ∃ x_12,v=int i64 x_12/\S w'/\bif decide (x<wrap i64 (x_11+x_12)) then K (tuple #[bool false,int i64 5]) w' else J w' else J (drew w')
theorem tree_Arena_Put.calls (ok:Okay Tryz.prog) {a root key_A key_n key_c val_A val_n val_c w K} (h:tree_Arena_Put.W a root key_A key_n key_c val_A val_n val_c w K):CallsV Tryz.prog 61 #[.pointer a,.int .i64 root,.slice key_A key_n key_c,.slice val_A val_n val_c] w K :=
  fnW_calls ok Tryz.func61 (an:=(.named (.seq .auto (.seq .auto (.seq .auto (.seq .auto (.seq .auto (.join [] .auto .auto)))))))) (args:=[.pointer a,.int .i64 root,.slice key_A key_n key_c,.slice val_A val_n val_c]) (Eq.mp (by kernel_rfl) h)
noncomputable def tree_Arena_Get.W:Option Addr->Int->Option Addr->Nat->Nat->World->(Value->World->Prop)->Prop:=fun a root key_A key_n key_c w K=>CallsV Tryz.prog 77 #[pointer a,int i64
 root] w fun v w'=>∃ x x_1,v=tuple #[int i64 x,int i64 x_1]/\bif !decide (x_1=0) then K (tuple #[slice none 0 0,bool false]) w' else CallsV Tryz.prog 86 #[pointer a,int
 i64 x,slice key_A key_n key_c] w' fun v w'=>∃ x x_2 x_3 x_4,v=tuple #[pointer x,slice x_2 x_3 x_4]/\∃ a,x=some a/\∃ x_5 x_6 x_7,cell? w' (add a 0)=some (slice x_5 x_6 x_7)
 /\ CallsV Tryz.prog 87 #[slice x_5 x_6 x_7,slice key_A key_n key_c,func (Fn.func 88) #[] #[]] w' fun v w'=>∃ x_8 x_9,v=tuple #[int i64 x_8,bool x_9]/\bif !x_9 then K (tuple #[slice none
 0 0,bool false]) w' else ∃ a,x=some a/\∃ x x_10 x_11,cell? w' (add a 1)=some (slice x x_10 x_11)/\∃ ad,x=some ad/\(0<=x_8/\x_8<(x_10:Int))/\∃ x x_12 x_13,
 cell? w' (add ad (Int.toNat x_8*1))=some (slice x x_12 x_13)/\CallsV Tryz.prog 91 #[slice x x_12 x_13] w' fun v w'=>∃ x x_14 x_15,v=slice x x_14 x_15/\K (tuple #[slice x x_14 x_15,
 bool true]) w'
theorem tree_Arena_Get.calls (ok:Okay Tryz.prog) {a root key_A key_n key_c w K} (h:tree_Arena_Get.W a root key_A key_n key_c w K):CallsV Tryz.prog 104 #[.pointer a,.int .i64 root,.slice key_A key_n key_c] w K :=
  fnW_calls ok Tryz.func104 (an:=(.named .auto)) (args:=[.pointer a,.int .i64 root,.slice key_A key_n key_c]) (Eq.mp (by kernel_rfl) h)
noncomputable def tree_Arena_After.W:Option Addr->Int->Option Addr->Nat->Nat->Bool->World->(Value->World->Prop)->Prop:=fun a root key_A key_n key_c atx w K=>CallsV Tryz.prog 77
 #[pointer a,int i64 root] w fun v w'=>∃ x x_1,v=tuple #[int i64 x,int i64 x_1]/\bif !decide (x_1=0) then K (tuple #[slice none 0 0,slice none 0 0,bool false])
 w' else ∃ a_1,a=some a_1/\∃ x_2 x_3 x_4,cell? w' (add a_1 2)=some (slice x_2 x_3 x_4)/\∃ ad,x_2=some ad/\(0<=x/\x<(x_3:Int))/\∃ x_5,cell? w' (add ad (Int.toNat
 x*1))=some (pointer x_5)/\∃ (I:Option Addr->Int->World->Prop) (μ:Option Addr->Int->World->Nat),I x_5 (-1:Int) w'/\∀ x x_6 w,I x x_6 w->∃ a_3,x=some a_3/\∃ x_7 x_8
 x_9,cell? w (add a_3 2)=some (slice x_7 x_8 x_9)/\bif !Option.isNone x_7 then CallsV Tryz.prog 98 #[pointer x,slice key_A key_n key_c] w fun v w'=>∃ x_10,v=int i64 x_10/\∃ a_4,x =
 some a_4/\∃ x_11 x_12 x_13,cell? w' (add a_4 2)=some (slice x_11 x_12 x_13)/\bif decide (wrap i64 (x_10+1)<(x_12:Int)) then ∃ a_5,x=some a_5/\∃ x_14 x_15
 x_16,cell? w' (add a_5 2)=some (slice x_14 x_15 x_16)/\∃ ad,x_14=some ad/\(0<=wrap i64 (x_10+1)/\wrap i64 (x_10+1)<(x_15:Int))/\∃ x_17,cell? w' (add ad (Int.toNat
 (wrap i64 (x_10+1))*1))=some (int i64 x_17)/\∃ a_6,a=some a_6/\∃ (S:World->Prop),S (drew w')/\∃ x_18 x_19 x_20,(∀ u,S u->cell? u (add a_6 2)=some (slice x_18
 x_19 x_20))/\∃ a,x=some a/\∃ x_21 x_22 x_23,(∀ u,S u->cell? u (add a 2)=some (slice x_21 x_22 x_23))/\∃ ad,x_21=some ad/\(0<=x_10/\x_10<(x_22:Int))/\∃ x_24,
 (∀ u,S u->cell? u (add ad (Int.toNat x_10*1))=some (int i64 x_24))/\∃ ad,x_18=some ad/\(0<=x_24/\x_24<(x_19:Int))/\∃ x_25,(∀ u,S u->cell? u (add ad (Int.toNat x_24 *
 1))=some (pointer x_25))/\I x_25 x_17 (drew w')/\μ x_25 x_17 (drew w')<μ x x_6 w else ∃ a_5,a=some a_5/\∃ (S:World->Prop),S (drew w')/\∃ x_14 x_15 x_16,(∀ u,S u->cell? u
 (add a_5 2)=some (slice x_14 x_15 x_16))/\∃ a,x=some a/\∃ x_17 x_18 x_19,(∀ u,S u->cell? u (add a 2)=some (slice x_17 x_18 x_19))/\∃ ad,x_17=some ad/\(0 <=
 x_10/\x_10<(x_18:Int))/\∃ x_20,(∀ u,S u->cell? u (add ad (Int.toNat x_10*1))=some (int i64 x_20))/\∃ ad,x_14=some ad/\(0<=x_20/\x_20<(x_15:Int))/\∃ x_21,(∀ u,S
 u->cell? u (add ad (Int.toNat x_20*1))=some (pointer x_21))/\I x_21 x_6 (drew w')/\μ x_21 x_6 (drew w')<μ x x_6 w else ∃ a_4,x=some a_4/\∃ x_10 x_11 x_12,cell? w (add a_4 0)
 = some (slice x_10 x_11 x_12)/\CallsV Tryz.prog 87 #[slice x_10 x_11 x_12,slice key_A key_n key_c,func (Fn.func 88) #[] #[]] w fun v w'=>∃ x_13 x_14,v=tuple #[int i64 x_13,bool x_14] /\
 ∃ (J:Int->World->Prop),(∀ x_15 w,J x_15 w->∃ a_6,x=some a_6/\∃ x_16 x_17 x_18,cell? w (add a_6 0)=some (slice x_16 x_17 x_18)/\bif decide (x_15<(x_17:Int))
 then CallsV Tryz.prog 99 #[pointer x,int i64 x_15] w fun v w'=>∃ x x_19 x_20 x_21 x_22 x_23 x_24,v=tuple #[slice x x_19 x_20,slice x_21 x_22 x_23,bool x_24]/\K (tuple #[slice x x_19 x_20,
 slice x_21 x_22 x_23,bool x_24]) w' else bif decide (x_6<0) then CallsV Tryz.prog 99 #[pointer x,int i64 x_15] w fun v w'=>∃ x x_19 x_20 x_21 x_22 x_23 x_24,v=tuple #[slice x x_19
 x_20,slice x_21 x_22 x_23,bool x_24]/\K (tuple #[slice x x_19 x_20,slice x_21 x_22 x_23,bool x_24]) w' else ∃ a_7,a=some a_7/\∃ x x_19 x_20,cell? w (add a_7 2)=some (slice x
 x_19 x_20)/\∃ ad,x=some ad/\(0<=x_6/\x_6<(x_19:Int))/\∃ x,cell? w (add ad (Int.toNat x_6*1))=some (pointer x)/\∃ (I:Option Addr->World->Prop) (μ:Option Addr ->
 World->Nat),I x w/\∀ x w,I x w->∃ a_9,x=some a_9/\∃ x_21 x_22 x_23,cell? w (add a_9 2)=some (slice x_21 x_22 x_23)/\bif !Option.isNone x_21 then ∃ a_10,a=some a_10
 /\ ∃ (S:World->Prop),S (drew w)/\∃ x_24 x_25 x_26,(∀ u,S u->cell? u (add a_10 2)=some (slice x_24 x_25 x_26))/\∃ a,x=some a/\∃ x_27 x_28 x_29,(∀ u,S u->cell? u (add a 2)
 = some (slice x_27 x_28 x_29))/\∃ ad,x_27=some ad/\((0: Int)<=0/\0<(x_28:Int))/\∃ x_30,(∀ u,S u->cell? u (add ad (Int.toNat (0: Int)*1))=some (int i64 x_30))/\∃
 ad,x_24=some ad/\(0<=x_30/\x_30<(x_25:Int))/\∃ x_31,(∀ u,S u->cell? u (add ad (Int.toNat x_30*1))=some (pointer x_31))/\I x_31 (drew w)/\μ x_31 (drew w)<μ x w else
 CallsV Tryz.prog 99 #[pointer x,int i64 0] w fun v w'=>∃ x x_24 x_25 x_26 x_27 x_28 x_29,v=tuple #[slice x x_24 x_25,slice x_26 x_27 x_28,bool x_29]/\K (tuple #[slice x x_24 x_25,slice x_26
 x_27 x_28,bool x_29]) w')/\bif x_14 then bif !atx then J (wrap i64 (x_13+1)) w' else J x_13 w' else J x_13 w'
theorem tree_Arena_After.calls (ok:Okay Tryz.prog) {a root key_A key_n key_c atx w K} (h:tree_Arena_After.W a root key_A key_n key_c atx w K):CallsV Tryz.prog 72 #[.pointer a,.int .i64 root,.slice key_A key_n key_c,.bool atx] w K :=
  fnW_calls ok Tryz.func72 (an:=(.named (.seq .auto (.seq .auto (.seq .auto (.seq .auto (.seq .auto (.seq (.block (.loop [(13,.one .ptr),(14,.one (.int .i64))] .auto)) (.seq .auto (.join [(16,.one (.int .i64))] .auto (.seq .auto (.seq (.seq .auto (.block (.loop [(13,.one .ptr)] .auto))) .auto)))))))))))) (args:=[.pointer a,.int .i64 root,.slice key_A key_n key_c,.bool atx]) (Eq.mp (by kernel_rfl) h)
noncomputable def tree_Arena_Last.W:Option Addr->Int->World->(Value->World->Prop)->Prop:=fun a root w K=>CallsV Tryz.prog 77 #[pointer a,int i64 root] w fun v w'=>∃ x x_1,v=tuple
 #[int i64 x,int i64 x_1]/\bif !decide (x_1=0) then K (tuple #[slice none 0 0,slice none 0 0,bool false]) w' else CallsV Tryz.prog 100 #[pointer a,int i64 x] w' fun v
 w'=>∃ x,v=pointer x/\∃ a,x=some a/\∃ x_2 x_3 x_4,cell? w' (add a 0)=some (slice x_2 x_3 x_4)/\CallsV Tryz.prog 99 #[pointer x,int i64 (wrap i64 ((x_3:Int)-1))] w' fun v
 w'=>∃ x x_5 x_6 x_7 x_8 x_9 x_10,v=tuple #[slice x x_5 x_6,slice x_7 x_8 x_9,bool x_10]/\K (tuple #[slice x x_5 x_6,slice x_7 x_8 x_9,bool x_10]) w'
theorem tree_Arena_Last.calls (ok:Okay Tryz.prog) {a root w K} (h:tree_Arena_Last.W a root w K):CallsV Tryz.prog 75 #[.pointer a,.int .i64 root] w K :=
  fnW_calls ok Tryz.func75 (an:=(.named .auto)) (args:=[.pointer a,.int .i64 root]) (Eq.mp (by kernel_rfl) h)
noncomputable def tree_Arena_Delete.W:Option Addr->Int->Option Addr->Nat->Nat->World->(Value->World->Prop)->Prop:=fun a root key_A key_n key_c w K=>CallsV Tryz.prog 77 #[pointer a,int
 i64 root] w fun v w'=>∃ x x_1,v=tuple #[int i64 x,int i64 x_1]/\bif !decide (x_1=0) then K (tuple #[bool false,int i64 x_1]) w' else CallsV Tryz.prog 86 #[pointer a,int i64 x,
 slice key_A key_n key_c] w' fun v w'=>∃ x_2 x_3 x_4 x_5,v=tuple #[pointer x_2,slice x_3 x_4 x_5]/\∃ a_1,x_2=some a_1/\∃ x_6 x_7 x_8,cell? w' (add a_1 0)=some (slice x_6 x_7
 x_8)/\CallsV Tryz.prog 87 #[slice x_6 x_7 x_8,slice key_A key_n key_c,func (Fn.func 88) #[] #[]] w' fun v w'=>∃ x_9 x_10,v=tuple #[int i64 x_9,bool x_10]/\bif !x_10 then K (tuple #[bool
 false,int i64 0]) w' else CallsV Tryz.prog 93 #[pointer a,int i64 x,slice key_A key_n key_c] w' fun v w'=>v=tuple #[]/\∃ a_2,a=some a_2/\∃ x_11 x_12 x_13,cell? w' (add a_2 2) =
 some (slice x_11 x_12 x_13)/\∃ ad,x_11=some ad/\(0<=x/\x<(x_12:Int))/\∃ x_14,cell? w' (add ad (Int.toNat x*1))=some (pointer x_14)/\∃ a_3,x_14=some a_3
 /\ ∃ x_15 x_16 x_17,cell? w' (add a_3 2)=some (slice x_15 x_16 x_17)/\bif decide ((x_16:Int)=1) then ∃ a_4,a=some a_4/\∃ (S:World->Prop),S (drew w')/\∃ x_18 x_19
 x_20,(∀ u,S u->cell? u (add a_4 2)=some (slice x_18 x_19 x_20))/\∃ a_5,a=some a_5/\∃ x_21 x_22 x_23,(∀ u,S u->cell? u (add a_5 2)=some (slice x_21 x_22 x_23))/\∃
 a_6,x_14=some a_6/\∃ x_24 x_25 x_26,(∀ u,S u->cell? u (add a_6 2)=some (slice x_24 x_25 x_26))/\∃ ad,x_24=some ad/\((0: Int)<=0/\0<(x_25:Int))/\∃ x_27,(∀ u,S
 u->cell? u (add ad (Int.toNat (0: Int)*1))=some (int i64 x_27))/\∃ ad,x_21=some ad/\(0<=x_27/\x_27<(x_22:Int))/\∃ x_28,(∀ u,S u->cell? u (add ad (Int.toNat x_27*1))
 = some (pointer x_28))/\∃ ad,x_18=some ad/\(0<=x/\x<(x_19:Int))/\stOK (add ad (Int.toNat x*1)) 0 [pointer x_28] (drew w')/\∀ w'_1,w'_1=setAll (add ad (Int.toNat x*1))
 0 [pointer x_28] (drew w')->∃ a_8,x_14=some a_8/\∃ x x_29 x_30,cell? w'_1 (add a_8 2)=some (slice x x_29 x_30)/\∃ ad,x=some ad/\((0: Int)<=0/\0<(x_29:Int))/\∃
 x,cell? w'_1 (add ad (Int.toNat (0: Int)*1))=some (int i64 x)/\CallsV Tryz.prog 80 #[pointer a,int i64 x] w'_1 fun v w'=>v=tuple #[]/\K (tuple #[bool true,int i64 0]) w' else K
 (tuple #[bool true,int i64 0]) w'
theorem tree_Arena_Delete.calls (ok:Okay Tryz.prog) {a root key_A key_n key_c w K} (h:tree_Arena_Delete.W a root key_A key_n key_c w K):CallsV Tryz.prog 65 #[.pointer a,.int .i64 root,.slice key_A key_n key_c] w K :=
  fnW_calls ok Tryz.func65 (an:=(.named .auto)) (args:=[.pointer a,.int .i64 root,.slice key_A key_n key_c]) (Eq.mp (by kernel_rfl) h)
noncomputable def tree_Arena_Drop.W:Option Addr->Int->World->(Value->World->Prop)->Prop:=fun a root w K=>CallsV Tryz.prog 77 #[pointer a,int i64 root] w fun v w'=>∃ x x_1,v=tuple
 #[int i64 x,int i64 x_1]/\bif !decide (x_1=0) then K (int i64 x_1) w' else CallsV Tryz.prog 79 #[pointer a,int i64 x] w' fun v w'=>∃ x,v=x/\CallsV Tryz.prog 78 #[x] w' fun v w' =>
 ∃ x x_2 x_3,v=slice x x_2 x_3/\∃ (I:Int->World->Prop) (μ:Int->World->Nat),I 0 w'/\∀ x_4 w,I x_4 w->bif decide (x_4<(x_2:Int)) then ∃ ad,x=some ad/\(0<=x_4 /\
 x_4<(x_2:Int))/\∃ x,cell? w (add ad (Int.toNat x_4*1))=some (int i64 x)/\CallsV Tryz.prog 80 #[pointer a,int i64 x] w fun v w'=>v=tuple #[]/\I (wrap i64 (x_4+1)) w'/\μ (wrap
 i64 (x_4+1)) w'<μ x_4 w else ∃ a_2,a=some a_2/\∃ (x:Option Nat),cell? w (add a_2 4)=some (map x)/\∃ w',RunsTo Tryz.prog (delete_ (Array.mk [127,3]) 0 #[map x,int i64
 root]) w (tuple #[]) w'/\K (int i64 0) w'
theorem tree_Arena_Drop.calls (ok:Okay Tryz.prog) {a root w K} (h:tree_Arena_Drop.W a root w K):CallsV Tryz.prog 53 #[.pointer a,.int .i64 root] w K :=
  fnW_calls ok Tryz.func53 (an:=(.named (.seq .auto (.seq .auto (.seq .auto (.seq (.seq .auto (.block (.loop [(23,.one (.int .i64))] .auto))) .auto)))))) (args:=[.pointer a,.int .i64 root]) (Eq.mp (by kernel_rfl) h)
noncomputable def tree_Arena_Save.W:Option Addr->World->(Value->World->Prop)->Prop:=fun a w K=>CallsV Tryz.prog 83 #[pointer a] w fun v w'=>∃ x,v=bool x/\bif !x then K (pointer
 none) w' else ∃ a_1,a=some a_1/\∃ (S:World->Prop),S (drew w')/\∃ x x_1 x_2,(∀ u,S u->cell? u (add a_1 2)=some (slice x x_1 x_2))/\∃ a_2,a=some a_2/\∃ x_3
 x_4 x_5,(∀ u,S u->cell? u (add a_2 3)=some (slice x_3 x_4 x_5))/\∃ a_3,a=some a_3/\∃ (x_6:Option Nat),(∀ u,S u->cell? u (add a_3 4)=some (map x_6))/\∃ a_4,a =
 some a_4/\∃ x_7,(∀ u,S u->cell? u (add a_4 5)=some (int i64 x_7))/\CallsV Tryz.prog 94 #[slice x x_1 x_2] (drew w') fun v w'=>∃ x x_8 x_9,v=slice x x_8 x_9/\S w'/\CallsV
 Tryz.prog 55 #[slice x_3 x_4 x_5] w' fun v w'=>∃ x_10 x_11 x_12,v=slice x_10 x_11 x_12/\S w'/\CallsV Tryz.prog 95 #[map x_6] w' fun v w'=>∃ (x_13:Option Nat),v=map x_13/\S w'/\∀ g w'_1,
 Fresh w' g w'_1 [pointer a,slice x x_8 x_9,slice x_10 x_11 x_12,map x_13,int i64 x_7] 149->S w'_1/\K (pointer (some (mk g 0 none))) w'_1
theorem tree_Arena_Save.calls (ok:Okay Tryz.prog) {a w K} (h:tree_Arena_Save.W a w K):CallsV Tryz.prog 67 #[.pointer a] w K :=
  fnW_calls ok Tryz.func67 (an:=(.named .auto)) (args:=[.pointer a]) (Eq.mp (by kernel_rfl) h)
noncomputable def tree_Arena_Load.W:Option Addr->Option Addr->World->(Value->World->Prop)->Prop:=fun a s w K=>CallsV Tryz.prog 83 #[pointer a] w fun v w'=>∃ x,v=bool x/\bif !x then K
 (int i64 1) w' else bif Option.isNone s then K (int i64 2) w' else ∃ a_1,s=some a_1/\∃ x,cell? w' (add a_1 0)=some (pointer x)/\∃ ad,(x=some ad/\a=some ad)/\∃
 a_2,s=some a_2/\∃ (S:World->Prop),S (drew w')/\∃ x x_1 x_2,(∀ u,S u->cell? u (add a_2 1)=some (slice x x_1 x_2))/\∃ a_3,s=some a_3/\∃ x_3 x_4 x_5,(∀ u,S u ->
 cell? u (add a_3 2)=some (slice x_3 x_4 x_5))/\∃ a_4,s=some a_4/\∃ (x_6:Option Nat),(∀ u,S u->cell? u (add a_4 3)=some (map x_6))/\∃ a_5,s=some a_5/\∃
 x_7,(∀ u,S u->cell? u (add a_5 4)=some (int i64 x_7))/\CallsV Tryz.prog 94 #[slice x x_1 x_2] (drew w') fun v w'=>∃ x x_8 x_9,v=slice x x_8 x_9/\S w'/\CallsV Tryz.prog 55 #[slice
 x_3 x_4 x_5] w' fun v w'=>∃ x_10 x_11 x_12,v=slice x_10 x_11 x_12/\S w'/\CallsV Tryz.prog 95 #[map x_6] w' fun v w'=>∃ (x_13:Option Nat),v=map x_13/\S w'/\∃ a_6,a=some a_6 /\
 stOK (add a_6 2) 0 [slice x x_8 x_9] w'/\∀ w'_1,w'_1=setAll (add a_6 2) 0 [slice x x_8 x_9] w'->∃ a_8,a=some a_8/\stOK (add a_8 3) 0 [slice x_10 x_11 x_12] w'_1/\∀ w',w'=setAll (add
 a_8 3) 0 [slice x_10 x_11 x_12] w'_1->∃ a_10,a=some a_10/\stOK (add a_10 4) 0 [map x_13] w'/\∀ w'_2,w'_2=setAll (add a_10 4) 0 [map x_13] w'->∃ a_12,a=some a_12/\stOK (add
 a_12 5) 0 [int i64 x_7] w'_2/\∀ w',w'=setAll (add a_12 5) 0 [int i64 x_7] w'_2->K (int i64 0) w'
theorem tree_Arena_Load.calls (ok:Okay Tryz.prog) {a s w K} (h:tree_Arena_Load.W a s w K):CallsV Tryz.prog 69 #[.pointer a,.pointer s] w K :=
  fnW_calls ok Tryz.func69 (an:=(.named .auto)) (args:=[.pointer a,.pointer s]) (Eq.mp (by kernel_rfl) h)
noncomputable def tree_Arena_Before.W:Option Addr->Int->Option Addr->Nat->Nat->Bool->World->(Value->World->Prop)->Prop:=fun a root key_A key_n key_c atx w K=>CallsV Tryz.prog 77
 #[pointer a,int i64 root] w fun v w'=>∃ x x_1,v=tuple #[int i64 x,int i64 x_1]/\bif !decide (x_1=0) then K (tuple #[slice none 0 0,slice none 0 0,bool false])
 w' else ∃ a_1,a=some a_1/\∃ x_2 x_3 x_4,cell? w' (add a_1 2)=some (slice x_2 x_3 x_4)/\∃ ad,x_2=some ad/\(0<=x/\x<(x_3:Int))/\∃ x_5,cell? w' (add ad (Int.toNat
 x*1))=some (pointer x_5)/\∃ (I:Option Addr->Int->World->Prop) (μ:Option Addr->Int->World->Nat),I x_5 (-1:Int) w'/\∀ x x_6 w,I x x_6 w->∃ a_3,x=some a_3/\∃ x_7 x_8
 x_9,cell? w (add a_3 2)=some (slice x_7 x_8 x_9)/\bif !Option.isNone x_7 then CallsV Tryz.prog 98 #[pointer x,slice key_A key_n key_c] w fun v w'=>∃ x_10,v=int i64 x_10/\bif
 decide (0<x_10) then ∃ a_4,x=some a_4/\∃ x_11 x_12 x_13,cell? w' (add a_4 2)=some (slice x_11 x_12 x_13)/\∃ ad,x_11=some ad/\(0<=wrap i64 (x_10-1)/\wrap
 i64 (x_10-1)<(x_12:Int))/\∃ x_14,cell? w' (add ad (Int.toNat (wrap i64 (x_10-1))*1))=some (int i64 x_14)/\∃ a_5,a=some a_5/\∃ (S:World->Prop),S (drew w')/\∃ x_15
 x_16 x_17,(∀ u,S u->cell? u (add a_5 2)=some (slice x_15 x_16 x_17))/\∃ a,x=some a/\∃ x_18 x_19 x_20,(∀ u,S u->cell? u (add a 2)=some (slice x_18 x_19 x_20))/\∃ ad,
 x_18=some ad/\(0<=x_10/\x_10<(x_19:Int))/\∃ x_21,(∀ u,S u->cell? u (add ad (Int.toNat x_10*1))=some (int i64 x_21))/\∃ ad,x_15=some ad/\(0<=x_21/\x_21 <
 (x_16:Int))/\∃ x_22,(∀ u,S u->cell? u (add ad (Int.toNat x_21*1))=some (pointer x_22))/\I x_22 x_14 (drew w')/\μ x_22 x_14 (drew w')<μ x x_6 w else ∃ a_4,a=some a_4/\∃
 (S:World->Prop),S (drew w')/\∃ x_11 x_12 x_13,(∀ u,S u->cell? u (add a_4 2)=some (slice x_11 x_12 x_13))/\∃ a,x=some a/\∃ x_14 x_15 x_16,(∀ u,S u->cell? u (add a 2) =
 some (slice x_14 x_15 x_16))/\∃ ad,x_14=some ad/\(0<=x_10/\x_10<(x_15:Int))/\∃ x_17,(∀ u,S u->cell? u (add ad (Int.toNat x_10*1))=some (int i64 x_17))/\∃ ad,
 x_11=some ad/\(0<=x_17/\x_17<(x_12:Int))/\∃ x_18,(∀ u,S u->cell? u (add ad (Int.toNat x_17*1))=some (pointer x_18))/\I x_18 x_6 (drew w')/\μ x_18 x_6 (drew w')<μ x
 x_6 w else ∃ a_4,x=some a_4/\∃ x_10 x_11 x_12,cell? w (add a_4 0)=some (slice x_10 x_11 x_12)/\CallsV Tryz.prog 87 #[slice x_10 x_11 x_12,slice key_A key_n key_c,func (Fn.func
 88) #[] #[]] w fun v w'=>∃ x_13 x_14,v=tuple #[int i64 x_13,bool x_14]/\∃ (J:Int->World->Prop),(∀ x_15 w,J x_15 w->bif decide (0<=x_15) then CallsV Tryz.prog 99 #[pointer x,
 int i64 x_15] w fun v w'=>∃ x x_16 x_17 x_18 x_19 x_20 x_21,v=tuple #[slice x x_16 x_17,slice x_18 x_19 x_20,bool x_21]/\K (tuple #[slice x x_16 x_17,slice x_18 x_19 x_20,bool x_21]) w' else
 bif decide (x_6<0) then CallsV Tryz.prog 99 #[pointer x,int i64 x_15] w fun v w'=>∃ x x_16 x_17 x_18 x_19 x_20 x_21,v=tuple #[slice x x_16 x_17,slice x_18 x_19 x_20,bool x_21]/\K
 (tuple #[slice x x_16 x_17,slice x_18 x_19 x_20,bool x_21]) w' else CallsV Tryz.prog 100 #[pointer a,int i64 x_6] w fun v w'=>∃ x,v=pointer x/\∃ a,x=some a/\∃ x_16 x_17 x_18,cell?
 w' (add a 0)=some (slice x_16 x_17 x_18)/\CallsV Tryz.prog 99 #[pointer x,int i64 (wrap i64 ((x_17:Int)-1))] w' fun v w'=>∃ x x_19 x_20 x_21 x_22 x_23 x_24,v=tuple #[slice x x_19
 x_20,slice x_21 x_22 x_23,bool x_24]/\K (tuple #[slice x x_19 x_20,slice x_21 x_22 x_23,bool x_24]) w')/\bif !x_14 then J (wrap i64 (x_13-1)) w' else bif !atx then J (wrap i64 (x_13-1)) w'
 else J x_13 w'
theorem tree_Arena_Before.calls (ok:Okay Tryz.prog) {a root key_A key_n key_c atx w K} (h:tree_Arena_Before.W a root key_A key_n key_c atx w K):CallsV Tryz.prog 73 #[.pointer a,.int .i64 root,.slice key_A key_n key_c,.bool atx] w K :=
  fnW_calls ok Tryz.func73 (an:=(.named (.seq .auto (.seq .auto (.seq .auto (.seq .auto (.seq .auto (.seq (.block (.loop [(13,.one .ptr),(14,.one (.int .i64))] .auto)) (.seq .auto (.join [(16,.one (.int .i64))] .auto .auto)))))))))) (args:=[.pointer a,.int .i64 root,.slice key_A key_n key_c,.bool atx]) (Eq.mp (by kernel_rfl) h)
noncomputable def tree_Arena_made.W:Option Addr->World->(Value->World->Prop)->Prop:=fun a w K=>bif !Option.isNone a then ∃ a_1,a=some a_1/\∃ x,cell? w (add a_1 0)=some
 (int i64 x)/\K (bool (decide (0<x))) w else K (bool false) w
theorem tree_Arena_made.calls (ok:Okay Tryz.prog) {a w K} (h:tree_Arena_made.W a w K):CallsV Tryz.prog 83 #[.pointer a] w K :=
  fnW_calls ok Tryz.func83 (an:=(.named .auto)) (args:=[.pointer a]) (Eq.mp (by kernel_rfl) h)
noncomputable def tree_Arena_place.W:Option Addr->Option Addr->World->(Value->World->Prop)->Prop:=fun a n w K=>∃ a_1,a=some a_1/\∃ x x_1 x_2,cell? w (add a_1 3)=some
 (slice x x_1 x_2)/\bif decide (0<(x_1:Int)) then ∃ a_2,a=some a_2/\∃ x x_3 x_4,cell? w (add a_2 3)=some (slice x x_3 x_4)/\∃ ad,x=some ad/\(0<=wrap i64
 ((x_1:Int)-1)/\wrap i64 ((x_1:Int)-1)<(x_3:Int))/\∃ x,cell? w (add ad (Int.toNat (wrap i64 ((x_1:Int)-1))*1))=some (int i64 x)/\∃ a_3,a=some a_3/\∃ x_5 x_6
 x_7,cell? w (add a_3 3)=some (slice x_5 x_6 x_7)/\(0<=wrap i64 ((x_1:Int)-1)/\wrap i64 ((x_1:Int)-1)<=(x_7:Int))/\∃ a_4,a=some a_4/\stOK (add a_4 3) 0 [slice (cutAt
 x_5 x_7 0 1) (Int.toNat (wrap i64 ((x_1:Int)-1))-0) (x_7-0)] w/\∀ w',w'=setAll (add a_4 3) 0 [slice (cutAt x_5 x_7 0 1) (Int.toNat (wrap i64 ((x_1:Int)-1))-0) (x_7-0)] w->∃ a_6,a
 = some a_6/\∃ x_8 x_9 x_10,cell? w' (add a_6 2)=some (slice x_8 x_9 x_10)/\∃ ad,x_8=some ad/\(0<=x/\x<(x_9:Int))/\stOK (add ad (Int.toNat x*1)) 0 [pointer n] w' /\
 ∀ w'_1,w'_1=setAll (add ad (Int.toNat x*1)) 0 [pointer n] w'->K (int i64 x) w'_1 else ∃ a_2,a=some a_2/\∃ x x_3 x_4,cell? w (add a_2 2)=some (slice x x_3 x_4)/\∀ g w',Fresh
 w g w' [pointer n] 135->∃ x_5 x_6 x_7 w'_1,RunsTo Tryz.prog (append_ (Array.mk [126,126]) 126 #[slice x x_3 x_4,slice (some (mk g 0 none)) 1 1]) w' (slice x_5 x_6 x_7) w'_1/\∃ a_4,a
 = some a_4/\stOK (add a_4 2) 0 [slice x_5 x_6 x_7] w'_1/\∀ w',w'=setAll (add a_4 2) 0 [slice x_5 x_6 x_7] w'_1->∃ a_6,a=some a_6/\∃ x x_8 x_9,cell? w' (add a_6 2)=some
 (slice x x_8 x_9)/\K (int i64 (wrap i64 ((x_8:Int)-1))) w'
theorem tree_Arena_place.calls (ok:Okay Tryz.prog) {a n w K} (h:tree_Arena_place.W a n w K):CallsV Tryz.prog 85 #[.pointer a,.pointer n] w K :=
  fnW_calls ok Tryz.func85 (an:=(.named .auto)) (args:=[.pointer a,.pointer n]) (Eq.mp (by kernel_rfl) h)
noncomputable def tree_Arena_top.W:Option Addr->Int->World->(Value->World->Prop)->Prop:=fun a root w K=>CallsV Tryz.prog 83 #[pointer a] w fun v w'=>∃ x,v=bool x/\bif !x then K (tuple
 #[int i64 0,int i64 1]) w' else ∃ a_1,a=some a_1/\∃ (x:Option Nat),cell? w' (add a_1 4)=some (map x)/\∃ x_1 x_2 w'_1,RunsTo Tryz.prog (Instr.lookup 127 (map x) (int i64 root)
 true) w' (tuple #[int i64 x_1,bool x_2]) w'_1/\bif !x_2 then K (tuple #[int i64 0,int i64 41]) w'_1 else K (tuple #[int i64 x_1,int i64 0]) w'_1
theorem tree_Arena_top.calls (ok:Okay Tryz.prog) {a root w K} (h:tree_Arena_top.W a root w K):CallsV Tryz.prog 77 #[.pointer a,.int .i64 root] w K :=
  fnW_calls ok Tryz.func77 (an:=(.named .auto)) (args:=[.pointer a,.int .i64 root]) (Eq.mp (by kernel_rfl) h)
noncomputable def tree_Arena_leaf.W:Option Addr->Int->Option Addr->Nat->Nat->World->(Value->World->Prop)->Prop:=fun a i key_A key_n key_c w K=>∀ g w',Fresh w g w' [int i64 i] 3->∃ a_2,
 a=some a_2/\∃ x x_1 x_2,cell? w' (add a_2 2)=some (slice x x_1 x_2)/\∃ ad,x=some ad/\(0<=i/\i<(x_1:Int))/\∃ x,cell? w' (add ad (Int.toNat i*1))=some
 (pointer x)/\∃ (I:Option Addr->Nat->Nat->Option Addr->World->Prop) (μ:Option Addr->Nat->Nat->Option Addr->World->Nat),I (some (mk g 0 none)) 1 1 x w'/\∀ x x_3 x_4 x_5 w,
 I x x_3 x_4 x_5 w->∃ a_4,x_5=some a_4/\∃ x_6 x_7 x_8,cell? w (add a_4 2)=some (slice x_6 x_7 x_8)/\bif !Option.isNone x_6 then ∃ a_5,x_5=some a_5/\∃ (S:World ->
 Prop),S (drew w)/\∃ x_9 x_10 x_11,(∀ u,S u->cell? u (add a_5 2)=some (slice x_9 x_10 x_11))/\CallsV Tryz.prog 98 #[pointer x_5,slice key_A key_n key_c] (drew w) fun v w'=>∃ x_12,v =
 int i64 x_12/\S w'/\∃ ad,x_9=some ad/\(0<=x_12/\x_12<(x_10:Int))/\∃ (S:World->Prop),S w'/\∃ x_13,(∀ u,S u->cell? u (add ad (Int.toNat x_12*1))=some (int i64
 x_13))/\∃ a_6,a=some a_6/\∃ x_14 x_15 x_16,cell? w' (add a_6 2)=some (slice x_14 x_15 x_16)/\∃ ad,x_14=some ad/\(0<=x_13/\x_13<(x_15:Int))/\∃ x_17,cell? w'
 (add ad (Int.toNat x_13*1))=some (pointer x_17)/\∀ g w'_1,Fresh w' g w'_1 [int i64 x_13] 3->∃ x_18 x_19 x_20 w',RunsTo Tryz.prog (append_ (Array.mk [39,39]) 39 #[slice x x_3 x_4,slice
 (some (mk g 0 none)) 1 1]) w'_1 (slice x_18 x_19 x_20) w'/\I x_18 x_19 x_20 x_17 w'/\μ x_18 x_19 x_20 x_17 w'<μ x x_3 x_4 x_5 w else K (tuple #[pointer x_5,slice x x_3 x_4]) w
theorem tree_Arena_leaf.calls (ok:Okay Tryz.prog) {a i key_A key_n key_c w K} (h:tree_Arena_leaf.W a i key_A key_n key_c w K):CallsV Tryz.prog 86 #[.pointer a,.int .i64 i,.slice key_A key_n key_c] w K :=
  fnW_calls ok Tryz.func86 (an:=(.named (.seq .auto (.seq .auto (.seq .auto (.seq (.block (.loop [(8,.one .slc),(9,.one .ptr)] .auto)) .auto)))))) (args:=[.pointer a,.int .i64 i,.slice key_A key_n key_c]) (Eq.mp (by kernel_rfl) h)
noncomputable def tree_Arena_wants.W:Option Addr->Option Addr->Nat->Nat->World->(Value->World->Prop)->Prop:=fun a way_A way_n way_c w K=>∃ (I:Int->Int->World->Prop) (μ:Int->Int ->
 World->Nat),I 0 (wrap i64 ((way_n:Int)-1)) w/\∀ x x_1 w,I x x_1 w->bif decide (0<=x_1) then ∃ a_2,a=some a_2/\∃ (S:World->Prop),S (drew w)/\∃ x_2 x_3 x_4,(∀ u,S u
 -> cell? u (add a_2 2)=some (slice x_2 x_3 x_4))/\∃ ad,way_A=some ad/\(0<=x_1/\x_1<(way_n:Int))/\∃ x_5,(∀ u,S u->cell? u (add ad (Int.toNat x_1*1))=some (int
 i64 x_5))/\∃ ad,x_2=some ad/\(0<=x_5/\x_5<(x_3:Int))/\∃ x_6,(∀ u,S u->cell? u (add ad (Int.toNat x_5*1))=some (pointer x_6))/\∃ a_3,a=some a_3/\∃ x_7,(∀ u,
 S u->cell? u (add a_3 0)=some (int i64 x_7))/\CallsV Tryz.prog 106 #[pointer x_6] (drew w) fun v w'=>∃ x_8,v=int i64 x_8/\S w'/\bif decide (x_8<x_7) then K (int i64 x) w'
 else I (wrap i64 (x+1)) (wrap i64 (x_1-1)) w'/\μ (wrap i64 (x+1)) (wrap i64 (x_1-1)) w'<μ x x_1 w else K (int i64 (wrap i64 (x+1))) w
theorem tree_Arena_wants.calls (ok:Okay Tryz.prog) {a way_A way_n way_c w K} (h:tree_Arena_wants.W a way_A way_n way_c w K):CallsV Tryz.prog 89 #[.pointer a,.slice way_A way_n way_c] w K :=
  fnW_calls ok Tryz.func89 (an:=(.named (.seq .auto (.seq .auto (.seq (.seq .auto (.block (.loop [(5,.one (.int .i64)),(6,.one (.int .i64))] .auto))) .auto))))) (args:=[.pointer a,.slice way_A way_n way_c]) (Eq.mp (by kernel_rfl) h)
noncomputable def tree_Arena_put.W:Option Addr->Int->Option Addr->Nat->Nat->Option Addr->Nat->Nat->World->(Value->World->Prop)->Prop:=fun a i key_A key_n key_c val_A val_n val_c w K =>
 ∃ a_1,a=some a_1/\∃ x x_1 x_2,cell? w (add a_1 2)=some (slice x x_1 x_2)/\∃ ad,x=some ad/\(0<=i/\i<(x_1:Int))/\∃ x,cell? w (add ad (Int.toNat i*1)) =
 some (pointer x)/\∃ a_2,x=some a_2/\∃ x_3 x_4 x_5,cell? w (add a_2 2)=some (slice x_3 x_4 x_5)/\bif Option.isNone x_3 then ∃ a_3,x=some a_3/\∃ x_6 x_7 x_8,
 cell? w (add a_3 0)=some (slice x_6 x_7 x_8)/\CallsV Tryz.prog 87 #[slice x_6 x_7 x_8,slice key_A key_n key_c,func (Fn.func 88) #[] #[]] w fun v w'=>∃ x_9 x_10,v=tuple #[int i64 x_9,
 bool x_10]/\∃ (J:Option Addr->World->Prop),(∀ x w,J x w->bif x_10 then ∃ a_5,x=some a_5/\∃ x_11 x_12 x_13,cell? w (add a_5 1)=some (slice x_11 x_12 x_13)/\∃ ad,x_11 =
 some ad/\(0<=x_9/\x_9<(x_12:Int))/\stOK (add ad (Int.toNat x_9*1)) 0 [slice val_A val_n val_c] w/\∀ w',w'=setAll (add ad (Int.toNat x_9*1)) 0 [slice val_A val_n val_c] w->CallsV
 Tryz.prog 109 #[pointer a,int i64 i,pointer x] w' fun v w'=>∃ x x_14 x_15 x_16 x_17,v=tuple #[slice x x_14 x_15,int i64 x_16,bool x_17]/\K (tuple #[slice x x_14 x_15,int i64 x_16,bool
 x_17]) w' else ∃ a_5,x=some a_5/\∃ (S:World->Prop),S (drew w)/\∃ x_11 x_12 x_13,(∀ u,S u->cell? u (add a_5 0)=some (slice x_11 x_12 x_13))/\∃ a_6,x=some a_6/\∃
 x_14 x_15 x_16,(∀ u,S u->cell? u (add a_6 1)=some (slice x_14 x_15 x_16))/\(∀ g w',Fresh (drew w) g w' [slice key_A key_n key_c] 30->S w'/\(CallsV Tryz.prog 108 #[slice x_11 x_12 x_13,
 int i64 x_9,slice (some (mk g 0 none)) 1 1] w' fun v w'=>∃ x_17 x_18 x_19,v=slice x_17 x_18 x_19/\S w'/\∀ g w'_1,Fresh w' g w'_1 [slice val_A val_n val_c] 30->S w'_1/\CallsV
 Tryz.prog 108 #[slice x_14 x_15 x_16,int i64 x_9,slice (some (mk g 0 none)) 1 1] w'_1 fun v w'=>∃ x_20 x_21 x_22,v=slice x_20 x_21 x_22/\∃ a_9,x=some a_9/\stOK (add a_9
 0) 0 [slice x_17 x_18 x_19] w'/\∀ w'_2,w'_2=setAll (add a_9 0) 0 [slice x_17 x_18 x_19] w'->∃ a_11,x=some a_11/\stOK (add a_11 1) 0 [slice x_20 x_21 x_22] w'_2/\∀ w',w'=setAll (add
 a_11 1) 0 [slice x_20 x_21 x_22] w'_2->CallsV Tryz.prog 109 #[pointer a,int i64 i,pointer x] w' fun v w'=>∃ x x_23 x_24 x_25 x_26,v=tuple #[slice x x_23 x_24,int i64 x_25,bool x_26]/\K
 (tuple #[slice x x_23 x_24,int i64 x_25,bool x_26]) w')/\∀ g_1 w'_1,Fresh w' g_1 w'_1 [slice val_A val_n val_c] 30->S w'_1/\CallsV Tryz.prog 108 #[slice x_11 x_12 x_13,int i64 x_9,slice
 (some (mk g 0 none)) 1 1] w'_1 fun v w'=>∃ x_17 x_18 x_19,v=slice x_17 x_18 x_19/\S w'/\CallsV Tryz.prog 108 #[slice x_14 x_15 x_16,int i64 x_9,slice (some (mk g_1 0
 none)) 1 1] w' fun v w'=>∃ x_20 x_21 x_22,v=slice x_20 x_21 x_22/\∃ a_9,x=some a_9/\stOK (add a_9 0) 0 [slice x_17 x_18 x_19] w'/\∀ w'_2,w'_2=setAll (add a_9 0) 0 [slice
 x_17 x_18 x_19] w'->∃ a_11,x=some a_11/\stOK (add a_11 1) 0 [slice x_20 x_21 x_22] w'_2/\∀ w',w'=setAll (add a_11 1) 0 [slice x_20 x_21 x_22] w'_2->CallsV Tryz.prog 109 #[pointer a,
 int i64 i,pointer x] w' fun v w'=>∃ x x_23 x_24 x_25 x_26,v=tuple #[slice x x_23 x_24,int i64 x_25,bool x_26]/\K (tuple #[slice x x_23 x_24,int i64 x_25,bool x_26]) w')/\∀ g w',Fresh (drew
 w) g w' [slice val_A val_n val_c] 30->S w'/\∀ g_1 w'_1,Fresh w' g_1 w'_1 [slice key_A key_n key_c] 30->S w'_1/\CallsV Tryz.prog 108 #[slice x_11 x_12 x_13,int i64 x_9,slice (some (mk g_1
 0 none)) 1 1] w'_1 fun v w'=>∃ x_17 x_18 x_19,v=slice x_17 x_18 x_19/\S w'/\CallsV Tryz.prog 108 #[slice x_14 x_15 x_16,int i64 x_9,slice (some (mk g 0 none)) 1 1] w' fun
 v w'=>∃ x_20 x_21 x_22,v=slice x_20 x_21 x_22/\∃ a_9,x=some a_9/\stOK (add a_9 0) 0 [slice x_17 x_18 x_19] w'/\∀ w'_2,w'_2=setAll (add a_9 0) 0 [slice x_17 x_18 x_19] w'->∃ a_11,
 x=some a_11/\stOK (add a_11 1) 0 [slice x_20 x_21 x_22] w'_2/\∀ w',w'=setAll (add a_11 1) 0 [slice x_20 x_21 x_22] w'_2->CallsV Tryz.prog 109 #[pointer a,int i64 i,pointer x] w' fun v
 w'=>∃ x x_23 x_24 x_25 x_26,v=tuple #[slice x x_23 x_24,int i64 x_25,bool x_26]/\K (tuple #[slice x x_23 x_24,int i64 x_25,bool x_26]) w')/\∃ a,x=some a/\∃ (S:World->Prop),S
 (drew w')/\∃ x_11 x_12 x_13,(∀ u,S u->cell? u (add a 0)=some (slice x_11 x_12 x_13))/\∃ a,x=some a/\∃ x x_14 x_15,(∀ u,S u->cell? u (add a 1)=some (slice x x_14
 x_15))/\CallsV Tryz.prog 107 #[slice x_11 x_12 x_13] (drew w') fun v w'=>∃ x_16 x_17 x_18,v=slice x_16 x_17 x_18/\S w'/\CallsV Tryz.prog 107 #[slice x x_14 x_15] w' fun v w'=>∃ x x_19 x_20,v
 = slice x x_19 x_20/\∀ g w'_1,Fresh w' g w'_1 [slice x_16 x_17 x_18,slice x x_19 x_20,slice none 0 0] 137->J (some (mk g 0 none)) w'_1 else CallsV Tryz.prog 98 #[pointer x,
 slice key_A key_n key_c] w fun v w'=>∃ x_6,v=int i64 x_6/\∃ a_3,x=some a_3/\∃ x_7 x_8 x_9,cell? w' (add a_3 2)=some (slice x_7 x_8 x_9)/\∃ ad,x_7=some ad/\(0 <=
 x_6/\x_6<(x_8:Int))/\∃ x_10,cell? w' (add ad (Int.toNat x_6*1))=some (int i64 x_10)/\CallsV Tryz.prog 90 #[pointer a,int i64 x_10,slice key_A key_n key_c,slice val_A val_n val_c]
 w' fun v w'=>∃ x_11 x_12 x_13 x_14 x_15,v=tuple #[slice x_11 x_12 x_13,int i64 x_14,bool x_15]/\bif !x_15 then K (tuple #[slice none 0 0,int i64 0,bool false]) w' else ∃ a_4,x =
 some a_4/\∃ (S:World->Prop),S (drew w')/\∃ x_16 x_17 x_18,(∀ u,S u->cell? u (add a_4 0)=some (slice x_16 x_17 x_18))/\∃ a_5,x=some a_5/\∃ x x_19 x_20,(∀ u,S u ->
 cell? u (add a_5 2)=some (slice x x_19 x_20))/\(CallsV Tryz.prog 107 #[slice x_16 x_17 x_18] (drew w') fun v w'=>∃ x_21 x_22 x_23,v=slice x_21 x_22 x_23/\S w'/\(∀ g w'_1,Fresh w' g
 w'_1 [slice x_11 x_12 x_13] 30->S w'_1/\(CallsV Tryz.prog 108 #[slice x_21 x_22 x_23,int i64 x_6,slice (some (mk g 0 none)) 1 1] w'_1 fun v w'=>∃ x_24 x_25 x_26,v=slice x_24 x_25
 x_26/\S w'/\(CallsV Tryz.prog 55 #[slice x x_19 x_20] w' fun v w'=>∃ x x_27 x_28,v=slice x x_27 x_28/\∀ g w'_2,Fresh w' g w'_2 [int i64 x_14] 3->CallsV Tryz.prog 110 #[slice x x_27 x_28,int
 i64 (wrap i64 (x_6+1)),slice (some (mk g 0 none)) 1 1] w'_2 fun v w'=>∃ x x_29 x_30,v=slice x x_29 x_30/\∀ g w'_3,Fresh w' g w'_3 [slice x_24 x_25 x_26,slice none 0 0,
 slice x x_29 x_30] 137->CallsV Tryz.prog 109 #[pointer a,int i64 i,pointer (some (mk g 0 none))] w'_3 fun v w'=>∃ x x_31 x_32 x_33 x_34,v=tuple #[slice x x_31 x_32,int i64 x_33,
 bool x_34]/\K (tuple #[slice x x_31 x_32,int i64 x_33,bool x_34]) w')/\∀ g w'_2,Fresh w' g w'_2 [int i64 x_14] 3->S w'_2/\CallsV Tryz.prog 55 #[slice x x_19 x_20] w'_2 fun v w'=>∃ x x_27 x_28,
 v=slice x x_27 x_28/\CallsV Tryz.prog 110 #[slice x x_27 x_28,int i64 (wrap i64 (x_6+1)),slice (some (mk g 0 none)) 1 1] w' fun v w'=>∃ x x_29 x_30,v=slice x x_29 x_30/\∀ g
 w'_3,Fresh w' g w'_3 [slice x_24 x_25 x_26,slice none 0 0,slice x x_29 x_30] 137->CallsV Tryz.prog 109 #[pointer a,int i64 i,pointer (some (mk g 0 none))] w'_3 fun v w'=>∃
 x x_31 x_32 x_33 x_34,v=tuple #[slice x x_31 x_32,int i64 x_33,bool x_34]/\K (tuple #[slice x x_31 x_32,int i64 x_33,bool x_34]) w')/\∀ g_1 w',Fresh w'_1 g_1 w' [int i64 x_14] 3->S w' /\
 CallsV Tryz.prog 108 #[slice x_21 x_22 x_23,int i64 x_6,slice (some (mk g 0 none)) 1 1] w' fun v w'=>∃ x_24 x_25 x_26,v=slice x_24 x_25 x_26/\S w'/\CallsV Tryz.prog 55 #[slice x
 x_19 x_20] w' fun v w'=>∃ x x_27 x_28,v=slice x x_27 x_28/\CallsV Tryz.prog 110 #[slice x x_27 x_28,int i64 (wrap i64 (x_6+1)),slice (some (mk g_1 0 none)) 1 1] w' fun v w'=>∃
 x x_29 x_30,v=slice x x_29 x_30/\∀ g w'_2,Fresh w' g w'_2 [slice x_24 x_25 x_26,slice none 0 0,slice x x_29 x_30] 137->CallsV Tryz.prog 109 #[pointer a,int i64 i,pointer (some
 (mk g 0 none))] w'_2 fun v w'=>∃ x x_31 x_32 x_33 x_34,v=tuple #[slice x x_31 x_32,int i64 x_33,bool x_34]/\K (tuple #[slice x x_31 x_32,int i64 x_33,bool x_34]) w')/\∀ g w'_1,Fresh
 w' g w'_1 [int i64 x_14] 3->S w'_1/\∀ g_1 w',Fresh w'_1 g_1 w' [slice x_11 x_12 x_13] 30->S w'/\CallsV Tryz.prog 108 #[slice x_21 x_22 x_23,int i64 x_6,slice (some (mk g_1 0 none))
 1 1] w' fun v w'=>∃ x_24 x_25 x_26,v=slice x_24 x_25 x_26/\S w'/\CallsV Tryz.prog 55 #[slice x x_19 x_20] w' fun v w'=>∃ x x_27 x_28,v=slice x x_27 x_28/\CallsV Tryz.prog 110 #[slice x
 x_27 x_28,int i64 (wrap i64 (x_6+1)),slice (some (mk g 0 none)) 1 1] w' fun v w'=>∃ x x_29 x_30,v=slice x x_29 x_30/\∀ g w'_2,Fresh w' g w'_2 [slice x_24 x_25 x_26,slice
 none 0 0,slice x x_29 x_30] 137->CallsV Tryz.prog 109 #[pointer a,int i64 i,pointer (some (mk g 0 none))] w'_2 fun v w'=>∃ x x_31 x_32 x_33 x_34,v=tuple #[slice x x_31
 x_32,int i64 x_33,bool x_34]/\K (tuple #[slice x x_31 x_32,int i64 x_33,bool x_34]) w')/\(∀ g w'_1,Fresh (drew w') g w'_1 [slice x_11 x_12 x_13] 30->S w'_1/\(CallsV Tryz.prog 107 #[slice x_16
 x_17 x_18] w'_1 fun v w'=>∃ x_21 x_22 x_23,v=slice x_21 x_22 x_23/\S w'/\(CallsV Tryz.prog 108 #[slice x_21 x_22 x_23,int i64 x_6,slice (some (mk g 0 none)) 1 1] w' fun v w'=>∃
 x_24 x_25 x_26,v=slice x_24 x_25 x_26/\S w'/\(CallsV Tryz.prog 55 #[slice x x_19 x_20] w' fun v w'=>∃ x x_27 x_28,v=slice x x_27 x_28/\∀ g w'_2,Fresh w' g w'_2 [int i64 x_14] 3->CallsV
 Tryz.prog 110 #[slice x x_27 x_28,int i64 (wrap i64 (x_6+1)),slice (some (mk g 0 none)) 1 1] w'_2 fun v w'=>∃ x x_29 x_30,v=slice x x_29 x_30/\∀ g w'_3,Fresh w' g w'_3 [slice
 x_24 x_25 x_26,slice none 0 0,slice x x_29 x_30] 137->CallsV Tryz.prog 109 #[pointer a,int i64 i,pointer (some (mk g 0 none))] w'_3 fun v w'=>∃ x x_31 x_32 x_33 x_34,v =
 tuple #[slice x x_31 x_32,int i64 x_33,bool x_34]/\K (tuple #[slice x x_31 x_32,int i64 x_33,bool x_34]) w')/\∀ g w'_2,Fresh w' g w'_2 [int i64 x_14] 3->S w'_2/\CallsV Tryz.prog 55 #[slice x
 x_19 x_20] w'_2 fun v w'=>∃ x x_27 x_28,v=slice x x_27 x_28/\CallsV Tryz.prog 110 #[slice x x_27 x_28,int i64 (wrap i64 (x_6+1)),slice (some (mk g 0 none)) 1 1] w' fun v w'=>∃
 x x_29 x_30,v=slice x x_29 x_30/\∀ g w'_3,Fresh w' g w'_3 [slice x_24 x_25 x_26,slice none 0 0,slice x x_29 x_30] 137->CallsV Tryz.prog 109 #[pointer a,int i64 i,pointer (some
 (mk g 0 none))] w'_3 fun v w'=>∃ x x_31 x_32 x_33 x_34,v=tuple #[slice x x_31 x_32,int i64 x_33,bool x_34]/\K (tuple #[slice x x_31 x_32,int i64 x_33,bool x_34]) w')/\∀ g_1 w'_2,
 Fresh w' g_1 w'_2 [int i64 x_14] 3->S w'_2/\CallsV Tryz.prog 108 #[slice x_21 x_22 x_23,int i64 x_6,slice (some (mk g 0 none)) 1 1] w'_2 fun v w'=>∃ x_24 x_25 x_26,v=slice x_24
 x_25 x_26/\S w'/\CallsV Tryz.prog 55 #[slice x x_19 x_20] w' fun v w'=>∃ x x_27 x_28,v=slice x x_27 x_28/\CallsV Tryz.prog 110 #[slice x x_27 x_28,int i64 (wrap i64 (x_6+1)),slice
 (some (mk g_1 0 none)) 1 1] w' fun v w'=>∃ x x_29 x_30,v=slice x x_29 x_30/\∀ g w'_3,Fresh w' g w'_3 [slice x_24 x_25 x_26,slice none 0 0,slice x x_29 x_30] 137->CallsV
 Tryz.prog 109 #[pointer a,int i64 i,pointer (some (mk g 0 none))] w'_3 fun v w'=>∃ x x_31 x_32 x_33 x_34,v=tuple #[slice x x_31 x_32,int i64 x_33,bool x_34]/\K (tuple #[slice x
 x_31 x_32,int i64 x_33,bool x_34]) w')/\∀ g_1 w',Fresh w'_1 g_1 w' [int i64 x_14] 3->S w'/\CallsV Tryz.prog 107 #[slice x_16 x_17 x_18] w' fun v w'=>∃ x_21 x_22 x_23,v=slice x_21 x_22 x_23 /\
 S w'/\CallsV Tryz.prog 108 #[slice x_21 x_22 x_23,int i64 x_6,slice (some (mk g 0 none)) 1 1] w' fun v w'=>∃ x_24 x_25 x_26,v=slice x_24 x_25 x_26/\S w'/\CallsV Tryz.prog 55
 #[slice x x_19 x_20] w' fun v w'=>∃ x x_27 x_28,v=slice x x_27 x_28/\CallsV Tryz.prog 110 #[slice x x_27 x_28,int i64 (wrap i64 (x_6+1)),slice (some (mk g_1 0 none)) 1 1] w' fun
 v w'=>∃ x x_29 x_30,v=slice x x_29 x_30/\∀ g w'_2,Fresh w' g w'_2 [slice x_24 x_25 x_26,slice none 0 0,slice x x_29 x_30] 137->CallsV Tryz.prog 109 #[pointer a,int i64 i,pointer
 (some (mk g 0 none))] w'_2 fun v w'=>∃ x x_31 x_32 x_33 x_34,v=tuple #[slice x x_31 x_32,int i64 x_33,bool x_34]/\K (tuple #[slice x x_31 x_32,int i64 x_33,bool x_34]) w')/\∀ g
 w'_1,Fresh (drew w') g w'_1 [int i64 x_14] 3->S w'_1/\(CallsV Tryz.prog 107 #[slice x_16 x_17 x_18] w'_1 fun v w'=>∃ x_21 x_22 x_23,v=slice x_21 x_22 x_23/\S w'/\∀ g_1 w'_2,Fresh w' g_1 w'_2
 [slice x_11 x_12 x_13] 30->S w'_2/\CallsV Tryz.prog 108 #[slice x_21 x_22 x_23,int i64 x_6,slice (some (mk g_1 0 none)) 1 1] w'_2 fun v w'=>∃ x_24 x_25 x_26,v=slice x_24 x_25
 x_26/\S w'/\CallsV Tryz.prog 55 #[slice x x_19 x_20] w' fun v w'=>∃ x x_27 x_28,v=slice x x_27 x_28/\CallsV Tryz.prog 110 #[slice x x_27 x_28,int i64 (wrap i64 (x_6+1)),slice (some
 (mk g 0 none)) 1 1] w' fun v w'=>∃ x x_29 x_30,v=slice x x_29 x_30/\∀ g w'_3,Fresh w' g w'_3 [slice x_24 x_25 x_26,slice none 0 0,slice x x_29 x_30] 137->CallsV Tryz.prog 109
 #[pointer a,int i64 i,pointer (some (mk g 0 none))] w'_3 fun v w'=>∃ x x_31 x_32 x_33 x_34,v=tuple #[slice x x_31 x_32,int i64 x_33,bool x_34]/\K (tuple #[slice x x_31 x_32,int
 i64 x_33,bool x_34]) w')/\∀ g_1 w',Fresh w'_1 g_1 w' [slice x_11 x_12 x_13] 30->S w'/\CallsV Tryz.prog 107 #[slice x_16 x_17 x_18] w' fun v w'=>∃ x_21 x_22 x_23,v=slice x_21 x_22 x_23/\S w'
 /\ CallsV Tryz.prog 108 #[slice x_21 x_22 x_23,int i64 x_6,slice (some (mk g_1 0 none)) 1 1] w' fun v w'=>∃ x_24 x_25 x_26,v=slice x_24 x_25 x_26/\S w'/\CallsV Tryz.prog 55
 #[slice x x_19 x_20] w' fun v w'=>∃ x x_27 x_28,v=slice x x_27 x_28/\CallsV Tryz.prog 110 #[slice x x_27 x_28,int i64 (wrap i64 (x_6+1)),slice (some (mk g 0 none)) 1 1] w' fun v
 w'=>∃ x x_29 x_30,v=slice x x_29 x_30/\∀ g w'_2,Fresh w' g w'_2 [slice x_24 x_25 x_26,slice none 0 0,slice x x_29 x_30] 137->CallsV Tryz.prog 109 #[pointer a,int i64 i,pointer
 (some (mk g 0 none))] w'_2 fun v w'=>∃ x x_31 x_32 x_33 x_34,v=tuple #[slice x x_31 x_32,int i64 x_33,bool x_34]/\K (tuple #[slice x x_31 x_32,int i64 x_33,bool x_34]) w'
theorem tree_Arena_put.calls (ok:Okay Tryz.prog) {a i key_A key_n key_c val_A val_n val_c w K} (h:tree_Arena_put.W a i key_A key_n key_c val_A val_n val_c w K):CallsV Tryz.prog 90 #[.pointer a,.int .i64 i,.slice key_A key_n key_c,.slice val_A val_n val_c] w K :=
  fnW_calls ok Tryz.func90 (an:=(.named (.seq .auto (.seq .auto (.seq (.seq .auto (.cond (.seq .auto (.join [(14,.one .ptr)] .auto .auto)) .auto)) .auto))))) (args:=[.pointer a,.int .i64 i,.slice key_A key_n key_c,.slice val_A val_n val_c]) (Eq.mp (by kernel_rfl) h)
noncomputable def tree_Arena_shape.W:Option Addr->Int->Option Addr->Nat->Nat->Option Addr->Nat->Nat->Bool->World->(Value->World->Prop)->Prop:=fun a i lo_A lo_n lo_c hi_A hi_n hi_c top
 w K=>∃ a_1,a=some a_1/\∃ x x_1 x_2,cell? w (add a_1 2)=some (slice x x_1 x_2)/\∃ ad,x=some ad/\(0<=i/\i<(x_1:Int))/\∃ x,cell? w (add ad (Int.toNat i*1)) =
 some (pointer x)/\∃ (J:World->Prop),(∀ w,J w->∃ a_3,x=some a_3/\∃ x_3 x_4 x_5,cell? w (add a_3 0)=some (slice x_3 x_4 x_5)/\∃ (I:Int->World->Prop) (μ:Int ->
 World->Nat),I 0 w/\∀ x_6 w,I x_6 w->bif decide (x_6<(x_4:Int)) then ∃ ad,x_3=some ad/\(0<=x_6/\x_6<(x_4:Int))/\∃ x_7 x_8 x_9,cell? w (add ad (Int.toNat x_6*1)) =
 some (slice x_7 x_8 x_9)/\bif decide (0<x_6) then ∃ a,x=some a/\∃ x x_10 x_11,cell? w (add a 0)=some (slice x x_10 x_11)/\∃ ad,x=some ad/\(0<=wrap
 i64 (x_6-1)/\wrap i64 (x_6-1)<(x_10:Int))/\∃ x x_12 x_13,cell? w (add ad (Int.toNat (wrap i64 (x_6-1))*1))=some (slice x x_12 x_13)/\CallsV Tryz.prog 88 #[slice x x_12 x_13,
 slice x_7 x_8 x_9] w fun v w'=>∃ x,v=int i64 x/\bif decide (0<=x) then K (int i64 0) w' else bif !Option.isNone lo_A then CallsV Tryz.prog 88 #[slice x_7 x_8 x_9,slice lo_A lo_n lo_c]
 w' fun v w'=>∃ x,v=int i64 x/\bif decide (x<0) then K (int i64 0) w' else bif !Option.isNone hi_A then CallsV Tryz.prog 88 #[slice x_7 x_8 x_9,slice hi_A hi_n hi_c] w' fun v w'=>∃
 x,v=int i64 x/\bif decide (0<=x) then K (int i64 0) w' else I (wrap i64 (x_6+1)) w'/\μ (wrap i64 (x_6+1)) w'<μ x_6 w else I (wrap i64 (x_6+1)) w'/\μ (wrap i64 (x_6+1)) w'<μ
 x_6 w else bif !Option.isNone hi_A then CallsV Tryz.prog 88 #[slice x_7 x_8 x_9,slice hi_A hi_n hi_c] w' fun v w'=>∃ x,v=int i64 x/\bif decide (0<=x) then K (int i64 0) w' else I
 (wrap i64 (x_6+1)) w'/\μ (wrap i64 (x_6+1)) w'<μ x_6 w else I (wrap i64 (x_6+1)) w'/\μ (wrap i64 (x_6+1)) w'<μ x_6 w else bif !Option.isNone lo_A then CallsV Tryz.prog 88 #[slice x_7 x_8
 x_9,slice lo_A lo_n lo_c] w fun v w'=>∃ x,v=int i64 x/\bif decide (x<0) then K (int i64 0) w' else bif !Option.isNone hi_A then CallsV Tryz.prog 88 #[slice x_7 x_8 x_9,slice hi_A
 hi_n hi_c] w' fun v w'=>∃ x,v=int i64 x/\bif decide (0<=x) then K (int i64 0) w' else I (wrap i64 (x_6+1)) w'/\μ (wrap i64 (x_6+1)) w'<μ x_6 w else I (wrap i64 (x_6+1)) w'/\μ
 (wrap i64 (x_6+1)) w'<μ x_6 w else bif !Option.isNone hi_A then CallsV Tryz.prog 88 #[slice x_7 x_8 x_9,slice hi_A hi_n hi_c] w fun v w'=>∃ x,v=int i64 x/\bif decide (0<=x) then K
 (int i64 0) w' else I (wrap i64 (x_6+1)) w'/\μ (wrap i64 (x_6+1)) w'<μ x_6 w else I (wrap i64 (x_6+1)) w/\μ (wrap i64 (x_6+1)) w<μ x_6 w else ∃ a_5,x=some a_5/\∃ x_7 x_8 x_9,
 cell? w (add a_5 2)=some (slice x_7 x_8 x_9)/\bif Option.isNone x_7 then K (int i64 1) w else ∃ a_6,x=some a_6/\∃ (S:World->Prop),S (drew w)/\∃ x_10 x_11 x_12,(∀ u,S u ->
 cell? u (add a_6 0)=some (slice x_10 x_11 x_12))/\∃ a_7,x=some a_7/\∃ x_13 x_14 x_15,(∀ u,S u->cell? u (add a_7 2)=some (slice x_13 x_14 x_15))/\bif !decide
 ((x_11:Int)=wrap i64 ((x_14:Int)-1)) then K (int i64 0) (drew w) else ∃ a_8,x=some a_8/\∃ x_16 x_17 x_18,cell? (drew w) (add a_8 2)=some (slice x_16 x_17 x_18)/\∃ (I:Int
 -> Int->World->Prop) (μ:Int->Int->World->Nat),I 0 0 (drew w)/\∀ x_19 x_20 w,I x_19 x_20 w->bif decide (x_20<(x_17:Int)) then ∃ ad,x_16=some ad/\(0<=x_20/\x_20 <
 (x_17:Int))/\∃ x_21,cell? w (add ad (Int.toNat x_20*1))=some (int i64 x_21)/\∃ (J:Option Addr->Nat->Nat->World->Prop),(∀ x_22 x_23 x_24 w_1,J x_22 x_23 x_24 w_1->∃ (J:Option
 Addr->Nat->Nat->World->Prop),(∀ x x_25 x_26 w_2,J x x_25 x_26 w_2->CallsV Tryz.prog 101 #[pointer a,int i64 x_21,slice x_22 x_23 x_24,slice x x_25 x_26,bool false] w_2 fun v w'=>∃ x,
 v=int i64 x/\bif decide (x=0) then K (int i64 0) w' else bif decide (0<x_20) then bif !decide (x=x_19) then K (int i64 0) w' else I x (wrap i64 (x_20+1)) w'/\μ
 x (wrap i64 (x_20+1)) w'<μ x_19 x_20 w else I x (wrap i64 (x_20+1)) w'/\μ x (wrap i64 (x_20+1)) w'<μ x_19 x_20 w)/\∃ a,x=some a/\∃ x_25 x_26 x_27,cell? w_1 (add a 0) =
 some (slice x_25 x_26 x_27)/\bif decide (x_20<(x_26:Int)) then ∃ a,x=some a/\∃ x x_28 x_29,cell? w_1 (add a 0)=some (slice x x_28 x_29)/\∃ ad,x =
 some ad/\(0<=x_20/\x_20<(x_28:Int))/\∃ x x_30 x_31,cell? w_1 (add ad (Int.toNat x_20*1))=some (slice x x_30 x_31)/\J x x_30 x_31 w_1 else J hi_A hi_n hi_c w_1)/\bif
 decide (0<x_20) then ∃ a,x=some a/\∃ x x_22 x_23,cell? w (add a 0)=some (slice x x_22 x_23)/\∃ ad,x=some ad/\(0<=wrap i64 (x_20-1)/\wrap i64 (x_20-1)
 < (x_22:Int))/\∃ x x_24 x_25,cell? w (add ad (Int.toNat (wrap i64 (x_20-1))*1))=some (slice x x_24 x_25)/\J x x_24 x_25 w else J lo_A lo_n lo_c w else K (int i64 (wrap i64 (x_19 +
 1))) w)/\bif Option.isNone x then K (int i64 0) (drew w) else ∃ a_2,a=some a_2/\∃ (S:World->Prop),S (drew w)/\∃ x_3,(∀ u,S u->cell? u (add a_2 0)=some (int i64 x_3)) /\
 CallsV Tryz.prog 106 #[pointer x] (drew w) fun v w'=>∃ x_4,v=int i64 x_4/\S w'/\bif decide (x_3<x_4) then K (int i64 0) w' else bif !top then ∃ a_3,a=some a_3/\∃ (S_1 :
 World->Prop),S_1 w'/\∃ x_5,(∀ u,S_1 u->cell? u (add a_3 0)=some (int i64 x_5))/\(2: Int)≠0/\CallsV Tryz.prog 106 #[pointer x] w' fun v w'=>∃ x_6,v=int i64 x_6/\S_1 w'/\S w' /\
 bif decide (x_6<wrap i64 (Int.tdiv x_5 2)) then K (int i64 0) w' else bif top then ∃ a,x=some a/\∃ (S_2:World->Prop),S_2 w'/\∃ x_7 x_8 x_9,(∀ u,S_2 u->cell? u (add a 2) =
 some (slice x_7 x_8 x_9))/\bif !Option.isNone x_7 then CallsV Tryz.prog 106 #[pointer x] w' fun v w'=>∃ x,v=int i64 x/\S_2 w'/\S_1 w'/\S w'/\bif decide (x<2) then K (int
 i64 0) w' else J w' else J w' else J w' else bif top then ∃ a,x=some a/\∃ (S_1:World->Prop),S_1 w'/\∃ x_5 x_6 x_7,(∀ u,S_1 u->cell? u (add a 2)=some (slice x_5 x_6 x_7)) /\
 bif !Option.isNone x_5 then CallsV Tryz.prog 106 #[pointer x] w' fun v w'=>∃ x,v=int i64 x/\S_1 w'/\S w'/\bif decide (x<2) then K (int i64 0) w' else J w' else J w' else J w'
theorem tree_Arena_shape.calls (ok:Okay Tryz.prog) {a i lo_A lo_n lo_c hi_A hi_n hi_c top w K} (h:tree_Arena_shape.W a i lo_A lo_n lo_c hi_A hi_n hi_c top w K):CallsV Tryz.prog 101 #[.pointer a,.int .i64 i,.slice lo_A lo_n lo_c,.slice hi_A hi_n hi_c,.bool top] w K :=
  fnW_calls ok Tryz.func101 (an:=(.named (.seq .auto (.seq .auto (.join [] .auto (.seq (.seq .auto (.block (.loop [(72,.one (.int .i64))] .auto))) (.seq .auto (.seq .auto (.seq .auto (.seq (.seq .auto (.block (.loop [(14,.one (.int .i64)),(135,.one (.int .i64))] (.seq .auto (.seq .auto (.seq (.block (.seq .auto (.seq .auto (.join [(17,.one .slc)] .auto (.join [(18,.one .slc)] .auto .auto))))) .auto)))))) .auto)))))))))) (args:=[.pointer a,.int .i64 i,.slice lo_A lo_n lo_c,.slice hi_A hi_n hi_c,.bool top]) (Eq.mp (by kernel_rfl) h)
noncomputable def tree_Arena_all.W:Option Addr->Int->World->(Value->World->Prop)->Prop:=fun a i w K=>∀ g w',Fresh w g w' [pointer a] 38->∀ g_1 w'_1,Fresh w' g_1 w'_1 [int i64 i] 3->K
 (func (Fn.func 103) #[] #[pointer (some (mk g_1 0 none)),pointer (some (mk g 0 none))]) w'_1
theorem tree_Arena_all.calls (ok:Okay Tryz.prog) {a i w K} (h:tree_Arena_all.W a i w K):CallsV Tryz.prog 79 #[.pointer a,.int .i64 i] w K :=
  fnW_calls ok Tryz.func79 (an:=(.named .auto)) (args:=[.pointer a,.int .i64 i]) (Eq.mp (by kernel_rfl) h)
noncomputable def tree_node_below.W:Option Addr->Option Addr->Nat->Nat->World->(Value->World->Prop)->Prop:=fun n key_A key_n key_c w K=>∃ a,n=some a/\∃ x x_1 x_2,cell? w (add
 a 0)=some (slice x x_1 x_2)/\CallsV Tryz.prog 87 #[slice x x_1 x_2,slice key_A key_n key_c,func (Fn.func 88) #[] #[]] w fun v w'=>∃ x x_3,v=tuple #[int i64 x,bool x_3]/\bif x_3 then
 K (int i64 (wrap i64 (x+1))) w' else K (int i64 x) w'
theorem tree_node_below.calls (ok:Okay Tryz.prog) {n key_A key_n key_c w K} (h:tree_node_below.W n key_A key_n key_c w K):CallsV Tryz.prog 98 #[.pointer n,.slice key_A key_n key_c] w K :=
  fnW_calls ok Tryz.func98 (an:=(.named .auto)) (args:=[.pointer n,.slice key_A key_n key_c]) (Eq.mp (by kernel_rfl) h)
noncomputable def tree_entry.W:Option Addr->Int->World->(Value->World->Prop)->Prop:=fun n k w K=>bif decide (k<0) then K (tuple #[slice none 0 0,slice none 0 0,
 bool false]) w else ∃ a,n=some a/\∃ x x_1 x_2,cell? w (add a 0)=some (slice x x_1 x_2)/\bif decide ((x_1:Int)<=k) then K (tuple #[slice none 0 0,slice
 none 0 0,bool false]) w else ∃ a,n=some a/\∃ (S:World->Prop),S (drew w)/\∃ x x_3 x_4,(∀ u,S u->cell? u (add a 0)=some (slice x x_3 x_4))/\∃ ad,x=some
 ad/\(0<=k/\k<(x_3:Int))/\∃ x x_5 x_6,(∀ u,S u->cell? u (add ad (Int.toNat k*1))=some (slice x x_5 x_6))/\∃ a,n=some a/\∃ x_7 x_8 x_9,(∀ u,S u->cell? u (add a 1) =
 some (slice x_7 x_8 x_9))/\∃ ad,x_7=some ad/\(0<=k/\k<(x_8:Int))/\∃ x_10 x_11 x_12,(∀ u,S u->cell? u (add ad (Int.toNat k*1))=some (slice x_10 x_11 x_12)) /\
 CallsV Tryz.prog 91 #[slice x x_5 x_6] (drew w) fun v w'=>∃ x x_13 x_14,v=slice x x_13 x_14/\S w'/\CallsV Tryz.prog 91 #[slice x_10 x_11 x_12] w' fun v w'=>∃ x_15 x_16 x_17,v=slice x_15
 x_16 x_17/\S w'/\K (tuple #[slice x x_13 x_14,slice x_15 x_16 x_17,bool true]) w'
theorem tree_entry.calls (ok:Okay Tryz.prog) {n k w K} (h:tree_entry.W n k w K):CallsV Tryz.prog 99 #[.pointer n,.int .i64 k] w K :=
  fnW_calls ok Tryz.func99 (an:=(.named .auto)) (args:=[.pointer n,.int .i64 k]) (Eq.mp (by kernel_rfl) h)
noncomputable def tree_Arena_end.W:Option Addr->Int->World->(Value->World->Prop)->Prop:=fun a i w K=>∃ a_1,a=some a_1/\∃ x x_1 x_2,cell? w (add a_1 2)=some (slice x x_1
 x_2)/\∃ ad,x=some ad/\(0<=i/\i<(x_1:Int))/\∃ x,cell? w (add ad (Int.toNat i*1))=some (pointer x)/\∃ (I:Option Addr->World->Prop) (μ:Option Addr->World->Nat),I x
 w/\∀ x w,I x w->∃ a_3,x=some a_3/\∃ x_3 x_4 x_5,cell? w (add a_3 2)=some (slice x_3 x_4 x_5)/\bif !Option.isNone x_3 then ∃ a_4,a=some a_4/\∃ (S:World->Prop),S
 (drew w)/\∃ x_6 x_7 x_8,(∀ u,S u->cell? u (add a_4 2)=some (slice x_6 x_7 x_8))/\∃ a,x=some a/\∃ x_9 x_10 x_11,(∀ u,S u->cell? u (add a 2)=some (slice x_9 x_10
 x_11))/\∃ a,x=some a/\∃ x_12 x_13 x_14,(∀ u,S u->cell? u (add a 2)=some (slice x_12 x_13 x_14))/\∃ ad,x_9=some ad/\(0<=wrap i64 ((x_13:Int)-1)/\wrap i64 ((x_13
 : Int)-1)<(x_10:Int))/\∃ x_15,(∀ u,S u->cell? u (add ad (Int.toNat (wrap i64 ((x_13:Int)-1))*1))=some (int i64 x_15))/\∃ ad,x_6=some ad/\(0<=x_15/\x_15<(x_7 :
 Int))/\∃ x_16,(∀ u,S u->cell? u (add ad (Int.toNat x_15*1))=some (pointer x_16))/\I x_16 (drew w)/\μ x_16 (drew w)<μ x w else K (pointer x) w
theorem tree_Arena_end.calls (ok:Okay Tryz.prog) {a i w K} (h:tree_Arena_end.W a i w K):CallsV Tryz.prog 100 #[.pointer a,.int .i64 i] w K :=
  fnW_calls ok Tryz.func100 (an:=(.named (.seq .auto (.seq .auto (.seq (.block (.loop [(5,.one .ptr)] .auto)) .auto))))) (args:=[.pointer a,.int .i64 i]) (Eq.mp (by kernel_rfl) h)
noncomputable def tree_Arena_cut.W:Option Addr->Int->Option Addr->Nat->Nat->World->(Value->World->Prop)->Prop:=fun a i key_A key_n key_c w K=>∃ a_1,a=some a_1/\∃ x x_1 x_2,
 cell? w (add a_1 2)=some (slice x x_1 x_2)/\∃ ad,x=some ad/\(0<=i/\i<(x_1:Int))/\∃ x,cell? w (add ad (Int.toNat i*1))=some (pointer x)/\∃ a_2,x=some
 a_2/\∃ x_3 x_4 x_5,cell? w (add a_2 2)=some (slice x_3 x_4 x_5)/\bif Option.isNone x_3 then ∃ a_3,x=some a_3/\∃ x_6 x_7 x_8,cell? w (add a_3 0)=some (slice x_6 x_7 x_8)
 /\ CallsV Tryz.prog 87 #[slice x_6 x_7 x_8,slice key_A key_n key_c,func (Fn.func 88) #[] #[]] w fun v w'=>∃ x_9 x_10,v=tuple #[int i64 x_9,bool x_10]/\∃ a_4,a=some a_4/\∃ (S:World
 -> Prop),S (drew w')/\∃ x_11 x_12 x_13,(∀ u,S u->cell? u (add a_4 2)=some (slice x_11 x_12 x_13))/\∃ a,x=some a/\∃ x_14 x_15 x_16,(∀ u,S u->cell? u (add a 0)=some
 (slice x_14 x_15 x_16))/\∃ a,x=some a/\∃ x x_17 x_18,(∀ u,S u->cell? u (add a 1)=some (slice x x_17 x_18))/\CallsV Tryz.prog 107 #[slice x_14 x_15 x_16] (drew w') fun v w'=>∃
 x_19 x_20 x_21,v=slice x_19 x_20 x_21/\S w'/\CallsV Tryz.prog 111 #[slice x_19 x_20 x_21,int i64 x_9,int i64 (wrap i64 (x_9+1))] w' fun v w'=>∃ x_22 x_23 x_24,v=slice x_22 x_23 x_24/\S
 w'/\CallsV Tryz.prog 107 #[slice x x_17 x_18] w' fun v w'=>∃ x x_25 x_26,v=slice x x_25 x_26/\S w'/\CallsV Tryz.prog 111 #[slice x x_25 x_26,int i64 x_9,int i64 (wrap i64 (x_9+1))] w' fun v
 w'=>∃ x x_27 x_28,v=slice x x_27 x_28/\S w'/\∀ g w'_1,Fresh w' g w'_1 [slice x_22 x_23 x_24,slice x x_27 x_28,slice none 0 0] 137->S w'_1/\∃ ad,x_11=some ad/\(0<=i/\i <
 (x_12:Int))/\stOK (add ad (Int.toNat i*1)) 0 [pointer (some (mk g 0 none))] w'_1/\∀ w',w'=setAll (add ad (Int.toNat i*1)) 0 [pointer (some (mk g 0 none))] w'_1 ->
 K (tuple #[]) w' else CallsV Tryz.prog 98 #[pointer x,slice key_A key_n key_c] w fun v w'=>∃ x_6,v=int i64 x_6/\∃ a_3,x=some a_3/\∃ x_7 x_8 x_9,cell? w' (add a_3 2)=some
 (slice x_7 x_8 x_9)/\∃ ad,x_7=some ad/\(0<=x_6/\x_6<(x_8:Int))/\∃ x_10,cell? w' (add ad (Int.toNat x_6*1))=some (int i64 x_10)/\CallsV Tryz.prog 93 #[pointer a,int i64
 x_10,slice key_A key_n key_c] w' fun v w'=>v=tuple #[]/\∃ a_4,a=some a_4/\∃ (S:World->Prop),S (drew w')/\∃ x_11 x_12 x_13,(∀ u,S u->cell? u (add a_4 2)=some (slice
 x_11 x_12 x_13))/\∃ a_5,x=some a_5/\∃ x x_14 x_15,(∀ u,S u->cell? u (add a_5 2)=some (slice x x_14 x_15))/\∃ ad,x=some ad/\(0<=x_6/\x_6<(x_14:Int))/\∃ x,(∀
 u,S u->cell? u (add ad (Int.toNat x_6*1))=some (int i64 x))/\∃ ad,x_11=some ad/\(0<=x/\x<(x_12:Int))/\∃ x_16,(∀ u,S u->cell? u (add ad (Int.toNat x*1)) =
 some (pointer x_16))/\∃ a_6,a=some a_6/\∃ x,(∀ u,S u->cell? u (add a_6 0)=some (int i64 x))/\(2: Int)≠0/\CallsV Tryz.prog 106 #[pointer x_16] (drew w') fun v w'=>∃
 x_17,v=int i64 x_17/\S w'/\bif decide (x_17<wrap i64 (Int.tdiv x 2)) then CallsV Tryz.prog 112 #[pointer a,int i64 i,int i64 (wrap i64 ((if 1 > x_6 then 1 else x_6)-1))] w' fun v
 w'=>v=tuple #[]/\K (tuple #[]) w' else K (tuple #[]) w'
theorem tree_Arena_cut.calls (ok:Okay Tryz.prog) {a i key_A key_n key_c w K} (h:tree_Arena_cut.W a i key_A key_n key_c w K):CallsV Tryz.prog 93 #[.pointer a,.int .i64 i,.slice key_A key_n key_c] w K :=
  fnW_calls ok Tryz.func93 (an:=(.named .auto)) (args:=[.pointer a,.int .i64 i,.slice key_A key_n key_c]) (Eq.mp (by kernel_rfl) h)
noncomputable def tree_Arena_drop.W:Option Addr->Int->World->(Value->World->Prop)->Prop:=fun a i w K=>∃ a_1,a=some a_1/\∃ x x_1 x_2,cell? w (add a_1 2)=some (slice x
 x_1 x_2)/\∃ ad,x=some ad/\(0<=i/\i<(x_1:Int))/\stOK (add ad (Int.toNat i*1)) 0 [pointer none] w/\∀ w',w'=setAll (add ad (Int.toNat i*1)) 0 [pointer none] w->∃
 a_3,a=some a_3/\∃ x x_3 x_4,cell? w' (add a_3 3)=some (slice x x_3 x_4)/\∀ g w'_1,Fresh w' g w'_1 [int i64 i] 3->∃ x_5 x_6 x_7 w',RunsTo Tryz.prog (append_ (Array.mk [39,39])
 39 #[slice x x_3 x_4,slice (some (mk g 0 none)) 1 1]) w'_1 (slice x_5 x_6 x_7) w'/\∃ a_5,a=some a_5/\stOK (add a_5 3) 0 [slice x_5 x_6 x_7] w'/\∀ w'_2,w'_2=setAll (add
 a_5 3) 0 [slice x_5 x_6 x_7] w'->K (tuple #[]) w'_2
theorem tree_Arena_drop.calls (ok:Okay Tryz.prog) {a i w K} (h:tree_Arena_drop.W a i w K):CallsV Tryz.prog 80 #[.pointer a,.int .i64 i] w K :=
  fnW_calls ok Tryz.func80 (an:=(.named .auto)) (args:=[.pointer a,.int .i64 i]) (Eq.mp (by kernel_rfl) h)
noncomputable def tree_node_size.W:Option Addr->World->(Value->World->Prop)->Prop:=fun n w K=>∃ a,n=some a/\∃ x x_1 x_2,cell? w (add a 2)=some (slice x x_1 x_2)/\bif
 !Option.isNone x then ∃ a,n=some a/\∃ x x_3 x_4,cell? w (add a 2)=some (slice x x_3 x_4)/\K (int i64 (x_3:Int)) w else ∃ a,n=some a/\∃ x x_3 x_4,cell? w (add a 0) =
 some (slice x x_3 x_4)/\K (int i64 (x_3:Int)) w
theorem tree_node_size.calls (ok:Okay Tryz.prog) {n w K} (h:tree_node_size.W n w K):CallsV Tryz.prog 106 #[.pointer n] w K :=
  fnW_calls ok Tryz.func106 (an:=(.named .auto)) (args:=[.pointer n]) (Eq.mp (by kernel_rfl) h)
noncomputable def tree_Arena_split.W:Option Addr->Int->Option Addr->World->(Value->World->Prop)->Prop:=fun a i n w K=>∃ a_1,a=some a_1/\∃ x x_1 x_2,cell? w (add a_1 2) =
 some (slice x x_1 x_2)/\∃ ad,x=some ad/\(0<=i/\i<(x_1:Int))/\stOK (add ad (Int.toNat i*1)) 0 [pointer n] w/\∀ w',w'=setAll (add ad (Int.toNat i*1)) 0 [pointer n] w ->
 CallsV Tryz.prog 106 #[pointer n] w' fun v w'=>∃ x,v=int i64 x/\∃ a_3,a=some a_3/\∃ x_3,cell? w' (add a_3 0)=some (int i64 x_3)/\bif decide (x<=x_3) then K (tuple
 #[slice none 0 0,int i64 0,bool false]) w' else (2: Int)≠0/\∃ a_4,n=some a_4/\∃ x_4 x_5 x_6,cell? w' (add a_4 2)=some (slice x_4 x_5 x_6)/\bif Option.isNone x_4
 then ∃ (J:World->Prop),(∀ w,J w->∃ a_6,n=some a_6/\∃ (S:World->Prop),S (drew w)/\∃ x_7 x_8 x_9,(∀ u,S u->cell? u (add a_6 0)=some (slice x_7 x_8 x_9))/\∃ ad,x_7 =
 some ad/\(0<=wrap i64 (Int.tdiv (wrap i64 (x+1)) 2)/\wrap i64 (Int.tdiv (wrap i64 (x+1)) 2)<(x_8:Int))/\∃ x_10 x_11 x_12,(∀ u,S u->cell? u (add ad (Int.toNat (wrap i64 (Int.tdiv
 (wrap i64 (x+1)) 2))*1))=some (slice x_10 x_11 x_12))/\∃ a_7,n=some a_7/\∃ x_13 x_14 x_15,(∀ u,S u->cell? u (add a_7 0)=some (slice x_13 x_14 x_15))/\(0<=wrap i64
 (Int.tdiv (wrap i64 (x+1)) 2)/\wrap i64 (Int.tdiv (wrap i64 (x+1)) 2)<=(x_14:Int))/\∃ a_8,n=some a_8/\∃ x_16 x_17 x_18,(∀ u,S u->cell? u (add a_8 1)=some (slice x_16
 x_17 x_18))/\(0<=wrap i64 (Int.tdiv (wrap i64 (x+1)) 2)/\wrap i64 (Int.tdiv (wrap i64 (x+1)) 2)<=(x_17:Int))/\CallsV Tryz.prog 107 #[slice (cutAt x_13 x_15 (Int.toNat (wrap i64 (Int.tdiv
 (wrap i64 (x+1)) 2))) 1) (x_14-Int.toNat (wrap i64 (Int.tdiv (wrap i64 (x+1)) 2))) (x_15-Int.toNat (wrap i64 (Int.tdiv (wrap i64 (x+1)) 2)))] (drew w) fun v w'=>∃ x_19 x_20 x_21,v=slice
 x_19 x_20 x_21/\S w'/\CallsV Tryz.prog 107 #[slice (cutAt x_16 x_18 (Int.toNat (wrap i64 (Int.tdiv (wrap i64 (x+1)) 2))) 1) (x_17-Int.toNat (wrap i64 (Int.tdiv (wrap i64 (x+1)) 2))) (x_18 -
 Int.toNat (wrap i64 (Int.tdiv (wrap i64 (x+1)) 2)))] w' fun v w'=>∃ x x_22 x_23,v=slice x x_22 x_23/\S w'/\∀ g w'_1,Fresh w' g w'_1 [slice x_19 x_20 x_21,slice x x_22 x_23,slice none
 0 0] 137->S w'_1/\CallsV Tryz.prog 85 #[pointer a,pointer (some (mk g 0 none))] w'_1 fun v w'=>∃ x,v=int i64 x/\S w'/\K (tuple #[slice x_10 x_11 x_12,int i64 x,bool
 true]) w')/\∃ a_5,a=some a_5/\∃ (S:World->Prop),S (drew w')/\∃ x_7 x_8 x_9,(∀ u,S u->cell? u (add a_5 2)=some (slice x_7 x_8 x_9))/\∃ a,n=some a/\∃ x_10
 x_11 x_12,(∀ u,S u->cell? u (add a 0)=some (slice x_10 x_11 x_12))/\(0<=wrap i64 (Int.tdiv (wrap i64 (x+1)) 2)/\wrap i64 (Int.tdiv (wrap i64 (x+1)) 2)<=(x_12:Int))/\(0<=wrap i64
 (Int.tdiv (wrap i64 (x+1)) 2)/\wrap i64 (Int.tdiv (wrap i64 (x+1)) 2)<=(↑(Int.toNat (wrap i64 (Int.tdiv (wrap i64 (x+1)) 2))):Int))/\∃ a,n=some a/\∃ x_13 x_14 x_15,(∀ u,S u ->
 cell? u (add a 1)=some (slice x_13 x_14 x_15))/\(0<=wrap i64 (Int.tdiv (wrap i64 (x+1)) 2)/\wrap i64 (Int.tdiv (wrap i64 (x+1)) 2)<=(x_15:Int))/\(0<=wrap i64 (Int.tdiv (wrap i64 (x
 + 1)) 2)/\wrap i64 (Int.tdiv (wrap i64 (x+1)) 2)<=(↑(Int.toNat (wrap i64 (Int.tdiv (wrap i64 (x+1)) 2))):Int))/\∀ g w'_1,Fresh (drew w') g w'_1 [slice (cutAt x_10 (Int.toNat (wrap i64
 (Int.tdiv (wrap i64 (x+1)) 2))) 0 1) (Int.toNat (wrap i64 (Int.tdiv (wrap i64 (x+1)) 2))-0) (Int.toNat (wrap i64 (Int.tdiv (wrap i64 (x+1)) 2))-0),slice (cutAt x_13 (Int.toNat (wrap i64
 (Int.tdiv (wrap i64 (x+1)) 2))) 0 1) (Int.toNat (wrap i64 (Int.tdiv (wrap i64 (x+1)) 2))-0) (Int.toNat (wrap i64 (Int.tdiv (wrap i64 (x+1)) 2))-0),slice none 0 0] 137->S w'_1/\∃ ad,
 x_7=some ad/\(0<=i/\i<(x_8:Int))/\stOK (add ad (Int.toNat i*1)) 0 [pointer (some (mk g 0 none))] w'_1/\∀ w',w'=setAll (add ad (Int.toNat i*1)) 0 [pointer
 (some (mk g 0 none))] w'_1->J w' else ∃ (J:World->Prop),(∀ w,J w->∃ a_6,n=some a_6/\∃ (S:World->Prop),S (drew w)/\∃ x_7 x_8 x_9,(∀ u,S u->cell? u (add a_6 0) =
 some (slice x_7 x_8 x_9))/\∃ ad,x_7=some ad/\(0<=wrap i64 (wrap i64 (Int.tdiv (wrap i64 (x+1)) 2)-1)/\wrap i64 (wrap i64 (Int.tdiv (wrap i64 (x+1)) 2)-1)<(x_8:Int))/\∃
 x_10 x_11 x_12,(∀ u,S u->cell? u (add ad (Int.toNat (wrap i64 (wrap i64 (Int.tdiv (wrap i64 (x+1)) 2)-1))*1))=some (slice x_10 x_11 x_12))/\∃ a_7,n=some a_7/\∃ x_13 x_14
 x_15,(∀ u,S u->cell? u (add a_7 0)=some (slice x_13 x_14 x_15))/\(0<=wrap i64 (Int.tdiv (wrap i64 (x+1)) 2)/\wrap i64 (Int.tdiv (wrap i64 (x+1)) 2)<=(x_14:Int))/\∃ a_8,n =
 some a_8/\∃ x_16 x_17 x_18,(∀ u,S u->cell? u (add a_8 2)=some (slice x_16 x_17 x_18))/\(0<=wrap i64 (Int.tdiv (wrap i64 (x+1)) 2)/\wrap i64 (Int.tdiv (wrap i64 (x+1)) 2) <=
 (x_17:Int))/\CallsV Tryz.prog 107 #[slice (cutAt x_13 x_15 (Int.toNat (wrap i64 (Int.tdiv (wrap i64 (x+1)) 2))) 1) (x_14-Int.toNat (wrap i64 (Int.tdiv (wrap i64 (x+1)) 2))) (x_15-Int.toNat
 (wrap i64 (Int.tdiv (wrap i64 (x+1)) 2)))] (drew w) fun v w'=>∃ x_19 x_20 x_21,v=slice x_19 x_20 x_21/\S w'/\CallsV Tryz.prog 55 #[slice (cutAt x_16 x_18 (Int.toNat (wrap i64 (Int.tdiv (wrap
 i64 (x+1)) 2))) 1) (x_17-Int.toNat (wrap i64 (Int.tdiv (wrap i64 (x+1)) 2))) (x_18-Int.toNat (wrap i64 (Int.tdiv (wrap i64 (x+1)) 2)))] w' fun v w'=>∃ x x_22 x_23,v=slice x x_22 x_23/\S
 w'/\∀ g w'_1,Fresh w' g w'_1 [slice x_19 x_20 x_21,slice none 0 0,slice x x_22 x_23] 137->S w'_1/\CallsV Tryz.prog 85 #[pointer a,pointer (some (mk g 0 none))] w'_1 fun v w'
 => ∃ x,v=int i64 x/\S w'/\K (tuple #[slice x_10 x_11 x_12,int i64 x,bool true]) w')/\∃ a_5,a=some a_5/\∃ (S:World->Prop),S (drew w')/\∃ x_7 x_8 x_9,(∀ u,S u->cell? u
 (add a_5 2)=some (slice x_7 x_8 x_9))/\∃ a,n=some a/\∃ x_10 x_11 x_12,(∀ u,S u->cell? u (add a 0)=some (slice x_10 x_11 x_12))/\(0<=wrap i64 (wrap i64 (Int.tdiv (wrap
 i64 (x+1)) 2)-1)/\wrap i64 (wrap i64 (Int.tdiv (wrap i64 (x+1)) 2)-1)<=(x_12:Int))/\(0<=wrap i64 (wrap i64 (Int.tdiv (wrap i64 (x+1)) 2)-1)/\wrap i64 (wrap i64 (Int.tdiv (wrap i64 (x
 + 1)) 2)-1)<=(↑(Int.toNat (wrap i64 (wrap i64 (Int.tdiv (wrap i64 (x+1)) 2)-1))):Int))/\∃ a,n=some a/\∃ x_13 x_14 x_15,(∀ u,S u->cell? u (add a 2)=some (slice x_13 x_14
 x_15))/\(0<=wrap i64 (Int.tdiv (wrap i64 (x+1)) 2)/\wrap i64 (Int.tdiv (wrap i64 (x+1)) 2)<=(x_15:Int))/\(0<=wrap i64 (Int.tdiv (wrap i64 (x+1)) 2)/\wrap i64 (Int.tdiv (wrap i64 (x+1))
 2)<=(↑(Int.toNat (wrap i64 (Int.tdiv (wrap i64 (x+1)) 2))):Int))/\∀ g w'_1,Fresh (drew w') g w'_1 [slice (cutAt x_10 (Int.toNat (wrap i64 (wrap i64 (Int.tdiv (wrap i64 (x+1)) 2)-1))) 0 1)
 (Int.toNat (wrap i64 (wrap i64 (Int.tdiv (wrap i64 (x+1)) 2)-1))-0) (Int.toNat (wrap i64 (wrap i64 (Int.tdiv (wrap i64 (x+1)) 2)-1))-0),slice none 0 0,slice (cutAt x_13 (Int.toNat
 (wrap i64 (Int.tdiv (wrap i64 (x+1)) 2))) 0 1) (Int.toNat (wrap i64 (Int.tdiv (wrap i64 (x+1)) 2))-0) (Int.toNat (wrap i64 (Int.tdiv (wrap i64 (x+1)) 2))-0)] 137->S w'_1/\∃ ad,x_7 =
 some ad/\(0<=i/\i<(x_8:Int))/\stOK (add ad (Int.toNat i*1)) 0 [pointer (some (mk g 0 none))] w'_1/\∀ w',w'=setAll (add ad (Int.toNat i*1)) 0 [pointer (some
 (mk g 0 none))] w'_1->J w'
theorem tree_Arena_split.calls (ok:Okay Tryz.prog) {a i n w K} (h:tree_Arena_split.W a i n w K):CallsV Tryz.prog 109 #[.pointer a,.int .i64 i,.pointer n] w K :=
  fnW_calls ok Tryz.func109 (an:=(.named (.seq .auto (.seq .auto (.seq .auto (.seq .auto (.seq .auto (.seq (.seq .auto (.cond (.join [] .auto .auto) .auto)) (.join [] .auto .auto))))))))) (args:=[.pointer a,.int .i64 i,.pointer n]) (Eq.mp (by kernel_rfl) h)
noncomputable def tree_Arena_even.W:Option Addr->Int->Int->World->(Value->World->Prop)->Prop:=fun a i k w K=>∃ a_1,a=some a_1/\∃ x x_1 x_2,cell? w (add a_1 2)=some
 (slice x x_1 x_2)/\∃ ad,x=some ad/\(0<=i/\i<(x_1:Int))/\∃ x,cell? w (add ad (Int.toNat i*1))=some (pointer x)/\∃ a_2,a=some a_2/\∃ (S:World->Prop),S (drew
 w)/\∃ x_3 x_4 x_5,(∀ u,S u->cell? u (add a_2 2)=some (slice x_3 x_4 x_5))/\∃ a_3,x=some a_3/\∃ x_6 x_7 x_8,(∀ u,S u->cell? u (add a_3 2)=some (slice x_6 x_7 x_8)) /\
 ∃ ad,x_6=some ad/\(0<=k/\k<(x_7:Int))/\∃ x_9,(∀ u,S u->cell? u (add ad (Int.toNat k*1))=some (int i64 x_9))/\∃ ad,x_3=some ad/\(0<=x_9/\x_9<(x_4:Int))
 /\ ∃ x_10,(∀ u,S u->cell? u (add ad (Int.toNat x_9*1))=some (pointer x_10))/\∃ a_4,a=some a_4/\∃ x_11 x_12 x_13,(∀ u,S u->cell? u (add a_4 2)=some (slice x_11 x_12
 x_13))/\∃ a_5,x=some a_5/\∃ x_14 x_15 x_16,(∀ u,S u->cell? u (add a_5 2)=some (slice x_14 x_15 x_16))/\∃ ad,x_14=some ad/\(0<=wrap i64 (k+1)/\wrap i64 (k+1) <
 (x_15:Int))/\∃ x_17,(∀ u,S u->cell? u (add ad (Int.toNat (wrap i64 (k+1))*1))=some (int i64 x_17))/\∃ ad,x_11=some ad/\(0<=x_17/\x_17<(x_12:Int))/\∃ x_18,(∀ u,S
 u->cell? u (add ad (Int.toNat x_17*1))=some (pointer x_18))/\∃ (J:Option Addr->World->Prop),(∀ x_19 w,J x_19 w->∃ (J:Option Addr->World->Prop),(∀ x_20 w,J x_20 w->CallsV
 Tryz.prog 106 #[pointer x_20] w fun v w'=>∃ x_21,v=int i64 x_21/\∃ a_8,a=some a_8/\∃ x_22,cell? w' (add a_8 0)=some (int i64 x_22)/\bif decide (x_21<=x_22) then ∃
 a_9,a=some a_9/\∃ (S:World->Prop),S (drew w')/\∃ x_23 x_24 x_25,(∀ u,S u->cell? u (add a_9 2)=some (slice x_23 x_24 x_25))/\∃ a_10,x=some a_10/\∃ x_26 x_27 x_28,
 (∀ u,S u->cell? u (add a_10 2)=some (slice x_26 x_27 x_28))/\∃ ad,x_26=some ad/\(0<=k/\k<(x_27:Int))/\∃ x_29,(∀ u,S u->cell? u (add ad (Int.toNat k*1))=some
 (int i64 x_29))/\∃ ad,x_23=some ad/\(0<=x_29/\x_29<(x_24:Int))/\stOK (add ad (Int.toNat x_29*1)) 0 [pointer x_20] (drew w')/\∀ w'_1,w'_1=setAll (add ad (Int.toNat x_29*1)) 0
 [pointer x_20] (drew w')->∃ a_12,x=some a_12/\∃ x_30 x_31 x_32,cell? w'_1 (add a_12 2)=some (slice x_30 x_31 x_32)/\∃ ad,x_30=some ad/\(0<=wrap i64 (k+1)/\wrap i64
 (k+1)<(x_31:Int))/\∃ x_33,cell? w'_1 (add ad (Int.toNat (wrap i64 (k+1))*1))=some (int i64 x_33)/\CallsV Tryz.prog 80 #[pointer a,int i64 x_33] w'_1 fun v w'=>v=tuple #[]/\∃
 a_13,a=some a_13/\∃ (S:World->Prop),S (drew w')/\∃ x_34 x_35 x_36,(∀ u,S u->cell? u (add a_13 2)=some (slice x_34 x_35 x_36))/\∃ a,x=some a/\∃ x_37 x_38 x_39,(∀
 u,S u->cell? u (add a 0)=some (slice x_37 x_38 x_39))/\∃ a,x=some a/\∃ x x_40 x_41,(∀ u,S u->cell? u (add a 2)=some (slice x x_40 x_41))/\CallsV Tryz.prog 107
 #[slice x_37 x_38 x_39] (drew w') fun v w'=>∃ x_42 x_43 x_44,v=slice x_42 x_43 x_44/\S w'/\CallsV Tryz.prog 111 #[slice x_42 x_43 x_44,int i64 k,int i64 (wrap i64 (k+1))] w' fun v w'=>∃
 x_45 x_46 x_47,v=slice x_45 x_46 x_47/\S w'/\CallsV Tryz.prog 55 #[slice x x_40 x_41] w' fun v w'=>∃ x x_48 x_49,v=slice x x_48 x_49/\S w'/\CallsV Tryz.prog 120 #[slice x x_48 x_49,int i64
 (wrap i64 (k+1)),int i64 (wrap i64 (k+2))] w' fun v w'=>∃ x x_50 x_51,v=slice x x_50 x_51/\S w'/\∀ g w'_2,Fresh w' g w'_2 [slice x_45 x_46 x_47,slice none 0 0,slice x x_50 x_51]
 137->S w'_2/\∃ ad,x_34=some ad/\(0<=i/\i<(x_35:Int))/\stOK (add ad (Int.toNat i*1)) 0 [pointer (some (mk g 0 none))] w'_2/\∀ w',w'=setAll (add ad (Int.toNat i *
 1)) 0 [pointer (some (mk g 0 none))] w'_2->K (tuple #[]) w' else ∃ a_9,x=some a_9/\∃ x_23 x_24 x_25,cell? w' (add a_9 0)=some (slice x_23 x_24 x_25)/\CallsV
 Tryz.prog 107 #[slice x_23 x_24 x_25] w' fun v w'=>∃ x_26 x_27 x_28,v=slice x_26 x_27 x_28/\CallsV Tryz.prog 106 #[pointer x_20] w' fun v w'=>∃ x_29,v=int i64 x_29/\(2: Int)≠0/\∃ a_10,
 x_20=some a_10/\∃ x_30 x_31 x_32,cell? w' (add a_10 2)=some (slice x_30 x_31 x_32)/\bif Option.isNone x_30 then ∃ (J:World->Prop),(∀ w,J w->∃ (J:World->Prop),(∀ w,J w ->
 ∃ a_13,x_20=some a_13/\∃ x_33 x_34 x_35,cell? w (add a_13 0)=some (slice x_33 x_34 x_35)/\∃ ad,x_33=some ad/\(0<=wrap i64 (Int.tdiv x_29 2)/\wrap i64 (Int.tdiv x_29
 2)<(x_34:Int))/\∃ x_36 x_37 x_38,cell? w (add ad (Int.toNat (wrap i64 (Int.tdiv x_29 2))*1))=some (slice x_36 x_37 x_38)/\∃ ad,x_26=some ad/\(0<=k/\k<(x_27:Int)) /\
 stOK (add ad (Int.toNat k*1)) 0 [slice x_36 x_37 x_38] w/\∀ w',w'=setAll (add ad (Int.toNat k*1)) 0 [slice x_36 x_37 x_38] w->∃ a_15,a=some a_15/\∃ (S:World->Prop),S (drew w') /\
 ∃ x_39 x_40 x_41,(∀ u,S u->cell? u (add a_15 2)=some (slice x_39 x_40 x_41))/\∃ a,x=some a/\∃ x x_42 x_43,(∀ u,S u->cell? u (add a 2)=some (slice x x_42 x_43))/\∀ g
 w'_1,Fresh (drew w') g w'_1 [slice x_26 x_27 x_28,slice none 0 0,slice x x_42 x_43] 137->S w'_1/\∃ ad,x_39=some ad/\(0<=i/\i<(x_40:Int))/\stOK (add ad (Int.toNat i*1)) 0
 [pointer (some (mk g 0 none))] w'_1/\∀ w',w'=setAll (add ad (Int.toNat i*1)) 0 [pointer (some (mk g 0 none))] w'_1->K (tuple #[]) w')/\∃ a_12,a=some a_12 /\
 ∃ (S:World->Prop),S (drew w)/\∃ x_33 x_34 x_35,(∀ u,S u->cell? u (add a_12 2)=some (slice x_33 x_34 x_35))/\∃ a,x=some a/\∃ x x_36 x_37,(∀ u,S u->cell? u (add a 2) =
 some (slice x x_36 x_37))/\∃ ad,x=some ad/\(0<=wrap i64 (k+1)/\wrap i64 (k+1)<(x_36:Int))/\∃ x,(∀ u,S u->cell? u (add ad (Int.toNat (wrap i64 (k+1))*1)) =
 some (int i64 x))/\∃ a,x_20=some a/\∃ x_38 x_39 x_40,(∀ u,S u->cell? u (add a 0)=some (slice x_38 x_39 x_40))/\(0<=wrap i64 (Int.tdiv x_29 2)/\wrap i64 (Int.tdiv x_29
 2)<=(x_39:Int))/\∃ a,x_20=some a/\∃ x_41 x_42 x_43,(∀ u,S u->cell? u (add a 1)=some (slice x_41 x_42 x_43))/\(0<=wrap i64 (Int.tdiv x_29 2)/\wrap i64 (Int.tdiv x_29 2) <=
 (x_42:Int))/\CallsV Tryz.prog 107 #[slice (cutAt x_38 x_40 (Int.toNat (wrap i64 (Int.tdiv x_29 2))) 1) (x_39-Int.toNat (wrap i64 (Int.tdiv x_29 2))) (x_40-Int.toNat (wrap i64 (Int.tdiv x_29
 2)))] (drew w) fun v w'=>∃ x_44 x_45 x_46,v=slice x_44 x_45 x_46/\S w'/\CallsV Tryz.prog 107 #[slice (cutAt x_41 x_43 (Int.toNat (wrap i64 (Int.tdiv x_29 2))) 1) (x_42-Int.toNat (wrap i64
 (Int.tdiv x_29 2))) (x_43-Int.toNat (wrap i64 (Int.tdiv x_29 2)))] w' fun v w'=>∃ x_47 x_48 x_49,v=slice x_47 x_48 x_49/\S w'/\∀ g w'_1,Fresh w' g w'_1 [slice x_44 x_45 x_46,slice x_47 x_48
 x_49,slice none 0 0] 137->S w'_1/\∃ ad,x_33=some ad/\(0<=x/\x<(x_34:Int))/\stOK (add ad (Int.toNat x*1)) 0 [pointer (some (mk g 0 none))] w'_1/\∀ w',w' =
 setAll (add ad (Int.toNat x*1)) 0 [pointer (some (mk g 0 none))] w'_1->J w')/\∃ a_11,a=some a_11/\∃ (S:World->Prop),S (drew w')/\∃ x_33 x_34 x_35,(∀ u,S u->cell? u
 (add a_11 2)=some (slice x_33 x_34 x_35))/\∃ a,x=some a/\∃ x x_36 x_37,(∀ u,S u->cell? u (add a 2)=some (slice x x_36 x_37))/\∃ ad,x=some ad/\(0<=k/\k <
 (x_36:Int))/\∃ x,(∀ u,S u->cell? u (add ad (Int.toNat k*1))=some (int i64 x))/\∃ a,x_20=some a/\∃ x_38 x_39 x_40,(∀ u,S u->cell? u (add a 0)=some (slice x_38
 x_39 x_40))/\(0<=wrap i64 (Int.tdiv x_29 2)/\wrap i64 (Int.tdiv x_29 2)<=(x_40:Int))/\∃ a,x_20=some a/\∃ x_41 x_42 x_43,(∀ u,S u->cell? u (add a 1)=some (slice x_41 x_42
 x_43))/\(0<=wrap i64 (Int.tdiv x_29 2)/\wrap i64 (Int.tdiv x_29 2)<=(x_43:Int))/\CallsV Tryz.prog 107 #[slice (cutAt x_38 x_40 0 1) (Int.toNat (wrap i64 (Int.tdiv x_29 2))-0) (x_40-0)] (drew
 w') fun v w'=>∃ x_44 x_45 x_46,v=slice x_44 x_45 x_46/\S w'/\CallsV Tryz.prog 107 #[slice (cutAt x_41 x_43 0 1) (Int.toNat (wrap i64 (Int.tdiv x_29 2))-0) (x_43-0)] w' fun v w'=>∃ x_47
 x_48 x_49,v=slice x_47 x_48 x_49/\S w'/\∀ g w'_1,Fresh w' g w'_1 [slice x_44 x_45 x_46,slice x_47 x_48 x_49,slice none 0 0] 137->S w'_1/\∃ ad,x_33=some ad/\(0<=x/\x <
 (x_34:Int))/\stOK (add ad (Int.toNat x*1)) 0 [pointer (some (mk g 0 none))] w'_1/\∀ w',w'=setAll (add ad (Int.toNat x*1)) 0 [pointer (some (mk g 0 none))] w'_1 ->
 J w' else ∃ (J:World->Prop),(∀ w,J w->∃ (J:World->Prop),(∀ w,J w->∃ a_13,x_20=some a_13/\∃ x_33 x_34 x_35,cell? w (add a_13 0)=some (slice x_33 x_34 x_35)/\∃ ad,x_33
 = some ad/\(0<=wrap i64 (wrap i64 (Int.tdiv x_29 2)-1)/\wrap i64 (wrap i64 (Int.tdiv x_29 2)-1)<(x_34:Int))/\∃ x_36 x_37 x_38,cell? w (add ad (Int.toNat (wrap i64 (wrap i64
 (Int.tdiv x_29 2)-1))*1))=some (slice x_36 x_37 x_38)/\∃ ad,x_26=some ad/\(0<=k/\k<(x_27:Int))/\stOK (add ad (Int.toNat k*1)) 0 [slice x_36 x_37 x_38] w/\∀ w',w' =
 setAll (add ad (Int.toNat k*1)) 0 [slice x_36 x_37 x_38] w->∃ a_15,a=some a_15/\∃ (S:World->Prop),S (drew w')/\∃ x_39 x_40 x_41,(∀ u,S u->cell? u (add a_15 2)=some (slice
 x_39 x_40 x_41))/\∃ a,x=some a/\∃ x x_42 x_43,(∀ u,S u->cell? u (add a 2)=some (slice x x_42 x_43))/\∀ g w'_1,Fresh (drew w') g w'_1 [slice x_26 x_27 x_28,slice none 0
 0,slice x x_42 x_43] 137->S w'_1/\∃ ad,x_39=some ad/\(0<=i/\i<(x_40:Int))/\stOK (add ad (Int.toNat i*1)) 0 [pointer (some (mk g 0 none))] w'_1/\∀ w',w'=setAll
 (add ad (Int.toNat i*1)) 0 [pointer (some (mk g 0 none))] w'_1->K (tuple #[]) w')/\∃ a_12,a=some a_12/\∃ (S:World->Prop),S (drew w)/\∃ x_33 x_34 x_35,(∀ u,S u ->
 cell? u (add a_12 2)=some (slice x_33 x_34 x_35))/\∃ a,x=some a/\∃ x x_36 x_37,(∀ u,S u->cell? u (add a 2)=some (slice x x_36 x_37))/\∃ ad,x=some ad/\(0 <=
 wrap i64 (k+1)/\wrap i64 (k+1)<(x_36:Int))/\∃ x,(∀ u,S u->cell? u (add ad (Int.toNat (wrap i64 (k+1))*1))=some (int i64 x))/\∃ a,x_20=some a/\∃ x_38 x_39 x_40,(∀
 u,S u->cell? u (add a 0)=some (slice x_38 x_39 x_40))/\(0<=wrap i64 (Int.tdiv x_29 2)/\wrap i64 (Int.tdiv x_29 2)<=(x_39:Int))/\∃ a,x_20=some a/\∃ x_41 x_42 x_43,(∀ u,S u
 -> cell? u (add a 2)=some (slice x_41 x_42 x_43))/\(0<=wrap i64 (Int.tdiv x_29 2)/\wrap i64 (Int.tdiv x_29 2)<=(x_42:Int))/\CallsV Tryz.prog 107 #[slice (cutAt x_38 x_40 (Int.toNat (wrap
 i64 (Int.tdiv x_29 2))) 1) (x_39-Int.toNat (wrap i64 (Int.tdiv x_29 2))) (x_40-Int.toNat (wrap i64 (Int.tdiv x_29 2)))] (drew w) fun v w'=>∃ x_44 x_45 x_46,v=slice x_44 x_45 x_46/\S w' /\
 CallsV Tryz.prog 55 #[slice (cutAt x_41 x_43 (Int.toNat (wrap i64 (Int.tdiv x_29 2))) 1) (x_42-Int.toNat (wrap i64 (Int.tdiv x_29 2))) (x_43-Int.toNat (wrap i64 (Int.tdiv x_29 2)))] w' fun v w' =>
 ∃ x_47 x_48 x_49,v=slice x_47 x_48 x_49/\S w'/\∀ g w'_1,Fresh w' g w'_1 [slice x_44 x_45 x_46,slice none 0 0,slice x_47 x_48 x_49] 137->S w'_1/\∃ ad,x_33=some ad/\(0<=x/\x
 < (x_34:Int))/\stOK (add ad (Int.toNat x*1)) 0 [pointer (some (mk g 0 none))] w'_1/\∀ w',w'=setAll (add ad (Int.toNat x*1)) 0 [pointer (some (mk g 0 none))] w'_1
 -> J w')/\∃ a_11,a=some a_11/\∃ (S:World->Prop),S (drew w')/\∃ x_33 x_34 x_35,(∀ u,S u->cell? u (add a_11 2)=some (slice x_33 x_34 x_35))/\∃ a,x=some a/\∃ x x_36
 x_37,(∀ u,S u->cell? u (add a 2)=some (slice x x_36 x_37))/\∃ ad,x=some ad/\(0<=k/\k<(x_36:Int))/\∃ x,(∀ u,S u->cell? u (add ad (Int.toNat k*1))=some (int
 i64 x))/\∃ a,x_20=some a/\∃ x_38 x_39 x_40,(∀ u,S u->cell? u (add a 0)=some (slice x_38 x_39 x_40))/\(0<=wrap i64 (wrap i64 (Int.tdiv x_29 2)-1)/\wrap i64 (wrap i64
 (Int.tdiv x_29 2)-1)<=(x_40:Int))/\∃ a,x_20=some a/\∃ x_41 x_42 x_43,(∀ u,S u->cell? u (add a 2)=some (slice x_41 x_42 x_43))/\(0<=wrap i64 (Int.tdiv x_29 2)/\wrap i64
 (Int.tdiv x_29 2)<=(x_43:Int))/\CallsV Tryz.prog 107 #[slice (cutAt x_38 x_40 0 1) (Int.toNat (wrap i64 (wrap i64 (Int.tdiv x_29 2)-1))-0) (x_40-0)] (drew w') fun v w'=>∃ x_44 x_45 x_46,v
 = slice x_44 x_45 x_46/\S w'/\CallsV Tryz.prog 55 #[slice (cutAt x_41 x_43 0 1) (Int.toNat (wrap i64 (Int.tdiv x_29 2))-0) (x_43-0)] w' fun v w'=>∃ x_47 x_48 x_49,v=slice x_47 x_48 x_49/\S
 w'/\∀ g w'_1,Fresh w' g w'_1 [slice x_44 x_45 x_46,slice none 0 0,slice x_47 x_48 x_49] 137->S w'_1/\∃ ad,x_33=some ad/\(0<=x/\x<(x_34:Int))/\stOK (add ad (Int.toNat x *
 1)) 0 [pointer (some (mk g 0 none))] w'_1/\∀ w',w'=setAll (add ad (Int.toNat x*1)) 0 [pointer (some (mk g 0 none))] w'_1->J w')/\∃ a,x_10=some a/\∃ x_20
 x_21 x_22,cell? w (add a 2)=some (slice x_20 x_21 x_22)/\bif !Option.isNone x_20 then ∃ a,x_10=some a/\∃ (S:World->Prop),S (drew w)/\∃ x_23 x_24 x_25,(∀ u,S u->cell? u
 (add a 0)=some (slice x_23 x_24 x_25))/\∃ a,x=some a/\∃ x x_26 x_27,(∀ u,S u->cell? u (add a 0)=some (slice x x_26 x_27))/\∃ ad,x=some ad/\(0<=k/\k <
 (x_26:Int))/\∃ x x_28 x_29,(∀ u,S u->cell? u (add ad (Int.toNat k*1))=some (slice x x_28 x_29))/\∃ a,x_18=some a/\∃ x_30 x_31 x_32,(∀ u,S u->cell? u (add a 0) =
 some (slice x_30 x_31 x_32))/\∃ a,x_10=some a/\∃ x_33 x_34 x_35,(∀ u,S u->cell? u (add a 2)=some (slice x_33 x_34 x_35))/\∃ a,x_18=some a/\∃ x_36 x_37 x_38,
 (∀ u,S u->cell? u (add a 2)=some (slice x_36 x_37 x_38))/\(∀ g w',Fresh (drew w) g w' [slice x x_28 x_29] 30->S w'/\(∀ g_1 w'_1,Fresh w' g_1 w'_1 [slice x_23 x_24 x_25,slice
 (some (mk g 0 none)) 1 1,slice x_30 x_31 x_32] 46->S w'_1/\(CallsV Tryz.prog 118 #[slice (some (mk g_1 0 none)) 3 3] w'_1 fun v w'=>∃ x x_39 x_40,v=slice x x_39 x_40
 /\ S w'/\∀ g w'_2,Fresh w' g w'_2 [slice x_33 x_34 x_35,slice x_36 x_37 x_38] 39->S w'_2/\CallsV Tryz.prog 119 #[slice (some (mk g 0 none)) 2 2] w'_2 fun v w'=>∃ x_41 x_42 x_43,v =
 slice x_41 x_42 x_43/\S w'/\∀ g w'_3,Fresh w' g w'_3 [slice x x_39 x_40,slice none 0 0,slice x_41 x_42 x_43] 137->S w'_3/\J (some (mk g 0 none)) w'_3)/\∀ g w',Fresh w'_1 g
 w' [slice x_33 x_34 x_35,slice x_36 x_37 x_38] 39->S w'/\CallsV Tryz.prog 118 #[slice (some (mk g_1 0 none)) 3 3] w' fun v w'=>∃ x x_39 x_40,v=slice x x_39 x_40/\S w'/\CallsV
 Tryz.prog 119 #[slice (some (mk g 0 none)) 2 2] w' fun v w'=>∃ x_41 x_42 x_43,v=slice x_41 x_42 x_43/\S w'/\∀ g w'_2,Fresh w' g w'_2 [slice x x_39 x_40,slice none 0 0,
 slice x_41 x_42 x_43] 137->S w'_2/\J (some (mk g 0 none)) w'_2)/\∀ g_1 w'_1,Fresh w' g_1 w'_1 [slice x_33 x_34 x_35,slice x_36 x_37 x_38] 39->S w'_1/\∀ g_2 w',Fresh w'_1 g_2 w'
 [slice x_23 x_24 x_25,slice (some (mk g 0 none)) 1 1,slice x_30 x_31 x_32] 46->S w'/\CallsV Tryz.prog 118 #[slice (some (mk g_2 0 none)) 3 3] w' fun v w'=>∃ x x_39
 x_40,v=slice x x_39 x_40/\S w'/\CallsV Tryz.prog 119 #[slice (some (mk g_1 0 none)) 2 2] w' fun v w'=>∃ x_41 x_42 x_43,v=slice x_41 x_42 x_43/\S w'/\∀ g w'_2,Fresh w' g w'_2
 [slice x x_39 x_40,slice none 0 0,slice x_41 x_42 x_43] 137->S w'_2/\J (some (mk g 0 none)) w'_2)/\∀ g w',Fresh (drew w) g w' [slice x_33 x_34 x_35,slice x_36 x_37 x_38] 39
 -> S w'/\∀ g_1 w'_1,Fresh w' g_1 w'_1 [slice x x_28 x_29] 30->S w'_1/\∀ g_2 w',Fresh w'_1 g_2 w' [slice x_23 x_24 x_25,slice (some (mk g_1 0 none)) 1 1,slice x_30 x_31 x_32] 46->S
 w'/\CallsV Tryz.prog 118 #[slice (some (mk g_2 0 none)) 3 3] w' fun v w'=>∃ x x_39 x_40,v=slice x x_39 x_40/\S w'/\CallsV Tryz.prog 119 #[slice (some (mk g 0 none))
 2 2] w' fun v w'=>∃ x_41 x_42 x_43,v=slice x_41 x_42 x_43/\S w'/\∀ g w'_2,Fresh w' g w'_2 [slice x x_39 x_40,slice none 0 0,slice x_41 x_42 x_43] 137->S w'_2/\J (some (mk g 0
 none)) w'_2 else J x_19 w)/\∃ a,x_10=some a/\∃ (S:World->Prop),S (drew (drew w))/\∃ x x_19 x_20,(∀ u,S u->cell? u (add a 0)=some (slice x x_19 x_20))/\∃ a,x_18 =
 some a/\∃ x_21 x_22 x_23,(∀ u,S u->cell? u (add a 0)=some (slice x_21 x_22 x_23))/\∃ a,x_10=some a/\∃ x_24 x_25 x_26,(∀ u,S u->cell? u (add a 1)=some (slice
 x_24 x_25 x_26))/\∃ a,x_18=some a/\∃ x_27 x_28 x_29,(∀ u,S u->cell? u (add a 1)=some (slice x_27 x_28 x_29))/\(∀ g w',Fresh (drew (drew w)) g w' [slice x x_19 x_20,slice x_21
 x_22 x_23] 46->S w'/\(CallsV Tryz.prog 118 #[slice (some (mk g 0 none)) 2 2] w' fun v w'=>∃ x x_30 x_31,v=slice x x_30 x_31/\S w'/\∀ g w'_1,Fresh w' g w'_1 [slice x_24 x_25
 x_26,slice x_27 x_28 x_29] 46->CallsV Tryz.prog 118 #[slice (some (mk g 0 none)) 2 2] w'_1 fun v w'=>∃ x_32 x_33 x_34,v=slice x_32 x_33 x_34/\∀ g w'_2,Fresh w' g w'_2 [slice x
 x_30 x_31,slice x_32 x_33 x_34,slice none 0 0] 137->J (some (mk g 0 none)) w'_2)/\∀ g_1 w'_1,Fresh w' g_1 w'_1 [slice x_24 x_25 x_26,slice x_27 x_28 x_29] 46->CallsV
 Tryz.prog 118 #[slice (some (mk g 0 none)) 2 2] w'_1 fun v w'=>∃ x x_30 x_31,v=slice x x_30 x_31/\CallsV Tryz.prog 118 #[slice (some (mk g_1 0 none)) 2 2] w' fun v w'
 => ∃ x_32 x_33 x_34,v=slice x_32 x_33 x_34/\∀ g w'_2,Fresh w' g w'_2 [slice x x_30 x_31,slice x_32 x_33 x_34,slice none 0 0] 137->J (some (mk g 0 none)) w'_2)/\∀ g w',
 Fresh (drew (drew w)) g w' [slice x_24 x_25 x_26,slice x_27 x_28 x_29] 46->S w'/\∀ g_1 w'_1,Fresh w' g_1 w'_1 [slice x x_19 x_20,slice x_21 x_22 x_23] 46->CallsV Tryz.prog 118 #[slice
 (some (mk g_1 0 none)) 2 2] w'_1 fun v w'=>∃ x x_30 x_31,v=slice x x_30 x_31/\CallsV Tryz.prog 118 #[slice (some (mk g 0 none)) 2 2] w' fun v w'=>∃ x_32 x_33 x_34,v
 = slice x_32 x_33 x_34/\∀ g w'_2,Fresh w' g w'_2 [slice x x_30 x_31,slice x_32 x_33 x_34,slice none 0 0] 137->J (some (mk g 0 none)) w'_2
theorem tree_Arena_even.calls (ok:Okay Tryz.prog) {a i k w K} (h:tree_Arena_even.W a i k w K):CallsV Tryz.prog 112 #[.pointer a,.int .i64 i,.int .i64 k] w K :=
  fnW_calls ok Tryz.func112 (an:=(.named (.seq .auto (.seq .auto (.join [(9,.one .ptr)] .auto (.join [(9,.one .ptr)] .auto (.seq .auto (.seq .auto (.seq .auto (.seq (.seq .auto (.cond (.join [] .auto (.join [] .auto .auto)) (.join [] .auto (.join [] .auto .auto)))) .auto)))))))))) (args:=[.pointer a,.int .i64 i,.int .i64 k]) (Eq.mp (by kernel_rfl) h)
noncomputable def bytes_Compare.W:Option Addr->Nat->Nat->Option Addr->Nat->Nat->World->(Value->World->Prop)->Prop:=fun a_A a_n a_c b_A b_n b_c w K=>∃ x w',RunsTo Tryz.prog (callFunc
 105 #[slice a_A a_n a_c,slice b_A b_n b_c]) w (Next.value (int i64 x)) w'/\K (int i64 x) w'
theorem bytes_Compare.calls (ok:Okay Tryz.prog) {a_A a_n a_c b_A b_n b_c w K} (h:bytes_Compare.W a_A a_n a_c b_A b_n b_c w K):CallsV Tryz.prog 88 #[.slice a_A a_n a_c,.slice b_A b_n b_c] w K :=
  fnW_calls ok Tryz.func88 (an:=(.named .auto)) (args:=[.slice a_A a_n a_c,.slice b_A b_n b_c]) (Eq.mp (by kernel_rfl) h)
end Go.Proofs.YthfagbfllheneaaGreat
set_option linter.unusedVariables false
set_option linter.unusedSimpArgs false
namespace R1
open Go.Sx
structure V where
  k:Int
  n:Int
  s:ByteArray
def right (v:V):Bool :=
  if v.k=0 then decide (v.n=0/\v.s.size=0) else if v.k=1 then decide (v.s.size=0) else if v.k=2\/v.k=3 then decide (v.n=0/\v.s.size<=65536) else false
def good (v:V):Prop:=(0<=v.k/\v.k<=255)/\(-9223372036854775808<=v.n/\v.n<=9223372036854775807)/\v.s.size<=Go.maxLen
/-! ## numbers -/
def fits (n:Int) (k:Nat):Bool:=decide (-(2 ^ (8*k-1):Nat)<=n/\n<(2 ^ (8*k-1):Nat))
def wideFrom (n:Int):Nat->Nat->Nat
  | 0,k=>k
  | f+1,k=>if fits n k then k else wideFrom n f (k+1)
def wide (n:Int):Nat:=wideFrom n 7 1
def hi (m:Nat):Nat->List UInt8
  | 0=>[]
  | k+1=>(m / 256 ^ k % 256).toUInt8::hi m k
/-! ## keys -/
def esc:List UInt8->List UInt8
  | []=>[]
  | c::r=>if c=0 then 0::255::esc r else c::esc r
def kpart (v:V):List UInt8 :=
  if v.k=0 then [1] else if v.k=1 then 2::hi (v.n+9223372036854775808).toNat 8 else (if v.k=2 then 3 else 4)::esc (sb v.s)++[0,0]
def tn (d:Bool) (l:List UInt8):List UInt8:=if d then l.map (fun b=>~~~b) else l
def key:List V->List Bool->List UInt8
  | v::vs,d::ds=>tn d (kpart v)++key vs ds
  | _,_=>[]
/-! ## rows -/
def body (v:V):List UInt8:=(if v.k=1 then hi (v.n % 18446744073709551616).toNat (wide v.n) else [])++sb v.s
end R1
set_option linter.unusedVariables false
set_option linter.unusedSimpArgs false
namespace Go.Proofs.YthfagbfllheneaaGreat
open Go Go.Sx R1
theorem okay:Okay Tryz.prog:=⟨by kernel_rfl,by kernel_rfl⟩
theorem brnS {l l':List UInt8} {A B:Prop} (h1:l≠l'->A) (h2:l=l'->B):cond (!(ByteArray.toList ⟨l.toArray⟩ == ByteArray.toList ⟨l'.toArray⟩)) A B:=by rw [eq_str];exact brn h1 h2
def vc (v:V):List Value:=[.int .u8 v.k,.int .i64 v.n,.string v.s]
end Go.Proofs.YthfagbfllheneaaGreat
set_option linter.unusedVariables false
set_option linter.unusedSimpArgs false
namespace T4
open Go.Lib
abbrev Key:=List UInt8
abbrev Es:=List (Key×Key)
/-! ## the order of keys -/
def lt (a b:Key):Prop:=compareBytes a b<0
instance (a b:Key):Decidable (lt a b):=inferInstanceAs (Decidable (_<_))
theorem cmp_self:∀ a:Key,compareBytes a a=0
  | []=>rfl
  | x::a=>by
    have h:¬ x<x:=fun h=>by rw [UInt8.lt_iff_toNat_lt] at h;omega
    rw [compareBytes,if_neg h,if_neg h,cmp_self a]
theorem cmp_zero:∀ a b:Key,compareBytes a b=0->a=b
  | [],[],_=>rfl
  | [],_::_,h=>by simp [compareBytes] at h
  | _::_,[],h=>by simp [compareBytes] at h
  | x::a,y::b,h=>by
    rw [compareBytes] at h
    split at h
    · cases h
    · split at h
      · cases h
      · rename_i h1 h2
        rw [UInt8.lt_iff_toNat_lt] at h1 h2
        have:x=y:=UInt8.toNat_inj.1 (by omega)
        rw [this,cmp_zero a b h]
theorem cmp_turn:∀ a b:Key,compareBytes b a=- compareBytes a b
  | [],[]=>rfl
  | [],_::_=>rfl
  | _::_,[]=>rfl
  | x::a,y::b=>by
    rw [compareBytes,compareBytes]
    by_cases h1:x<y
    · have h2:¬ y<x:=fun h=>by rw [UInt8.lt_iff_toNat_lt] at h h1;omega
      rw [if_neg h2,if_pos h1,if_pos h1];rfl
    · by_cases h2:y<x
      · rw [if_pos h2,if_neg h1,if_pos h2]
      · rw [if_neg h2,if_neg h1,if_neg h1,if_neg h2,cmp_turn a b]
theorem cmp_range:∀ a b:Key,compareBytes a b=-1\/compareBytes a b=0\/compareBytes a b=1
  | [],[]=>.inr (.inl rfl)
  | [],_::_=>.inl rfl
  | _::_,[]=>.inr (.inr rfl)
  | x::a,y::b=>by
    rw [compareBytes]
    split
    · exact .inl rfl
    · split
      · exact .inr (.inr rfl)
      · exact cmp_range a b
theorem lt_trans:∀ {a b c:Key},lt a b->lt b c->lt a c:=by
  intro a
  unfold lt
  induction a with
  | nil =>
    intro b c h1 h2
    cases b with
    | nil=>simp [compareBytes] at h1
    | cons y b =>
      cases c with
      | nil=>simp [compareBytes] at h2
      | cons z c=>simp [compareBytes]
  | cons x a ih =>
    intro b c h1 h2
    cases b with
    | nil=>simp [compareBytes] at h1
    | cons y b =>
      cases c with
      | nil=>simp [compareBytes] at h2
      | cons z c =>
        rw [compareBytes] at h1 h2 ⊢
        simp only [UInt8.lt_iff_toNat_lt] at h1 h2 ⊢
        split at h1
        · split at h2
          · rw [if_pos (by omega)];decide
          · split at h2
            · cases h2
            · rw [if_pos (by omega)];decide
        · split at h1
          · cases h1
          · split at h2
            · rw [if_pos (by omega)];decide
            · split at h2
              · cases h2
              · rw [if_neg (by omega),if_neg (by omega)]
                exact ih h1 h2
theorem lt_irrefl (a:Key):¬ lt a a:=by unfold lt;rw [cmp_self];decide
theorem lt_asymm {a b:Key} (h:lt a b):¬ lt b a:=fun h'=>lt_irrefl a (lt_trans h h')
theorem lt_ne {a b:Key} (h:lt a b):a≠b:=fun e=>by subst e;exact lt_irrefl a h
theorem lt_tri (a b:Key):lt a b\/a=b\/lt b a:=by
  unfold lt
  rcases cmp_range a b with h|h|h
  · exact .inl (by omega)
  · exact .inr (.inl (cmp_zero a b h))
  · exact .inr (.inr (by rw [cmp_turn a b];omega))
theorem nlt {a b:Key} (h:¬ lt a b):b=a\/lt b a:=by
  rcases lt_tri a b with h'|h'|h'
  · exact absurd h' h
  · exact .inl h'.symm
  · exact .inr h'
theorem lt_of_lt_nlt {a b c:Key} (h:lt a b) (h':¬ lt c b):lt a c:=by
  rcases nlt h' with e|h2
  · subst e;exact h
  · exact lt_trans h h2
theorem lt_of_nlt_lt {a b c:Key} (h:¬ lt b a) (h':lt b c):lt a c:=by
  rcases nlt h with e|h2
  · subst e;exact h'
  · exact lt_trans h2 h'
abbrev Up (ks:List Key):Prop:=ks.Pairwise lt
/-! ## a place among keys -/
def pos (ks:List Key) (key:Key):Nat:=(ks.takeWhile fun k=>decide (lt k key)).length
def has (ks:List Key) (key:Key):Bool:=decide (ks[pos ks key]?=some key)
def bel (ks:List Key) (key:Key):Nat:=(ks.takeWhile fun k=>!decide (lt key k)).length
theorem pos_le (ks:List Key) (key:Key):pos ks key<=ks.length:=by unfold pos;exact (List.takeWhile_sublist _).length_le
theorem bel_le (ks:List Key) (key:Key):bel ks key<=ks.length:=by unfold bel;exact (List.takeWhile_sublist _).length_le
theorem pos_cons (k:Key) (ks:List Key) (key:Key):pos (k::ks) key=if lt k key then pos ks key+1 else 0:=by
  unfold pos
  rw [List.takeWhile_cons]
  by_cases h:lt k key<;>simp [h]
theorem bel_cons (k:Key) (ks:List Key) (key:Key):bel (k::ks) key=if lt key k then 0 else bel ks key+1:=by
  unfold bel
  rw [List.takeWhile_cons]
  by_cases h:lt key k<;>simp [h]
theorem has_cons (k:Key) (ks:List Key) (key:Key):has (k::ks) key=if lt k key then has ks key else decide (k=key):=by
  unfold has
  rw [pos_cons]
  by_cases h:lt k key<;>simp [h]
theorem bel_pos {ks:List Key} (h:Up ks) (key:Key):bel ks key=pos ks key+(if has ks key then 1 else 0):=by
  induction ks with
  | nil=>rfl
  | cons k ks ih =>
    obtain ⟨h1,h2⟩:=List.pairwise_cons.1 h
    rw [bel_cons,pos_cons,has_cons]
    rcases lt_tri k key with h3|h3|h3
    · rw [if_neg (lt_asymm h3),if_pos h3,if_pos h3,ih h2];omega
    · subst h3
      rw [if_neg (lt_irrefl _),if_neg (lt_irrefl _),if_neg (lt_irrefl _)]
      have:bel ks k=0:=by
        cases ks with
        | nil=>rfl
        | cons y ks=>rw [bel_cons,if_pos (h1 y (by simp))]
      simp [this]
    · rw [if_pos h3,if_neg (lt_asymm h3),if_neg (lt_asymm h3)]
      have:decide (k=key)=false:=by simpa using (fun e:k=key=>lt_irrefl key (e▸h3))
      rw [this];rfl
theorem pos_lt {ks:List Key} {key:Key} {j:Nat} (h:j<pos ks key) (hj:j<ks.length):lt ks[j] key:=by
  induction ks generalizing j with
  | nil=>simp at hj
  | cons k ks ih =>
    rw [pos_cons] at h
    split at h
    · cases j with
      | zero=>assumption
      | succ j=>exact ih (by omega) (by simpa using hj)
    · omega
theorem pos_ge {ks:List Key} (hu:Up ks) {key:Key} {j:Nat} (h:pos ks key<=j) (hj:j<ks.length):¬ lt ks[j] key:=by
  induction ks generalizing j with
  | nil=>simp at hj
  | cons k ks ih =>
    obtain ⟨h1,h2⟩:=List.pairwise_cons.1 hu
    rw [pos_cons] at h
    split at h
    · cases j with
      | zero=>omega
      | succ j=>exact ih h2 (by omega) (by simpa using hj)
    · rename_i hk
      cases j with
      | zero=>exact hk
      | succ j =>
        intro h3
        exact hk (lt_trans (h1 (ks[j]'(by simpa using hj)) (by simp)) h3)
theorem pos_unique {ks:List Key} (hu:Up ks) {key:Key} {i:Nat} (hi:i<=ks.length) (h1:∀ j (hj:j<ks.length),j<i->lt ks[j] key) (h2:∀ j (hj:j<ks.length),i<=j->¬ lt ks[j] key):i=pos ks key:=by
  have hp:=pos_le ks key
  rcases Nat.lt_trichotomy i (pos ks key) with h|h|h
  · exact absurd (pos_lt h (by omega)) (h2 i (by omega) (Nat.le_refl _))
  · exact h
  · exact absurd (h1 (pos ks key) (by omega) h) (pos_ge hu (Nat.le_refl _) (by omega))
/-! ## entries in order -/
def keysE (es:Es):List Key:=es.map (·.1)
def valsE (es:Es):List Key:=es.map (·.2)
abbrev UpE (es:Es):Prop:=Up (keysE es)
def insE (key val:Key):Es->Es
  | []=>[(key,val)]
  | (k,v)::r=>if lt k key then (k,v)::insE key val r else if k=key then (key,val)::r else (key,val)::(k,v)::r
def delE (key:Key):Es->Es
  | []=>[]
  | (k,v)::r=>if lt k key then (k,v)::delE key r else if k=key then r else (k,v)::r
def getE (key:Key):Es->Option Key
  | []=>none
  | (k,v)::r=>if lt k key then getE key r else if k=key then some v else none
def inE (key:Key) (es:Es):Bool:=(getE key es).isSome
def aftE (key:Key) (at_:Bool):Es->Option (Key×Key)
  | []=>none
  | (k,v)::r=>if lt key k\/(at_=true/\k=key) then some (k,v) else aftE key at_ r
def befE (key:Key) (at_:Bool):Es->Option (Key×Key)
  | []=>none
  | (k,v)::r=>if lt k key\/(at_=true/\k=key) then (match befE key at_ r with|some x=>some x|none=>some (k,v)) else none
theorem insE_low {key val:Key}:∀ {a b:Es},(∀ x∈a,lt x.1 key)->insE key val (a++b)=a++insE key val b
  | [],b,_=>rfl
  | (k,v)::a,b,h=>by
    rw [List.cons_append,insE,if_pos (h (k,v) (by simp)),insE_low (fun x hx=>h x (by simp [hx])),List.cons_append]
theorem insE_high {key val:Key}:∀ {a b:Es},(∀ x∈b,lt key x.1)->insE key val (a++b)=insE key val a++b
  | [],[],_=>rfl
  | [],(k,v)::b,h=>by
    have h1:=h (k,v) (by simp)
    have:k≠key:=fun e=>lt_ne h1 e.symm
    show insE key val ((k,v)::b)=_
    have h2:¬ lt k key:=lt_asymm h1
    rw [insE,insE,if_neg h2,if_neg this];rfl
  | (k,v)::a,b,h=>by
    rw [List.cons_append,insE,insE]
    split
    · rw [insE_high h];rfl
    · split<;>rfl
theorem delE_low {key:Key}:∀ {a b:Es},(∀ x∈a,lt x.1 key)->delE key (a++b)=a++delE key b
  | [],b,_=>rfl
  | (k,v)::a,b,h=>by
    rw [List.cons_append,delE,if_pos (h (k,v) (by simp)),delE_low (fun x hx=>h x (by simp [hx])),List.cons_append]
theorem delE_high {key:Key}:∀ {a b:Es},(∀ x∈b,lt key x.1)->delE key (a++b)=delE key a++b
  | [],[],_=>rfl
  | [],(k,v)::b,h=>by
    have h1:=h (k,v) (by simp)
    have:k≠key:=fun e=>lt_ne h1 e.symm
    show delE key ((k,v)::b)=_
    have h2:¬ lt k key:=lt_asymm h1
    rw [delE,delE,if_neg h2,if_neg this];rfl
  | (k,v)::a,b,h=>by
    rw [List.cons_append,delE,delE]
    split
    · rw [delE_high h];rfl
    · split<;>rfl
theorem getE_low {key:Key}:∀ {a b:Es},(∀ x∈a,lt x.1 key)->getE key (a++b)=getE key b
  | [],b,_=>rfl
  | (k,v)::a,b,h=>by
    rw [List.cons_append,getE,if_pos (h (k,v) (by simp)),getE_low (fun x hx=>h x (by simp [hx]))]
theorem getE_high {key:Key}:∀ {a b:Es},(∀ x∈b,lt key x.1)->getE key (a++b)=getE key a
  | [],[],_=>rfl
  | [],(k,v)::b,h=>by
    have h1:=h (k,v) (by simp)
    have:k≠key:=fun e=>lt_ne h1 e.symm
    show getE key ((k,v)::b)=_
    have h2:¬ lt k key:=lt_asymm h1
    rw [getE,getE,if_neg h2,if_neg this]
  | (k,v)::a,b,h=>by
    rw [List.cons_append,getE,getE]
    split
    · rw [getE_high h]
    · split<;>rfl
theorem aftE_low {key:Key} {at_:Bool}:∀ {a b:Es},(∀ x∈a,lt x.1 key)->aftE key at_ (a++b)=aftE key at_ b
  | [],b,_=>rfl
  | (k,v)::a,b,h=>by
    have h1:=h (k,v) (by simp)
    have h2:¬ (lt key k\/(at_=true/\k=key)):=by
      rintro (h'|⟨_,h'⟩)
      · exact lt_asymm h1 h'
      · exact lt_ne h1 h'
    rw [List.cons_append,aftE,if_neg h2,aftE_low (fun x hx=>h x (by simp [hx]))]
theorem aftE_app {key:Key} {at_:Bool}:∀ {a b:Es},aftE key at_ (a++b)=match aftE key at_ a with|some x=>some x|none=>aftE key at_ b
  | [],b=>rfl
  | (k,v)::a,b=>by
    rw [List.cons_append,aftE,aftE]
    split
    · rfl
    · exact aftE_app
theorem aftE_head {key:Key} {at_:Bool} {b:Es} (h:∀ x∈b,lt key x.1):aftE key at_ b=b.head?:=by
  cases b with
  | nil=>rfl
  | cons x b=>obtain ⟨k,v⟩:=x;rw [aftE,if_pos (.inl (h (k,v) (by simp)))];rfl
theorem befE_high {key:Key} {at_:Bool}:∀ {a b:Es},(∀ x∈b,lt key x.1)->befE key at_ (a++b)=befE key at_ a
  | [],[],_=>rfl
  | [],(k,v)::b,h=>by
    have h1:=h (k,v) (by simp)
    have h2:¬ (lt k key\/(at_=true/\k=key)):=by
      rintro (h'|⟨_,h'⟩)
      · exact lt_asymm h1 h'
      · exact lt_ne h1 h'.symm
    show befE key at_ ((k,v)::b)=_
    rw [befE,befE,if_neg h2]
  | (k,v)::a,b,h=>by
    rw [List.cons_append,befE,befE,befE_high h]
theorem befE_low {key:Key} {at_:Bool}:∀ {a b:Es},(∀ x∈a,lt x.1 key)->befE key at_ (a++b)=match befE key at_ b with|some x=>some x|none=>a.getLast?
  | [],b,_=>by cases h:befE key at_ b<;>simp [h]
  | (k,v)::a,b,h=>by
    have h1:=h (k,v) (by simp)
    rw [List.cons_append,befE,if_pos (.inl h1),befE_low (fun x hx=>h x (by simp [hx]))]
    cases befE key at_ b with
    | some x=>rfl
    | none =>
      cases a with
      | nil=>rfl
      | cons y a=>simp [List.getLast?_cons]
theorem keysE_append (a b:Es):keysE (a++b)=keysE a++keysE b:=by simp [keysE]
theorem valsE_append (a b:Es):valsE (a++b)=valsE a++valsE b:=by simp [valsE]
theorem keysE_length (a:Es):(keysE a).length=a.length:=by simp [keysE]
theorem valsE_length (a:Es):(valsE a).length=a.length:=by simp [valsE]
theorem ins_has {key val:Key}:∀ {es:Es},has (keysE es) key=true->keysE (insE key val es)=keysE es/\valsE (insE key val es)=(valsE es).set (pos (keysE es) key) val
  | [],h=>by simp [has,keysE,pos] at h
  | (k,v)::r,h=>by
    simp only [keysE,valsE,List.map_cons] at h ⊢
    rw [has_cons] at h
    rw [insE,pos_cons]
    by_cases h1:lt k key
    · rw [if_pos h1] at h ⊢
      rw [if_pos h1]
      obtain ⟨h2,h3⟩:=ins_has (val:=val) (es:=r) h
      simp only [keysE,valsE] at h2 h3
      simp only [List.map_cons,h2,h3,List.set_cons_succ,and_self]
    · rw [if_neg h1] at h ⊢
      rw [if_neg h1,if_pos (of_decide_eq_true h)]
      have:=of_decide_eq_true h
      subst this
      simp
theorem ins_no {key val:Key}:∀ {es:Es},has (keysE es) key=false->keysE (insE key val es)=(keysE es).insertIdx (pos (keysE es) key) key/\valsE (insE key val es)=(valsE es).insertIdx (pos (keysE es) key) val
  | [],h=>by simp [keysE,valsE,insE,pos]
  | (k,v)::r,h=>by
    simp only [keysE,valsE,List.map_cons] at h ⊢
    rw [has_cons] at h
    rw [insE,pos_cons]
    by_cases h1:lt k key
    · rw [if_pos h1] at h ⊢
      rw [if_pos h1]
      obtain ⟨h2,h3⟩:=ins_no (val:=val) (es:=r) h
      simp only [keysE,valsE] at h2 h3
      simp only [List.map_cons,h2,h3,List.insertIdx_succ_cons,and_self]
    · rw [if_neg h1] at h ⊢
      rw [if_neg h1,if_neg (of_decide_eq_false h)]
      simp
theorem del_has {key:Key}:∀ {es:Es},has (keysE es) key=true->keysE (delE key es)=(keysE es).eraseIdx (pos (keysE es) key)/\valsE (delE key es)=(valsE es).eraseIdx (pos (keysE es) key)
  | [],h=>by simp [has,keysE,pos] at h
  | (k,v)::r,h=>by
    simp only [keysE,valsE,List.map_cons] at h ⊢
    rw [has_cons] at h
    rw [delE,pos_cons]
    by_cases h1:lt k key
    · rw [if_pos h1] at h ⊢
      rw [if_pos h1]
      obtain ⟨h2,h3⟩:=del_has (es:=r) h
      simp only [keysE,valsE] at h2 h3
      simp only [List.map_cons,h2,h3,List.eraseIdx_cons_succ,and_self]
    · rw [if_neg h1] at h ⊢
      rw [if_neg h1,if_pos (of_decide_eq_true h)]
      simp
theorem del_no {key:Key}:∀ {es:Es},has (keysE es) key=false->delE key es=es
  | [],h=>rfl
  | (k,v)::r,h=>by
    simp only [keysE,List.map_cons] at h
    rw [has_cons] at h
    rw [delE]
    by_cases h1:lt k key
    · rw [if_pos h1] at h ⊢
      rw [del_no (es:=r) h]
    · rw [if_neg h1] at h ⊢
      rw [if_neg (of_decide_eq_false h)]
theorem get_has {key:Key}:∀ {es:Es},getE key es=if has (keysE es) key then (valsE es)[pos (keysE es) key]? else none
  | []=>by simp [getE,has,keysE,pos]
  | (k,v)::r=>by
    simp only [keysE,valsE,List.map_cons]
    rw [has_cons,pos_cons,getE]
    by_cases h1:lt k key
    · rw [if_pos h1,if_pos h1,if_pos h1,get_has (es:=r)]
      simp [keysE,valsE]
    · rw [if_neg h1,if_neg h1,if_neg h1]
      by_cases h2:k=key<;>simp [h2]
theorem aft_pos {key:Key} {at_:Bool}:∀ {es:Es},UpE es->aftE key at_ es=es[pos (keysE es) key+(if has (keysE es) key && !at_ then 1 else 0)]?
  | [],_=>by simp [aftE]
  | (k,v)::r,hu=>by
    have hu:Up (k::keysE r):=hu
    obtain ⟨h1,h2⟩:=List.pairwise_cons.1 hu
    show aftE key at_ ((k,v)::r)=((k,v)::r)[pos (k::keysE r) key+(if has (k::keysE r) key && !at_ then 1 else 0)]?
    rw [has_cons,pos_cons,aftE]
    rcases lt_tri k key with h3|h3|h3
    · have h4:¬ (lt key k\/(at_=true/\k=key)):=by
        rintro (h'|⟨_,h'⟩)
        · exact lt_asymm h3 h'
        · exact lt_ne h3 h'
      rw [if_neg h4,if_pos h3,if_pos h3,aft_pos h2,Nat.add_right_comm]
      simp
    · subst h3
      rw [if_neg (lt_irrefl _),if_neg (lt_irrefl _),decide_eq_true rfl]
      cases at_ with
      | true=>rw [if_pos (.inr ⟨rfl,rfl⟩)];simp
      | false =>
        rw [if_neg (by rintro (h|⟨h,_⟩);exact lt_irrefl _ h;cases h)]
        have:aftE k false r=r.head?:=aftE_head (fun x hx=>h1 x.1 (List.mem_map.2 ⟨x,hx,rfl⟩))
        rw [this]
        cases r<;>simp
    · rw [if_pos (.inl h3),if_neg (lt_asymm h3),if_neg (lt_asymm h3)]
      have:decide (k=key)=false:=by simpa using (fun e:k=key=>lt_irrefl key (e▸h3))
      rw [this];simp
theorem bef_pos {key:Key} {at_:Bool}:∀ {es:Es},UpE es->befE key at_ es=(if has (keysE es) key && at_ then es[pos (keysE es) key]? else if pos (keysE es) key=0 then none else es[pos (keysE es) key-1]?)
  | [],_=>by simp [befE,has,keysE,pos]
  | (k,v)::r,hu=>by
    have hu:Up (k::keysE r):=hu
    obtain ⟨h1,h2⟩:=List.pairwise_cons.1 hu
    show befE key at_ ((k,v)::r)=(if has (k::keysE r) key && at_ then ((k,v)::r)[pos (k::keysE r) key]? else if pos (k::keysE r) key=0 then none else ((k,v)::r)[pos (k::keysE r) key-1]?)
    rw [has_cons,pos_cons,befE]
    rcases lt_tri k key with h3|h3|h3
    · rw [if_pos (.inl h3),if_pos h3,if_pos h3,bef_pos h2]
      have hpl:=pos_le (keysE r) key
      rw [keysE_length] at hpl
      cases hh:(has (keysE r) key && at_) with
      | true =>
        simp only [if_true]
        have hl:pos (keysE r) key<r.length:=by
          have:has (keysE r) key=true:=by simp at hh;exact hh.1
          have:=of_decide_eq_true this
          have:=(List.getElem?_eq_some_iff.1 this).1
          rwa [keysE_length] at this
        rw [List.getElem?_eq_getElem hl]
        simp [hl]
      | false =>
        simp only [Bool.false_eq_true,if_false,Nat.add_eq_zero_iff,Nat.succ_ne_self,and_false,Nat.add_sub_cancel]
        by_cases h0:pos (keysE r) key=0
        · rw [if_pos h0,h0];simp
        · rw [if_neg h0]
          have hl:pos (keysE r) key-1<r.length:=by omega
          rw [List.getElem?_eq_getElem hl]
          obtain ⟨q,hq⟩:∃ q,pos (keysE r) key=q+1:=⟨pos (keysE r) key-1,by omega⟩
          simp [hq] at hl ⊢
    · subst h3
      rw [if_neg (lt_irrefl _),if_neg (lt_irrefl _),decide_eq_true rfl]
      have hb:befE k at_ r=none:=by
        cases r with
        | nil=>rfl
        | cons y r =>
          have h4:=h1 y.1 (by simp [keysE])
          obtain ⟨y1,y2⟩:=y
          rw [befE,if_neg]
          rintro (h'|⟨_,h'⟩)
          · exact lt_asymm h4 h'
          · exact lt_ne h4 h'.symm
      cases at_ with
      | true=>rw [if_pos (.inr ⟨rfl,rfl⟩),hb];simp
      | false=>rw [if_neg (by rintro (h|⟨h,_⟩);exact lt_irrefl _ h;cases h)];simp
    · have h4:¬ (lt k key\/(at_=true/\k=key)):=by
        rintro (h'|⟨_,h'⟩)
        · exact lt_asymm h3 h'
        · exact lt_ne h3 h'.symm
      rw [if_neg h4,if_neg (lt_asymm h3),if_neg (lt_asymm h3)]
      have:decide (k=key)=false:=by simpa using (fun e:k=key=>lt_irrefl key (e▸h3))
      rw [this];simp
theorem insE_mem {key val:Key}:∀ {es:Es} {x:Key×Key},x∈insE key val es->x=(key,val)\/x∈es
  | [],x,h=>by simp [insE] at h;exact .inl h
  | (k,v)::r,x,h=>by
    rw [insE] at h
    split at h
    · rcases List.mem_cons.1 h with h|h
      · exact .inr (by simp [h])
      · rcases insE_mem h with h|h
        · exact .inl h
        · exact .inr (by simp [h])
    · split at h
      · rcases List.mem_cons.1 h with h|h
        · exact .inl h
        · exact .inr (by simp [h])
      · rcases List.mem_cons.1 h with h|h
        · exact .inl h
        · exact .inr h
theorem insE_up {key val:Key}:∀ {es:Es},UpE es->UpE (insE key val es)
  | [],_=>by show Up [key];exact List.pairwise_singleton _ _
  | (k,v)::r,hu=>by
    have hu:Up (k::keysE r):=hu
    obtain ⟨h1,h2⟩:=List.pairwise_cons.1 hu
    rw [insE]
    split
    · rename_i h3
      show Up (k::keysE (insE key val r))
      refine List.pairwise_cons.2 ⟨fun y hy=>?_,insE_up h2⟩
      obtain ⟨x,hx,rfl⟩:=List.mem_map.1 hy
      rcases insE_mem hx with rfl|hx
      · exact h3
      · exact h1 x.1 (List.mem_map.2 ⟨x,hx,rfl⟩)
    · split
      · rename_i h3 h4
        subst h4
        exact hu
      · rename_i h3 h4
        show Up (key::k::keysE r)
        have h5:lt key k:=(nlt h3).resolve_left (fun e=>h4 e.symm)
        refine List.pairwise_cons.2 ⟨fun y hy=>?_,hu⟩
        rcases List.mem_cons.1 hy with rfl|hy
        · exact h5
        · exact lt_trans h5 (h1 y hy)
theorem delE_sub {key:Key}:∀ {es:Es},(delE key es).Sublist es
  | []=>List.Sublist.slnil
  | (k,v)::r=>by
    rw [delE]
    split
    · exact delE_sub.cons_cons _
    · split
      · exact List.sublist_cons_self _ _
      · exact List.Sublist.refl _
theorem delE_up {key:Key} {es:Es} (h:UpE es):UpE (delE key es):=List.Pairwise.sublist (delE_sub.map _) h
theorem insE_len {key val:Key}:∀ {es:Es},(insE key val es).length=es.length+(if has (keysE es) key then 0 else 1)
  | []=>by simp [insE,has,keysE,pos]
  | (k,v)::r=>by
    have ih:=insE_len (key:=key) (val:=val) (es:=r)
    show _=_+(if has (k::keysE r) key then 0 else 1)
    rw [insE,has_cons]
    by_cases h1:lt k key
    · rw [if_pos h1,if_pos h1,List.length_cons,List.length_cons,ih];omega
    · rw [if_neg h1,if_neg h1]
      by_cases h2:k=key
      · rw [if_pos h2];simp [h2]
      · rw [if_neg h2];simp [h2]
theorem delE_len {key:Key}:∀ {es:Es},(delE key es).length+(if has (keysE es) key then 1 else 0)=es.length
  | []=>by simp [delE,has,keysE,pos]
  | (k,v)::r=>by
    have ih:=delE_len (key:=key) (es:=r)
    show _+(if has (k::keysE r) key then 1 else 0)=_
    rw [delE,has_cons]
    by_cases h1:lt k key
    · rw [if_pos h1,if_pos h1,List.length_cons,List.length_cons,<- ih];omega
    · rw [if_neg h1,if_neg h1]
      by_cases h2:k=key
      · rw [if_pos h2];simp [h2]
      · rw [if_neg h2];simp [h2]
end T4
set_option linter.unusedVariables false
set_option linter.unusedSimpArgs false
namespace Go.Proofs.YthfagbfllheneaaGreat
open Go Go.Sx T4
theorem slB:SlT Tryz.prog 30 5 1 1 [.int .u8 0]:=⟨by kernel_rfl,⟨Tryz.t5,by kernel_rfl,by kernel_rfl,by kernel_rfl,.int .u8 0,by kernel_rfl,by kernel_rfl⟩,rfl,by decide⟩
theorem slI:SlT Tryz.prog 39 3 1 8 [.int .i64 0]:=⟨by kernel_rfl,⟨Tryz.t3,by kernel_rfl,by kernel_rfl,by kernel_rfl,.int .i64 0,by kernel_rfl,by kernel_rfl⟩,rfl,by decide⟩
theorem slS:SlT Tryz.prog 46 30 1 24 [.slice none 0 0]:=⟨by kernel_rfl,⟨Tryz.t30,by kernel_rfl,by kernel_rfl,by kernel_rfl,.slice none 0 0,by kernel_rfl,by kernel_rfl⟩,rfl,by decide⟩
theorem slP:SlT Tryz.prog 126 135 1 8 [.pointer none]:=⟨by kernel_rfl,⟨Tryz.t135,by kernel_rfl,by kernel_rfl,by kernel_rfl,.pointer none,by kernel_rfl,by kernel_rfl⟩,rfl,by decide⟩
theorem oneB:One KB:=⟨rfl,fun h v hv=>by cases h;simp at hv;subst hv;rfl⟩
theorem oneBs:One KBs:=⟨rfl,fun h v hv=>by obtain ⟨A,c,rfl,_⟩:=h;simp at hv;subst hv;rfl⟩
def KN:Kd Nat:=⟨1,fun _ _ a cs=>cs=[.int .i64 (a:Int)],fun h=>by simp [h],fun h _=>h⟩
theorem oneN:One KN:=⟨rfl,fun h v hv=>by cases h;simp at hv;subst hv;rfl⟩
theorem CloneB_spec {α:Type} {K:Kd α} (hK:One K) {Ω:Nat->Prop} {w:World} {A:Option Addr} {c:Nat} {l:List α} (h:Imm K Ω w A l) (hl:l.length<=2097152) :
    CallsV Tryz.prog 91 #[.slice A l.length c] w fun r w'=>∃ A' c',r=.slice A' l.length c'/\OwnK (Kd.out Ω K) w' A' c' l/\Ext w w'/\New w A'/\(A=none->A'=none):=by
  refine slices_Clone_byte_byte.calls okay ?_
  unfold slices_Clone_byte_byte.W
  refine br (fun hn=>?_) (fun hn=>?_)
  · have hA:A=none:=by cases A<;>simp_all
    have:l=[]:=by
      cases l with
      | nil=>rfl
      | cons v l=>obtain ⟨ad,h,_⟩:=h 0 v rfl;rw [hA] at h;cases h
    subst this
    exact ⟨none,0,rfl,OwnK.nil _ _,.refl _ _,New.none _,fun _=>rfl⟩
  · intro g w1 f
    have e:=f.ext
    obtain ⟨rfl,rfl⟩:=f
    have ho:OwnK (Kd.out Ω K) (w.alloc (.cells (([]:List Value).toArray) 5)) (some ⟨w.heap.size,0,none⟩) 0 []:=ownK_lit (K:=Kd.out Ω K) (l:=[]) (by simp) (by simp [maxLen]) (fun i a h=>by simp at h)
    obtain ⟨A',c',w',hr,ho',g'⟩:=ho.append (by rw [(hK.out Ω).sz];exact slB) (ty:=30) (cb:=c) (h.outs.toOwn (hK.out Ω).pos e (New.self w 0 none)) (fun a cs h=>hK.one h) (by simp only [maxLen,List.length_nil];omega) (by simp only [List.length_nil];omega)
    refine ⟨_,_,_,_,hr,A',c',by simp,by simpa using ho',g'.ext e (New.self w 0 none),g'.new e (New.self w 0 none),fun hA=>?_⟩
    rw [hA] at hn;cases hn
theorem CloneS_spec {α:Type} {K:Kd α} (hK:One K) {Ω:Nat->Prop} {w:World} {A:Option Addr} {c:Nat} {l:List α} (h:Imm K Ω w A l) (hl:l.length<=2097152) :
    CallsV Tryz.prog 107 #[.slice A l.length c] w fun r w'=>∃ A' c',r=.slice A' l.length c'/\OwnK (Kd.out Ω K) w' A' c' l/\Ext w w'/\New w A'/\(A=none->A'=none):=by
  refine slices_Clone_byte_byte_2.calls okay ?_
  unfold slices_Clone_byte_byte_2.W
  refine br (fun hn=>?_) (fun hn=>?_)
  · have hA:A=none:=by cases A<;>simp_all
    have:l=[]:=by
      cases l with
      | nil=>rfl
      | cons v l=>obtain ⟨ad,h,_⟩:=h 0 v rfl;rw [hA] at h;cases h
    subst this
    exact ⟨none,0,rfl,OwnK.nil _ _,.refl _ _,New.none _,fun _=>rfl⟩
  · intro g w1 f
    have e:=f.ext
    obtain ⟨rfl,rfl⟩:=f
    have ho:OwnK (Kd.out Ω K) (w.alloc (.cells (([]:List Value).toArray) 30)) (some ⟨w.heap.size,0,none⟩) 0 []:=ownK_lit (K:=Kd.out Ω K) (l:=[]) (by simp) (by simp [maxLen]) (fun i a h=>by simp at h)
    obtain ⟨A',c',w',hr,ho',g'⟩:=ho.append (by rw [(hK.out Ω).sz];exact slS) (ty:=46) (cb:=c) (h.outs.toOwn (hK.out Ω).pos e (New.self w 0 none)) (fun a cs h=>hK.one h) (by simp only [maxLen,List.length_nil];omega) (by simp only [List.length_nil];omega)
    refine ⟨_,_,_,_,hr,A',c',by simp,by simpa using ho',g'.ext e (New.self w 0 none),g'.new e (New.self w 0 none),fun hA=>?_⟩
    rw [hA] at hn;cases hn
theorem CloneI_spec {α:Type} {K:Kd α} (hK:One K) {Ω:Nat->Prop} {w:World} {A:Option Addr} {c:Nat} {l:List α} (h:Imm K Ω w A l) (hl:l.length<=2097152) :
    CallsV Tryz.prog 55 #[.slice A l.length c] w fun r w'=>∃ A' c',r=.slice A' l.length c'/\OwnK (Kd.out Ω K) w' A' c' l/\Ext w w'/\New w A'/\(A=none->A'=none):=by
  refine slices_Clone_int_int.calls okay ?_
  unfold slices_Clone_int_int.W
  refine br (fun hn=>?_) (fun hn=>?_)
  · have hA:A=none:=by cases A<;>simp_all
    have:l=[]:=by
      cases l with
      | nil=>rfl
      | cons v l=>obtain ⟨ad,h,_⟩:=h 0 v rfl;rw [hA] at h;cases h
    subst this
    exact ⟨none,0,rfl,OwnK.nil _ _,.refl _ _,New.none _,fun _=>rfl⟩
  · intro g w1 f
    have e:=f.ext
    obtain ⟨rfl,rfl⟩:=f
    have ho:OwnK (Kd.out Ω K) (w.alloc (.cells (([]:List Value).toArray) 3)) (some ⟨w.heap.size,0,none⟩) 0 []:=ownK_lit (K:=Kd.out Ω K) (l:=[]) (by simp) (by simp [maxLen]) (fun i a h=>by simp at h)
    obtain ⟨A',c',w',hr,ho',g'⟩:=ho.append (by rw [(hK.out Ω).sz];exact slI) (ty:=39) (cb:=c) (h.outs.toOwn (hK.out Ω).pos e (New.self w 0 none)) (fun a cs h=>hK.one h) (by simp only [maxLen,List.length_nil];omega) (by simp only [List.length_nil];omega)
    refine ⟨_,_,_,_,hr,A',c',by simp,by simpa using ho',g'.ext e (New.self w 0 none),g'.new e (New.self w 0 none),fun hA=>?_⟩
    rw [hA] at hn;cases hn
theorem CloneP_spec {α:Type} {K:Kd α} (hK:One K) {Ω:Nat->Prop} {w:World} {A:Option Addr} {c:Nat} {l:List α} (h:Imm K Ω w A l) (hl:l.length<=2097152) :
    CallsV Tryz.prog 94 #[.slice A l.length c] w fun r w'=>∃ A' c',r=.slice A' l.length c'/\OwnK (Kd.out Ω K) w' A' c' l/\Ext w w'/\New w A'/\(A=none->A'=none):=by
  refine slices_Clone_tree_node_tree_node.calls okay ?_
  unfold slices_Clone_tree_node_tree_node.W
  refine br (fun hn=>?_) (fun hn=>?_)
  · have hA:A=none:=by cases A<;>simp_all
    have:l=[]:=by
      cases l with
      | nil=>rfl
      | cons v l=>obtain ⟨ad,h,_⟩:=h 0 v rfl;rw [hA] at h;cases h
    subst this
    exact ⟨none,0,rfl,OwnK.nil _ _,.refl _ _,New.none _,fun _=>rfl⟩
  · intro g w1 f
    have e:=f.ext
    obtain ⟨rfl,rfl⟩:=f
    have ho:OwnK (Kd.out Ω K) (w.alloc (.cells (([]:List Value).toArray) 135)) (some ⟨w.heap.size,0,none⟩) 0 []:=ownK_lit (K:=Kd.out Ω K) (l:=[]) (by simp) (by simp [maxLen]) (fun i a h=>by simp at h)
    obtain ⟨A',c',w',hr,ho',g'⟩:=ho.append (by rw [(hK.out Ω).sz];exact slP) (ty:=126) (cb:=c) (h.outs.toOwn (hK.out Ω).pos e (New.self w 0 none)) (fun a cs h=>hK.one h) (by simp only [maxLen,List.length_nil];omega) (by simp only [List.length_nil];omega)
    refine ⟨_,_,_,_,hr,A',c',by simp,by simpa using ho',g'.ext e (New.self w 0 none),g'.new e (New.self w 0 none),fun hA=>?_⟩
    rw [hA] at hn;cases hn
theorem overlapsS {w:World} {vb sb so c:Nat} {v:Value} {n:Nat} {cur:Array Value} {e:TypeId} {fr:Nat×Nat} (hv:Blk w vb [v]) (hs:w.heap[sb]?=some (.cells cur e fr)) (hne:vb≠sb) (hc:cur.size≠0) :
    RunsTo Tryz.prog (callFunc 114 #[.slice (some ⟨vb,0,none⟩) 1 1,.slice (some ⟨sb,so,none⟩) n c]) w (.value (.bool false)) w:=by
  obtain ⟨e',hv⟩:=hv
  unfold RunsTo
  rw [run_callFunc_extern Tryz.func114 (by kernel_rfl) (by kernel_rfl) (by kernel_rfl) (e:=Extern.SlicesOverlaps.overlaps #[46,46] #[4]) (by kernel_rfl)]
  obtain ⟨i,hi,hsz,_,_⟩:=slS.hi
  rw [Lib.run_overlaps_apart (P:=Tryz.prog) w 46 4 30 (und_underlying slS.ht) i.size (fun w=>run_size hi w) ⟨vb,0,none⟩ ⟨sb,so,none⟩ 1 1 n c hne e' e 1 cur.size (by simp [World.shape?,hv]) (by simp [World.shape?,hs]) hc (by simp [World.frozen?,hv]) (by simp [World.frozen?,hv])]
  rfl
theorem insertS {w:World} {A:Option Addr} {n c:Nat} {xs:List Value} (h:Own w 1 A n c xs) (h1:∀ v∈xs,v.oneCell'=true) {i:Nat} (hi:i<=n) {vb:Nat} {v:Value} (hv:Blk w vb [v]) (hv1:v.oneCell'=true) (hne:¬ ownB A vb) (hn:n<=2097152) :
    CallsV Tryz.prog 108 #[.slice A n c,.int .i64 (i:Int),.slice (some ⟨vb,0,none⟩) 1 1] w fun r w'=>∃ A' c',r=.slice A' (n+1) c'/\Own w' 1 A' (n+1) c' (xs.take i++v::xs.drop i)/\Grew A A' w w':=by
  have hxl:xs.length=n:=by simpa using h.1
  have cV:∀ {u:World} {S:Nat->Prop},Fr S w u->¬ S vb->Cells u (some ⟨vb,0,none⟩) [v]:=fun hf hn j x hj=>by
    have hb:=hv.keep hf hn
    exact ⟨_,rfl,hb.cell (by simpa using hj)⟩
  have one1:∀ x∈[v],x.oneCell'=true:=fun x hx=>by simp at hx;subst hx;exact hv1
  refine slices_Insert_byte_byte.calls okay ?_
  unfold slices_Insert_byte_byte.W
  refine ⟨⟨by omega,by omega⟩,brd (fun h=>by omega) fun _=>brd (fun hin=>?_) fun hin=>brd (fun hcap=>?_) fun hcap=>?_⟩
  · obtain ⟨A',c',w',hr,ho,hf,hb,_⟩:=append_own (P:=Tryz.prog) slS (ty:=46) (t2:=46) ⟨_,slS.ht,fun _ h=>by cases h⟩ h (Src.cells (m:=1) (c:=1) (by simp) (cV (.refl NoB w) (fun h=>h)) one1) (by simp only [maxLen];omega) (by omega)
    refine ⟨_,_,_,_,hr,A',c',rfl,?_,hf,hb⟩
    have:i=n:=by omega
    subst this
    rw [<- hxl,List.take_length,List.drop_length]
    rw [hxl];exact ho
  · rw [wi _ (by omega) (by omega)] at hcap
    have hci:i<=c:=by have:=h.le;omega
    refine ⟨⟨by omega,by omega⟩,?_⟩
    obtain ⟨A',c',w1,hr,ho,e1,n1,hA'⟩:=append_zeros (P:=Tryz.prog) slS (ki:=.i64) (by kernel_rfl) (ty:=46) (t2:=3) (h.take hi) (m:=n+1-i) (by omega) (by simp only [maxLen];omega) (by omega) (by omega)
    rw [Nat.mul_one] at ho
    refine ⟨A',i+(n+1-i),c',w1,?_,?_⟩
    · rw [cutAt_zero,Int.toNat_natCast,Nat.sub_zero,Nat.sub_zero,show IntKind.i64.wrap (IntKind.i64.wrap ((n:Int)+((1:Nat):Int))-(i:Int))=((n+1-i:Nat):Int) by rw [wi ((n:Int)+((1:Nat):Int)) (by omega) (by omega),wi _ (by omega) (by omega)];omega]
      exact hr
    obtain ⟨w2,hr2,ho2,f2⟩:=copy_at (P:=Tryz.prog) slS (ty:=3) (t2:=46) ho (k:=i) (c2:=c'-i) (cb:=1) (m:=1) (cV e1 (fun h=>h)) (by omega) (by simp;omega) one1
    refine ⟨⟨by omega,by omega⟩,_,w2,by rw [Int.toNat_natCast];exact hr2,?_⟩
    rw [wi _ (by omega) (by omega)]
    have hcs:Cells w2.drew (cutAt A c i 1) (xs.drop i):=((h.cellsAt i).keep e1 (fun _ _ h=>h)).keep (f2.ext (Fr.drew _ w2)) (fun k hk hk'=>by
      have hlt:k<w.heap.size:=h.lt k (by
        obtain ⟨ad,hA,hb⟩:=hk
        unfold cutAt at hA
        split at hA
        · exact ⟨ad,hA,hb⟩
        · cases A with
          | none=>cases hA
          | some a=>simp at hA;subst hA;exact ⟨a,rfl,by rw [<- hb,add_block]⟩)
      have:=n1 k hk'
      omega)
    obtain ⟨w3,hr3,ho3,f3⟩:=copy_at (P:=Tryz.prog) slS (ty:=3) (t2:=46) (ho2.keep (Fr.drew NoB w2) (fun _ _ h=>h)) (k:=i+1) (c2:=c'-(i+1)) (cb:=c-i) (m:=n-i) hcs (by omega) (by simp;omega) (fun x hx=>h1 x (List.mem_of_mem_drop hx))
    refine ⟨⟨by omega,by omega⟩,⟨by omega,by omega⟩,((List.drop i xs).length:Int),w3,?_,A',c',by rw [show i+(n+1-i)=n+1 by omega],?_,?_⟩
    · rw [Int.toNat_natCast,show ((1:Nat):Int)=1 from rfl,show ((i:Int)+1).toNat=i+1 by omega]
      exact hr3
    · rw [show i+(n+1-i)=n+1 by omega] at ho3
      have e:xs.take i++v::xs.drop i=List.take (i+1) (List.take i (List.take i xs++List.replicate (n+1-i) (.slice none 0 0))++[v]++List.drop (i+[v].length) (List.take i xs++List.replicate (n+1-i) (.slice none 0 0)))++List.drop i xs++List.drop (i+1+(List.drop i xs).length) (List.take i (List.take i xs++List.replicate (n+1-i) (.slice none 0 0))++[v]++List.drop (i+[v].length) (List.take i xs++List.replicate (n+1-i) (.slice none 0 0))):=by
        exact (ins_grow xs _ v i (by omega) (by rw [List.length_replicate];omega)).symm
      rw [e];exact ho3
    · have e2:Ext w w2:=⟨f2.os.trans e1.os,f2.tape.trans e1.tape,f2.output.trans e1.output,Nat.le_trans e1.size f2.size,fun k hk _=>(f2.block k (Nat.lt_of_lt_of_le hk e1.size) (fun hb=>by have:=n1 k hb;omega)).trans (e1.block k hk (fun h=>h))⟩
      have e3:Ext w w2.drew:=e2.ext (Fr.drew NoB w2)
      refine ⟨⟨f3.os.trans e3.os,f3.tape.trans e3.tape,f3.output.trans e3.output,Nat.le_trans e3.size f3.size,fun k hk _=>(f3.block k (Nat.lt_of_lt_of_le hk e3.size) (fun hb=>by have:=n1 k hb;omega)).trans (e3.block k hk (fun h=>h))⟩,fun k hk=>.inr (n1 k hk)⟩
  · rw [wi _ (by omega) (by omega)] at hcap
    rw [wi _ (by omega) (by omega),wi _ (by omega) (by omega)]
    have hle:=h.le
    have e1:((n:Int)+1).toNat=n+1:=by omega
    have e2:((i:Int)+1).toNat=i+1:=by omega
    rw [show ((1:Nat):Int)=1 from rfl,cutAt_zero,e1,e2,Int.toNat_natCast,Nat.sub_zero,Nat.sub_zero]
    obtain ⟨zs,hz,hm⟩:=h.more (n':=n+1) (by omega) (by omega)
    obtain ⟨z,rfl⟩:∃ z,zs=[z]:=by
      match zs,hz with
      | [z],_=>exact ⟨z,rfl⟩
      | [],hz=>simp at hz<;>omega
      | _::_::_,hz=>simp at hz<;>omega
    rcases hm.2.2 with ⟨_,h0,_⟩|⟨g,cur,e,lo,hi',rfl,hg,hnc,hcs,ht,hfz⟩
    · omega
    have hgv:vb≠g:=fun e=>hne (by rw [ownB_some];exact e.symm)
    have hcut:cutAt (some ⟨g,0,none⟩) c (i+1) 1=some ⟨g,i+1,none⟩:=by
      unfold cutAt;rw [if_neg (by omega)];simp [add_new]
    refine ⟨⟨by omega,by omega⟩,⟨by omega,by omega⟩,false,w,by rw [hcut];exact overlapsS hv hg hgv (by omega),?_⟩
    refine brnb (fun _=>?_) (fun h=>by cases h)
    refine ⟨⟨by omega,by omega⟩,⟨by omega,by omega⟩,?_⟩
    obtain ⟨w1,hr1,ho1,f1⟩:=copy_at (P:=Tryz.prog) slS (ty:=3) (t2:=46) (hm.keep (Fr.drew NoB w) (fun _ _ h=>h)) (k:=i+1) (c2:=c-(i+1)) (cb:=c-i) (m:=n+1-i) (ys:=xs.drop i) ((h.cellsAt i).keep (Fr.drew NoB w) (fun _ _ h=>h)) (by omega) (by simp;omega) (fun x hx=>h1 x (List.mem_of_mem_drop hx))
    refine ⟨_,w1,hr1,⟨by omega,by omega⟩,?_⟩
    obtain ⟨w2,hr2,ho2,f2⟩:=copy_at (P:=Tryz.prog) slS (ty:=3) (t2:=46) ho1 (k:=i) (c2:=c-i) (cb:=1) (m:=1) (cV ((Fr.drew (ownB (some ⟨g,0,none⟩)) w).trans f1 (fun _ _ h=>h) (fun _ _ h=>h)) hne) (by omega) (by simp;omega) one1
    refine ⟨_,w2,hr2,_,c,rfl,?_,⟨(Fr.drew (ownB (some ⟨g,0,none⟩)) w).trans (f1.trans f2 (fun _ _ h=>h) (fun _ _ h=>h)) (fun _ _ h=>h) (fun _ _ h=>h),fun k hk=>.inl hk⟩⟩
    have e:xs.take i++v::xs.drop i=List.take i (List.take (i+1) (xs++[z])++List.drop i xs++List.drop (i+1+(List.drop i xs).length) (xs++[z]))++[v]++List.drop (i+[v].length) (List.take (i+1) (xs++[z])++List.drop i xs++List.drop (i+1+(List.drop i xs).length) (xs++[z])):=by
      exact (ins_shift xs z v i (by omega)).symm
    rw [e];exact ho2
theorem DeleteS_spec {α:Type} {K:Kd α} (hK:One K) {w:World} {A:Option Addr} {c:Nat} {l:List α} (h:OwnK K w A c l) {i:Nat} (hi:i<l.length) (hn:l.length<=2097152) :
    CallsV Tryz.prog 111 #[.slice A l.length c,.int .i64 (i:Int),.int .i64 ((i:Int)+1)] w fun r w'=>r=.slice A (l.length-1) c/\OwnK K w' A c (l.eraseIdx i)/\Fr (ownB A) w w':=by
  obtain ⟨xs,ho,hf⟩:=(ownK1 hK).1 h
  have hxl:xs.length=l.length:=hf.len
  have hle:=ho.le
  refine slices_Delete_byte_byte.calls okay ?_
  unfold slices_Delete_byte_byte.W
  have e1:((i:Int)+1).toNat=i+1:=by omega
  rw [e1,Int.toNat_natCast,Int.toNat_natCast,cutAt_zero,Nat.sub_zero,Nat.sub_zero]
  refine ⟨⟨by omega,by omega⟩,⟨by omega,by omega⟩,⟨by omega,by omega⟩,brd (fun h=>by omega) fun _=>⟨⟨by omega,by omega⟩,⟨by omega,by omega⟩,?_⟩⟩
  obtain ⟨w1,hr1,ho1,f1⟩:=append_room (P:=Tryz.prog) slS ⟨_,slS.ht,fun _ h=>by cases h⟩ (t2:=46) (ty:=46) (ho.keep (Fr.drew NoB w) (fun _ _ h=>h)) (k:=i) (cb:=c-(i+1)) (ys:=xs.drop (i+1)) ((ho.cellsAt (i+1)).keep (Fr.drew NoB w) (fun _ _ h=>h)) (by simp;omega) (fun x hx=>hf.ones hK x (List.mem_of_mem_drop hx))
  rw [List.length_drop,hxl] at hr1
  have hl2:i+(l.length-(i+1))=l.length-1:=by omega
  rw [hl2] at hr1
  refine ⟨_,_,_,w1,hr1,⟨by omega,by omega⟩,⟨by omega,by omega⟩,?_⟩
  rw [Int.toNat_natCast]
  obtain ⟨w2,hr2,ho2,f2⟩:=clear_at (P:=Tryz.prog) slS rfl (ty:=0) ho1 (k:=l.length-1) (by omega) (c-(l.length-1))
  refine ⟨w2,hr2,rfl,(ownK1 hK).2 ⟨xs.take i++xs.drop (i+1),?_,?_⟩,?_⟩
  · rw [List.length_eraseIdx_of_lt hi]
    have e:List.take (l.length-1) (List.take i xs++List.drop (i+1) xs++List.drop (i+(List.drop (i+1) xs).length) xs)=xs.take i++xs.drop (i+1):=by
      rw [List.take_append_of_le_length (by simp;omega),List.take_of_length_le (by simp;omega)]
    rw [<- e];exact ho2
  · rw [eraseIdx_eq]
    have st:Step (ownB A) w (ownB A) w2:=((Fr.drew (ownB A) w).trans (f1.trans f2 (fun _ _ h=>h) (fun _ _ h=>h)) (fun _ _ h=>h) (fun _ _ h=>h)).step (fun _ _ h=>h) (fun _ _ h=>h)
    exact ((hf.step st).take i).append ((hf.step st).drop (i+1))
  · exact (Fr.drew (ownB A) w).trans (f1.trans f2 (fun _ _ h=>h) (fun _ _ h=>h)) (fun _ _ h=>h) (fun _ _ h=>h)
theorem GrowS_spec (w:World) (n:Nat) (hn:n<=2097152):CallsV Tryz.prog 123 #[.slice none 0 0,.int .i64 (n:Int)] w fun r w'=>∃ A' c',r=.slice A' 0 c'/\Own w' 1 A' 0 c' []/\Ext w w'/\New w A':=by
  refine slices_Grow_byte_byte.calls okay ?_
  unfold slices_Grow_byte_byte.W
  refine ⟨fun u=>u=w,?_,brd (fun h=>by omega) fun _=>rfl⟩
  rintro _ rfl
  refine brd (fun h=>?_) (fun h=>?_)
  · have e1:IntKind.i64.wrap ((n:Int)-IntKind.i64.wrap (((0:Nat):Int)-((0:Nat):Int)))=(n:Int):=by rw [show IntKind.i64.wrap (((0:Nat):Int)-((0:Nat):Int))=0 from wi _ (by omega) (by omega),wi _ (by omega) (by omega)];omega
    rw [e1] at h ⊢
    obtain ⟨A',c',w1,hr,ho,e1,n1,hA'⟩:=append_zeros (P:=Tryz.prog) slS (ki:=.i64) (by kernel_rfl) (ty:=46) (t2:=3) (Own.nil _ 1) (m:=n) (by omega) (by simp only [maxLen];omega) (by omega) (by omega)
    refine ⟨⟨by omega,by omega⟩,_,_,_,_,hr,⟨by omega,by omega⟩,A',c',by rw [cutAt_zero];rfl,by simpa using ho.take (Nat.zero_le _),e1,n1⟩
  · exact ⟨none,0,rfl,Own.nil _ _,.refl _ _,New.none _⟩
theorem ConcatS_spec {α:Type} {K:Kd α} (hK:One K) {Ω:Nat->Prop} {w:World} {A:Option Addr} {c:Nat} {ll:List (List α)} (h:Imm (Kd.slice K hK.pos) Ω w A ll) (hn:ll.flatten.length<=2097152) (hll:ll.length<=1000) :
    CallsV Tryz.prog 118 #[.slice A ll.length c] w fun r w'=>∃ A' c',r=.slice A' ll.flatten.length c'/\OwnK (Kd.out Ω K) w' A' c' ll.flatten/\Ext w w'/\New w A':=by
  have hsum:∀ k,(ll.take k).flatten.length<=ll.flatten.length:=fun k=>by
    conv=>rhs;rw [<- List.take_append_drop k ll]
    rw [List.flatten_append,List.length_append];omega
  have hstep:∀ k (hk:k<ll.length),(ll.take (k+1)).flatten=(ll.take k).flatten++ll[k]:=fun k hk=>by
    rw [List.take_succ_eq_append_getElem hk,List.flatten_append,List.flatten_singleton]
  obtain ⟨w0,hw0⟩:∃ w0,w=w0:=⟨_,rfl⟩
  subst w
  refine slices_Concat_byte_byte.calls okay ?_
  unfold slices_Concat_byte_byte.W
  refine ⟨fun x i u=>u=w0/\∃ k:Nat,i=(k:Int)/\k<=ll.length/\x=((ll.take k).flatten.length:Int),fun _ i _=>ll.length-i.toNat,⟨rfl,0,rfl,Nat.zero_le _,by simp⟩,?_⟩
  rintro _ _ u0 ⟨hu0,k,rfl,hk,rfl⟩
  subst u0
  refine brd (fun hlt=>?_) (fun hge=>?_)
  · have hk':k<ll.length:=by omega
    obtain ⟨ad,hA,B,cb,hcb,hB,hcell⟩:=h.item (x:=(k:Int)) (by omega) (by omega)
    rw [Int.toNat_natCast] at hcb hB hcell
    have hg:ll.getD k []=ll[k]:=by simp [List.getD,hk']
    rw [hg] at hcb hB hcell
    have h1:=hsum (k+1)
    rw [hstep k hk',List.length_append] at h1
    refine ⟨ad,hA,⟨by omega,by omega⟩,_,_,_,hcell _ (.refl _ _),?_⟩
    rw [wi _ (by omega) (by omega),wi _ (by omega) (by omega)]
    refine brd (fun h=>by omega) fun _=>⟨⟨rfl,k+1,by omega,by omega,?_⟩,by dsimp only;omega⟩
    rw [hstep k hk',List.length_append];omega
  · have hk':k=ll.length:=by omega
    subst hk'
    rw [List.take_length]
    refine (GrowS_spec _ _ hn).mono ?_
    rintro _ w1 ⟨A1,c1,rfl,ho,e1,n1⟩
    refine ⟨_,_,_,rfl,fun A2 n2 c2 i u=>∃ k:Nat,i=(k:Int)/\k<=ll.length/\n2=(ll.take k).flatten.length/\OwnK (Kd.out Ω K) u A2 c2 (ll.take k).flatten/\Ext w0 u/\New w0 A2,fun _ _ _ i _=>ll.length-i.toNat,⟨0,rfl,Nat.zero_le _,by simp,?_,e1,n1⟩,?_⟩
    · exact (ownK1 (hK.out Ω)).2 ⟨[],by simpa using ho,.nil⟩
    · rintro A2 _ c2 _ u ⟨k,rfl,hk,rfl,hou,eu,nu⟩
      refine brd (fun hlt=>?_) (fun hge=>?_)
      · have hk':k<ll.length:=by omega
        obtain ⟨ad,hA,B,cb,hcb,hB,hcell⟩:=h.item (x:=(k:Int)) (by omega) (by omega)
        rw [Int.toNat_natCast] at hcb hB hcell
        have hg:ll.getD k []=ll[k]:=by simp [List.getD,hk']
        rw [hg] at hcb hB hcell
        have h1:=hsum (k+1)
        rw [hstep k hk',List.length_append] at h1
        refine ⟨ad,hA,⟨by omega,by omega⟩,_,_,_,hcell _ eu,?_⟩
        obtain ⟨A3,c3,w3,hr,ho3,g3⟩:=hou.append (by rw [(hK.out Ω).sz];exact slS) (ty:=46) (cb:=cb) (hB.outs.toOwn (hK.out Ω).pos eu nu) (fun a cs h=>hK.one h) (by simp only [maxLen];omega) (by omega)
        rw [wi _ (by omega) (by omega)]
        refine ⟨_,_,_,w3,hr,⟨k+1,by omega,by omega,?_,?_,g3.ext eu nu,g3.new eu nu⟩,by dsimp only;omega⟩
        · rw [hstep k hk']
        · rw [hstep k hk'];exact ho3
      · have hk':k=ll.length:=by omega
        subst hk'
        rw [List.take_length] at hou ⊢
        exact ⟨A2,c2,rfl,hou,eu,nu⟩
theorem overlapsI {w:World} {vb sb so c:Nat} {v:Value} {n:Nat} {cur:Array Value} {e:TypeId} {fr:Nat×Nat} (hv:Blk w vb [v]) (hs:w.heap[sb]?=some (.cells cur e fr)) (hne:vb≠sb) (hc:cur.size≠0) :
    RunsTo Tryz.prog (callFunc 116 #[.slice (some ⟨vb,0,none⟩) 1 1,.slice (some ⟨sb,so,none⟩) n c]) w (.value (.bool false)) w:=by
  obtain ⟨e',hv⟩:=hv
  unfold RunsTo
  rw [run_callFunc_extern Tryz.func116 (by kernel_rfl) (by kernel_rfl) (by kernel_rfl) (e:=Extern.SlicesOverlaps.overlaps #[39,39] #[4]) (by kernel_rfl)]
  obtain ⟨i,hi,hsz,_,_⟩:=slI.hi
  rw [Lib.run_overlaps_apart (P:=Tryz.prog) w 39 4 3 (und_underlying slI.ht) i.size (fun w=>run_size hi w) ⟨vb,0,none⟩ ⟨sb,so,none⟩ 1 1 n c hne e' e 1 cur.size (by simp [World.shape?,hv]) (by simp [World.shape?,hs]) hc (by simp [World.frozen?,hv]) (by simp [World.frozen?,hv])]
  rfl
theorem insertI {w:World} {A:Option Addr} {n c:Nat} {xs:List Value} (h:Own w 1 A n c xs) (h1:∀ v∈xs,v.oneCell'=true) {i:Nat} (hi:i<=n) {vb:Nat} {v:Value} (hv:Blk w vb [v]) (hv1:v.oneCell'=true) (hne:¬ ownB A vb) (hn:n<=2097152) :
    CallsV Tryz.prog 110 #[.slice A n c,.int .i64 (i:Int),.slice (some ⟨vb,0,none⟩) 1 1] w fun r w'=>∃ A' c',r=.slice A' (n+1) c'/\Own w' 1 A' (n+1) c' (xs.take i++v::xs.drop i)/\Grew A A' w w':=by
  have hxl:xs.length=n:=by simpa using h.1
  have cV:∀ {u:World} {S:Nat->Prop},Fr S w u->¬ S vb->Cells u (some ⟨vb,0,none⟩) [v]:=fun hf hn j x hj=>by
    have hb:=hv.keep hf hn
    exact ⟨_,rfl,hb.cell (by simpa using hj)⟩
  have one1:∀ x∈[v],x.oneCell'=true:=fun x hx=>by simp at hx;subst hx;exact hv1
  refine slices_Insert_int_int.calls okay ?_
  unfold slices_Insert_int_int.W
  refine ⟨⟨by omega,by omega⟩,brd (fun h=>by omega) fun _=>brd (fun hin=>?_) fun hin=>brd (fun hcap=>?_) fun hcap=>?_⟩
  · obtain ⟨A',c',w',hr,ho,hf,hb,_⟩:=append_own (P:=Tryz.prog) slI (ty:=39) (t2:=39) ⟨_,slI.ht,fun _ h=>by cases h⟩ h (Src.cells (m:=1) (c:=1) (by simp) (cV (.refl NoB w) (fun h=>h)) one1) (by simp only [maxLen];omega) (by omega)
    refine ⟨_,_,_,_,hr,A',c',rfl,?_,hf,hb⟩
    have:i=n:=by omega
    subst this
    rw [<- hxl,List.take_length,List.drop_length]
    rw [hxl];exact ho
  · rw [wi _ (by omega) (by omega)] at hcap
    have hci:i<=c:=by have:=h.le;omega
    refine ⟨⟨by omega,by omega⟩,?_⟩
    obtain ⟨A',c',w1,hr,ho,e1,n1,hA'⟩:=append_zeros (P:=Tryz.prog) slI (ki:=.i64) (by kernel_rfl) (ty:=39) (t2:=3) (h.take hi) (m:=n+1-i) (by omega) (by simp only [maxLen];omega) (by omega) (by omega)
    rw [Nat.mul_one] at ho
    refine ⟨A',i+(n+1-i),c',w1,?_,?_⟩
    · rw [cutAt_zero,Int.toNat_natCast,Nat.sub_zero,Nat.sub_zero,show IntKind.i64.wrap (IntKind.i64.wrap ((n:Int)+((1:Nat):Int))-(i:Int))=((n+1-i:Nat):Int) by rw [wi ((n:Int)+((1:Nat):Int)) (by omega) (by omega),wi _ (by omega) (by omega)];omega]
      exact hr
    obtain ⟨w2,hr2,ho2,f2⟩:=copy_at (P:=Tryz.prog) slI (ty:=3) (t2:=39) ho (k:=i) (c2:=c'-i) (cb:=1) (m:=1) (cV e1 (fun h=>h)) (by omega) (by simp;omega) one1
    refine ⟨⟨by omega,by omega⟩,_,w2,by rw [Int.toNat_natCast];exact hr2,?_⟩
    rw [wi _ (by omega) (by omega)]
    have hcs:Cells w2.drew (cutAt A c i 1) (xs.drop i):=((h.cellsAt i).keep e1 (fun _ _ h=>h)).keep (f2.ext (Fr.drew _ w2)) (fun k hk hk'=>by
      have hlt:k<w.heap.size:=h.lt k (by
        obtain ⟨ad,hA,hb⟩:=hk
        unfold cutAt at hA
        split at hA
        · exact ⟨ad,hA,hb⟩
        · cases A with
          | none=>cases hA
          | some a=>simp at hA;subst hA;exact ⟨a,rfl,by rw [<- hb,add_block]⟩)
      have:=n1 k hk'
      omega)
    obtain ⟨w3,hr3,ho3,f3⟩:=copy_at (P:=Tryz.prog) slI (ty:=3) (t2:=39) (ho2.keep (Fr.drew NoB w2) (fun _ _ h=>h)) (k:=i+1) (c2:=c'-(i+1)) (cb:=c-i) (m:=n-i) hcs (by omega) (by simp;omega) (fun x hx=>h1 x (List.mem_of_mem_drop hx))
    refine ⟨⟨by omega,by omega⟩,⟨by omega,by omega⟩,((List.drop i xs).length:Int),w3,?_,A',c',by rw [show i+(n+1-i)=n+1 by omega],?_,?_⟩
    · rw [Int.toNat_natCast,show ((1:Nat):Int)=1 from rfl,show ((i:Int)+1).toNat=i+1 by omega]
      exact hr3
    · rw [show i+(n+1-i)=n+1 by omega] at ho3
      have e:xs.take i++v::xs.drop i=List.take (i+1) (List.take i (List.take i xs++List.replicate (n+1-i) (.int .i64 0))++[v]++List.drop (i+[v].length) (List.take i xs++List.replicate (n+1-i) (.int .i64 0)))++List.drop i xs++List.drop (i+1+(List.drop i xs).length) (List.take i (List.take i xs++List.replicate (n+1-i) (.int .i64 0))++[v]++List.drop (i+[v].length) (List.take i xs++List.replicate (n+1-i) (.int .i64 0))):=by
        exact (ins_grow xs _ v i (by omega) (by rw [List.length_replicate];omega)).symm
      rw [e];exact ho3
    · have e2:Ext w w2:=⟨f2.os.trans e1.os,f2.tape.trans e1.tape,f2.output.trans e1.output,Nat.le_trans e1.size f2.size,fun k hk _=>(f2.block k (Nat.lt_of_lt_of_le hk e1.size) (fun hb=>by have:=n1 k hb;omega)).trans (e1.block k hk (fun h=>h))⟩
      have e3:Ext w w2.drew:=e2.ext (Fr.drew NoB w2)
      refine ⟨⟨f3.os.trans e3.os,f3.tape.trans e3.tape,f3.output.trans e3.output,Nat.le_trans e3.size f3.size,fun k hk _=>(f3.block k (Nat.lt_of_lt_of_le hk e3.size) (fun hb=>by have:=n1 k hb;omega)).trans (e3.block k hk (fun h=>h))⟩,fun k hk=>.inr (n1 k hk)⟩
  · rw [wi _ (by omega) (by omega)] at hcap
    rw [wi _ (by omega) (by omega),wi _ (by omega) (by omega)]
    have hle:=h.le
    have e1:((n:Int)+1).toNat=n+1:=by omega
    have e2:((i:Int)+1).toNat=i+1:=by omega
    rw [show ((1:Nat):Int)=1 from rfl,cutAt_zero,e1,e2,Int.toNat_natCast,Nat.sub_zero,Nat.sub_zero]
    obtain ⟨zs,hz,hm⟩:=h.more (n':=n+1) (by omega) (by omega)
    obtain ⟨z,rfl⟩:∃ z,zs=[z]:=by
      match zs,hz with
      | [z],_=>exact ⟨z,rfl⟩
      | [],hz=>simp at hz<;>omega
      | _::_::_,hz=>simp at hz<;>omega
    rcases hm.2.2 with ⟨_,h0,_⟩|⟨g,cur,e,lo,hi',rfl,hg,hnc,hcs,ht,hfz⟩
    · omega
    have hgv:vb≠g:=fun e=>hne (by rw [ownB_some];exact e.symm)
    have hcut:cutAt (some ⟨g,0,none⟩) c (i+1) 1=some ⟨g,i+1,none⟩:=by
      unfold cutAt;rw [if_neg (by omega)];simp [add_new]
    refine ⟨⟨by omega,by omega⟩,⟨by omega,by omega⟩,false,w,by rw [hcut];exact overlapsI hv hg hgv (by omega),?_⟩
    refine brnb (fun _=>?_) (fun h=>by cases h)
    refine ⟨⟨by omega,by omega⟩,⟨by omega,by omega⟩,?_⟩
    obtain ⟨w1,hr1,ho1,f1⟩:=copy_at (P:=Tryz.prog) slI (ty:=3) (t2:=39) (hm.keep (Fr.drew NoB w) (fun _ _ h=>h)) (k:=i+1) (c2:=c-(i+1)) (cb:=c-i) (m:=n+1-i) (ys:=xs.drop i) ((h.cellsAt i).keep (Fr.drew NoB w) (fun _ _ h=>h)) (by omega) (by simp;omega) (fun x hx=>h1 x (List.mem_of_mem_drop hx))
    refine ⟨_,w1,hr1,⟨by omega,by omega⟩,?_⟩
    obtain ⟨w2,hr2,ho2,f2⟩:=copy_at (P:=Tryz.prog) slI (ty:=3) (t2:=39) ho1 (k:=i) (c2:=c-i) (cb:=1) (m:=1) (cV ((Fr.drew (ownB (some ⟨g,0,none⟩)) w).trans f1 (fun _ _ h=>h) (fun _ _ h=>h)) hne) (by omega) (by simp;omega) one1
    refine ⟨_,w2,hr2,_,c,rfl,?_,⟨(Fr.drew (ownB (some ⟨g,0,none⟩)) w).trans (f1.trans f2 (fun _ _ h=>h) (fun _ _ h=>h)) (fun _ _ h=>h) (fun _ _ h=>h),fun k hk=>.inl hk⟩⟩
    have e:xs.take i++v::xs.drop i=List.take i (List.take (i+1) (xs++[z])++List.drop i xs++List.drop (i+1+(List.drop i xs).length) (xs++[z]))++[v]++List.drop (i+[v].length) (List.take (i+1) (xs++[z])++List.drop i xs++List.drop (i+1+(List.drop i xs).length) (xs++[z])):=by
      exact (ins_shift xs z v i (by omega)).symm
    rw [e];exact ho2
theorem DeleteI_spec {α:Type} {K:Kd α} (hK:One K) {w:World} {A:Option Addr} {c:Nat} {l:List α} (h:OwnK K w A c l) {i:Nat} (hi:i<l.length) (hn:l.length<=2097152) :
    CallsV Tryz.prog 120 #[.slice A l.length c,.int .i64 (i:Int),.int .i64 ((i:Int)+1)] w fun r w'=>r=.slice A (l.length-1) c/\OwnK K w' A c (l.eraseIdx i)/\Fr (ownB A) w w':=by
  obtain ⟨xs,ho,hf⟩:=(ownK1 hK).1 h
  have hxl:xs.length=l.length:=hf.len
  have hle:=ho.le
  refine slices_Delete_int_int.calls okay ?_
  unfold slices_Delete_int_int.W
  have e1:((i:Int)+1).toNat=i+1:=by omega
  rw [e1,Int.toNat_natCast,Int.toNat_natCast,cutAt_zero,Nat.sub_zero,Nat.sub_zero]
  refine ⟨⟨by omega,by omega⟩,⟨by omega,by omega⟩,⟨by omega,by omega⟩,brd (fun h=>by omega) fun _=>⟨⟨by omega,by omega⟩,⟨by omega,by omega⟩,?_⟩⟩
  obtain ⟨w1,hr1,ho1,f1⟩:=append_room (P:=Tryz.prog) slI ⟨_,slI.ht,fun _ h=>by cases h⟩ (t2:=39) (ty:=39) (ho.keep (Fr.drew NoB w) (fun _ _ h=>h)) (k:=i) (cb:=c-(i+1)) (ys:=xs.drop (i+1)) ((ho.cellsAt (i+1)).keep (Fr.drew NoB w) (fun _ _ h=>h)) (by simp;omega) (fun x hx=>hf.ones hK x (List.mem_of_mem_drop hx))
  rw [List.length_drop,hxl] at hr1
  have hl2:i+(l.length-(i+1))=l.length-1:=by omega
  rw [hl2] at hr1
  refine ⟨_,_,_,w1,hr1,⟨by omega,by omega⟩,⟨by omega,by omega⟩,?_⟩
  rw [Int.toNat_natCast]
  obtain ⟨w2,hr2,ho2,f2⟩:=clear_at (P:=Tryz.prog) slI rfl (ty:=0) ho1 (k:=l.length-1) (by omega) (c-(l.length-1))
  refine ⟨w2,hr2,rfl,(ownK1 hK).2 ⟨xs.take i++xs.drop (i+1),?_,?_⟩,?_⟩
  · rw [List.length_eraseIdx_of_lt hi]
    have e:List.take (l.length-1) (List.take i xs++List.drop (i+1) xs++List.drop (i+(List.drop (i+1) xs).length) xs)=xs.take i++xs.drop (i+1):=by
      rw [List.take_append_of_le_length (by simp;omega),List.take_of_length_le (by simp;omega)]
    rw [<- e];exact ho2
  · rw [eraseIdx_eq]
    have st:Step (ownB A) w (ownB A) w2:=((Fr.drew (ownB A) w).trans (f1.trans f2 (fun _ _ h=>h) (fun _ _ h=>h)) (fun _ _ h=>h) (fun _ _ h=>h)).step (fun _ _ h=>h) (fun _ _ h=>h)
    exact ((hf.step st).take i).append ((hf.step st).drop (i+1))
  · exact (Fr.drew (ownB A) w).trans (f1.trans f2 (fun _ _ h=>h) (fun _ _ h=>h)) (fun _ _ h=>h) (fun _ _ h=>h)
theorem GrowI_spec (w:World) (n:Nat) (hn:n<=2097152):CallsV Tryz.prog 124 #[.slice none 0 0,.int .i64 (n:Int)] w fun r w'=>∃ A' c',r=.slice A' 0 c'/\Own w' 1 A' 0 c' []/\Ext w w'/\New w A':=by
  refine slices_Grow_int_int.calls okay ?_
  unfold slices_Grow_int_int.W
  refine ⟨fun u=>u=w,?_,brd (fun h=>by omega) fun _=>rfl⟩
  rintro _ rfl
  refine brd (fun h=>?_) (fun h=>?_)
  · have e1:IntKind.i64.wrap ((n:Int)-IntKind.i64.wrap (((0:Nat):Int)-((0:Nat):Int)))=(n:Int):=by rw [show IntKind.i64.wrap (((0:Nat):Int)-((0:Nat):Int))=0 from wi _ (by omega) (by omega),wi _ (by omega) (by omega)];omega
    rw [e1] at h ⊢
    obtain ⟨A',c',w1,hr,ho,e1,n1,hA'⟩:=append_zeros (P:=Tryz.prog) slI (ki:=.i64) (by kernel_rfl) (ty:=39) (t2:=3) (Own.nil _ 1) (m:=n) (by omega) (by simp only [maxLen];omega) (by omega) (by omega)
    refine ⟨⟨by omega,by omega⟩,_,_,_,_,hr,⟨by omega,by omega⟩,A',c',by rw [cutAt_zero];rfl,by simpa using ho.take (Nat.zero_le _),e1,n1⟩
  · exact ⟨none,0,rfl,Own.nil _ _,.refl _ _,New.none _⟩
theorem ConcatI_spec {α:Type} {K:Kd α} (hK:One K) {Ω:Nat->Prop} {w:World} {A:Option Addr} {c:Nat} {ll:List (List α)} (h:Imm (Kd.slice K hK.pos) Ω w A ll) (hn:ll.flatten.length<=2097152) (hll:ll.length<=1000) :
    CallsV Tryz.prog 119 #[.slice A ll.length c] w fun r w'=>∃ A' c',r=.slice A' ll.flatten.length c'/\OwnK (Kd.out Ω K) w' A' c' ll.flatten/\Ext w w'/\New w A':=by
  have hsum:∀ k,(ll.take k).flatten.length<=ll.flatten.length:=fun k=>by
    conv=>rhs;rw [<- List.take_append_drop k ll]
    rw [List.flatten_append,List.length_append];omega
  have hstep:∀ k (hk:k<ll.length),(ll.take (k+1)).flatten=(ll.take k).flatten++ll[k]:=fun k hk=>by
    rw [List.take_succ_eq_append_getElem hk,List.flatten_append,List.flatten_singleton]
  obtain ⟨w0,hw0⟩:∃ w0,w=w0:=⟨_,rfl⟩
  subst w
  refine slices_Concat_int_int.calls okay ?_
  unfold slices_Concat_int_int.W
  refine ⟨fun x i u=>u=w0/\∃ k:Nat,i=(k:Int)/\k<=ll.length/\x=((ll.take k).flatten.length:Int),fun _ i _=>ll.length-i.toNat,⟨rfl,0,rfl,Nat.zero_le _,by simp⟩,?_⟩
  rintro _ _ u0 ⟨hu0,k,rfl,hk,rfl⟩
  subst u0
  refine brd (fun hlt=>?_) (fun hge=>?_)
  · have hk':k<ll.length:=by omega
    obtain ⟨ad,hA,B,cb,hcb,hB,hcell⟩:=h.item (x:=(k:Int)) (by omega) (by omega)
    rw [Int.toNat_natCast] at hcb hB hcell
    have hg:ll.getD k []=ll[k]:=by simp [List.getD,hk']
    rw [hg] at hcb hB hcell
    have h1:=hsum (k+1)
    rw [hstep k hk',List.length_append] at h1
    refine ⟨ad,hA,⟨by omega,by omega⟩,_,_,_,hcell _ (.refl _ _),?_⟩
    rw [wi _ (by omega) (by omega),wi _ (by omega) (by omega)]
    refine brd (fun h=>by omega) fun _=>⟨⟨rfl,k+1,by omega,by omega,?_⟩,by dsimp only;omega⟩
    rw [hstep k hk',List.length_append];omega
  · have hk':k=ll.length:=by omega
    subst hk'
    rw [List.take_length]
    refine (GrowI_spec _ _ hn).mono ?_
    rintro _ w1 ⟨A1,c1,rfl,ho,e1,n1⟩
    refine ⟨_,_,_,rfl,fun A2 n2 c2 i u=>∃ k:Nat,i=(k:Int)/\k<=ll.length/\n2=(ll.take k).flatten.length/\OwnK (Kd.out Ω K) u A2 c2 (ll.take k).flatten/\Ext w0 u/\New w0 A2,fun _ _ _ i _=>ll.length-i.toNat,⟨0,rfl,Nat.zero_le _,by simp,?_,e1,n1⟩,?_⟩
    · exact (ownK1 (hK.out Ω)).2 ⟨[],by simpa using ho,.nil⟩
    · rintro A2 _ c2 _ u ⟨k,rfl,hk,rfl,hou,eu,nu⟩
      refine brd (fun hlt=>?_) (fun hge=>?_)
      · have hk':k<ll.length:=by omega
        obtain ⟨ad,hA,B,cb,hcb,hB,hcell⟩:=h.item (x:=(k:Int)) (by omega) (by omega)
        rw [Int.toNat_natCast] at hcb hB hcell
        have hg:ll.getD k []=ll[k]:=by simp [List.getD,hk']
        rw [hg] at hcb hB hcell
        have h1:=hsum (k+1)
        rw [hstep k hk',List.length_append] at h1
        refine ⟨ad,hA,⟨by omega,by omega⟩,_,_,_,hcell _ eu,?_⟩
        obtain ⟨A3,c3,w3,hr,ho3,g3⟩:=hou.append (by rw [(hK.out Ω).sz];exact slI) (ty:=39) (cb:=cb) (hB.outs.toOwn (hK.out Ω).pos eu nu) (fun a cs h=>hK.one h) (by simp only [maxLen];omega) (by omega)
        rw [wi _ (by omega) (by omega)]
        refine ⟨_,_,_,w3,hr,⟨k+1,by omega,by omega,?_,?_,g3.ext eu nu,g3.new eu nu⟩,by dsimp only;omega⟩
        · rw [hstep k hk']
        · rw [hstep k hk'];exact ho3
      · have hk':k=ll.length:=by omega
        subst hk'
        rw [List.take_length] at hou ⊢
        exact ⟨A2,c2,rfl,hou,eu,nu⟩
theorem bytesOf_run {w:World} {Ω:Nat->Prop} {A:Option Addr} {l:List UInt8} (h:Imm KB Ω w A l) (c:Nat):(Extern.Bytes.bytesOf (.slice A l.length c)).run Tryz.prog w=.ok ⟨l.toArray⟩ w:=by
  cases A with
  | none =>
    have:l=[]:=by
      cases l with
      | nil=>rfl
      | cons b r=>obtain ⟨ad,h,_⟩:=h 0 b rfl;cases h
    subst this;rfl
  | some ad =>
    have:=Lib.run_loadBytesX (P:=Tryz.prog) (w:=w) (l.map fun b=>(b.toNat:Int)) ad .empty (fun j x hj=>by
      rw [List.getElem?_map] at hj
      cases hb:l[j]? with
      | none=>simp [hb] at hj
      | some b =>
        simp [hb] at hj;subst hj
        obtain ⟨ad',hA,_,cs,hr,hc⟩:=h j b hb
        cases hA;cases hr
        have h2:=hc 0 _ rfl
        rw [show j*KB.size+0=j from Nat.mul_one j] at h2
        exact h2)
    have e2:Lib.bytesOf (l.map (fun b=>(b.toNat:Int)))=l:=by
      unfold Lib.bytesOf
      rw [List.map_map];conv=>rhs;rw [<- List.map_id l]
      apply List.map_congr_left;intro b _;simp
    rw [e2] at this
    simp [Extern.Bytes.bytesOf,ByteArray.empty,ByteArray.emptyWithCapacity] at this ⊢
    rw [this]
    congr 2
    exact Array.empty_append
theorem Compare_spec {w:World} {Ω Ω':Nat->Prop} {A B:Option Addr} {a b:List UInt8} (ha:Imm KB Ω w A a) (hb:Imm KB Ω' w B b) (ca cb:Nat) :
    CallsV Tryz.prog 88 #[.slice A a.length ca,.slice B b.length cb] w fun r w'=>r=.int .i64 (Lib.compareBytes a b)/\w'=w:=by
  refine bytes_Compare.calls okay ?_
  unfold bytes_Compare.W
  refine ⟨_,w,?_,rfl,rfl⟩
  unfold RunsTo
  rw [run_callFunc_extern Tryz.func105 (by kernel_rfl) (by kernel_rfl) (by kernel_rfl) (e:=Extern.BytealgCompare.compare) (by kernel_rfl)]
  have:(Extern.BytealgCompare.compare #[.slice A a.length ca,.slice B b.length cb]).run Tryz.prog w=.ok (.int .i64 (Lib.compareBytes a b)) w:=by
    change Sem.run Tryz.prog (do pure (goInt (Extern.BytealgCompare.cmp (<- Extern.Bytes.bytesOf (.slice A a.length ca)) (<- Extern.Bytes.bytesOf (.slice B b.length cb))))) w=_
    simp only [Sem.run_bind,bytesOf_run ha,bytesOf_run hb,Sem.run_pure,Result.andThen_ok]
    rw [Lib.cmp_eq]
    rfl
  rw [this]
  rfl
theorem Search_spec {w:World} {Ω Ω':Nat->Prop} {A B:Option Addr} {ks:List Key} {key:Key} (h:Imm KBs Ω w A ks) (hb:Imm KB Ω' w B key) (hu:Up ks) (hl:ks.length<=2097152) (c cb:Nat) :
    CallsV Tryz.prog 87 #[.slice A ks.length c,.slice B key.length cb,.func (.func 88) #[] #[]] w fun r w'=>r=.tuple #[.int .i64 (pos ks key:Int),.bool (has ks key)]/\w'=w:=by
  refine slices_BinarySearchFunc_byte_byte_byte.calls okay ?_
  unfold slices_BinarySearchFunc_byte_byte_byte.W
  refine ⟨fun i j u=>u=w/\∃ p q:Nat,i=(p:Int)/\j=(q:Int)/\p<=q/\q<=ks.length/\(∀ k (hk:k<ks.length),k<p->lt ks[k] key)/\(∀ k (hk:k<ks.length),q<=k->¬ lt ks[k] key),fun i j _=>(j-i).toNat,⟨rfl,0,ks.length,rfl,rfl,Nat.zero_le _,Nat.le_refl _,fun k _ h=>by omega,fun k h1 h2=>by omega⟩,?_⟩
  rintro _ _ _ ⟨rfl,p,q,rfl,rfl,hpq,hq,h1,h2⟩
  refine brd (fun hlt=>?_) (fun hge=>?_)
  · have hm:IntKind.i64.wrap (Int.fdiv (IntKind.u64.wrap (IntKind.i64.wrap ((p:Int)+(q:Int)))) (2 ^ Min.min ((1:Int).toNat) 64))=(((p+q) / 2:Nat):Int):=by
      rw [wi ((p:Int)+(q:Int)) (by omega) (by omega),wu _ (by omega) (by omega)]
      have:Int.fdiv ((p:Int)+q) (2 ^ Min.min ((1:Int).toNat) 64)=(((p+q) / 2:Nat):Int):=by
        rw [show (2 ^ Min.min ((1:Int).toNat) 64:Int)=2 from rfl,Int.fdiv_eq_ediv_of_nonneg _ (by omega)]
        omega
      rw [this,wi _ (by omega) (by omega)]
    rw [hm]
    have hr:(p+q) / 2<ks.length:=by omega
    obtain ⟨ad,hA,B',c',hc',hB,hcell⟩:=h.item (x:=(((p+q) / 2:Nat):Int)) (by omega) (by omega)
    rw [Int.toNat_natCast] at hc' hB hcell
    have hg:ks.getD ((p+q) / 2) []=ks[(p+q) / 2]:=by simp [List.getD,hr]
    rw [hg] at hc' hB hcell
    refine ⟨by decide,ad,hA,⟨by omega,by omega⟩,_,_,_,by rw [Int.toNat_natCast];exact hcell _ (.refl _ _),_,_,_,rfl,by kernel_rfl,?_⟩
    refine (Compare_spec hB hb c' cb).mono ?_
    rintro _ _ ⟨rfl,rfl⟩
    rw [wi _ (by omega) (by omega)]
    refine ⟨_,rfl,brd (fun hc=>?_) (fun hc=>?_)⟩
    · refine ⟨⟨rfl,(p+q) / 2+1,q,by omega,rfl,by omega,hq,fun k hk hk'=>?_,h2⟩,by dsimp only;omega⟩
      rcases Nat.lt_or_ge k ((p+q) / 2) with h3|h3
      · exact lt_trans (List.pairwise_iff_getElem.1 hu k _ hk hr h3) hc
      · obtain rfl:k=(p+q) / 2:=by omega
        exact hc
    · refine ⟨⟨rfl,p,(p+q) / 2,rfl,rfl,by omega,by omega,h1,fun k hk hk' h3=>hc ?_⟩,by dsimp only;omega⟩
      rcases Nat.lt_or_ge ((p+q) / 2) k with h4|h4
      · exact lt_trans (List.pairwise_iff_getElem.1 hu _ k hr hk h4) h3
      · obtain rfl:k=(p+q) / 2:=by omega
        exact h3
  · obtain rfl:p=q:=by omega
    have hp:p=pos ks key:=pos_unique hu hq h1 h2
    refine brd (fun hlt=>?_) (fun hge=>?_)
    · have hr:p<ks.length:=by omega
      obtain ⟨ad,hA,B',c',hc',hB,hcell⟩:=h.item (x:=(p:Int)) (by omega) (by omega)
      rw [Int.toNat_natCast] at hc' hB hcell
      have hg:ks.getD p []=ks[p]:=by simp [List.getD,hr]
      rw [hg] at hc' hB hcell
      refine ⟨ad,hA,⟨by omega,by omega⟩,_,_,_,by rw [Int.toNat_natCast];exact hcell _ (.refl _ _),_,_,_,rfl,by kernel_rfl,?_⟩
      refine (Compare_spec hB hb c' cb).mono ?_
      rintro _ _ ⟨rfl,rfl⟩
      refine ⟨_,rfl,?_,rfl⟩
      rw [<- hp]
      congr 3
      unfold has
      rw [<- hp,List.getElem?_eq_getElem hr]
      have:(Lib.compareBytes ks[p] key=0)<->(some ks[p]=some key):=⟨fun h=>by rw [cmp_zero _ _ h],fun h=>by rw [Option.some.inj h];exact cmp_self key⟩
      simp only [this]
    · refine ⟨?_,rfl⟩
      rw [<- hp]
      unfold has
      rw [<- hp,List.getElem?_eq_none (by omega)]
      rfl
end Go.Proofs.YthfagbfllheneaaGreat
set_option linter.unusedVariables false
set_option linter.unusedSimpArgs false
namespace T4
structure Nod where
  keys:List Key
  vals:List Key
  kids:List Nat
def N0:Nod:=⟨[],[],[]⟩
def Nod.size (n:Nod):Nat:=if n.kids=[] then n.keys.length else n.kids.length
structure Ar where
  fan:Nat
  most:Nat
  at_:List (Option Nod)
  free:List Nat
  trees:List (Int×Nat)
  last:Nat
def Ar.nd (A:Ar) (i:Nat):Option Nod:=(A.at_[i]?).getD none
def Ar.nodes (A:Ar):Nat:=A.at_.length-A.free.length
def setN (A:Ar) (i:Nat) (n:Nod):Ar:={ A with at_:=A.at_.set i (some n) }
def place (A:Ar) (n:Nod):Ar×Nat :=
  if A.free.length=0 then ({ A with at_:=A.at_++[some n] },A.at_.length)
  else ({ A with at_:=A.at_.set (A.free.getD (A.free.length-1) 0) (some n),free:=A.free.take (A.free.length-1) },A.free.getD (A.free.length-1) 0)
def drop (A:Ar) (i:Nat):Ar:={ A with at_:=A.at_.set i none,free:=A.free++[i] }
/-! ## accounts: each place is of one tree, or free -/
def Acc (A:Ar) (Q P:List Nat):Prop:=∀ x,Q.count x+P.count x+A.free.count x=if x<A.at_.length then 1 else 0
theorem Acc.perm {A:Ar} {Q P Q' P':List Nat} (h:Acc A Q P) (e:∀ x,Q.count x+P.count x=Q'.count x+P'.count x):Acc A Q' P':=fun x=>by rw [<- e x];exact h x
theorem Acc.lt {A:Ar} {Q P:List Nat} (h:Acc A Q P) {x:Nat} (hx:x∈P):x<A.at_.length:=by
  have h1:=h x
  have h2:=List.count_pos_iff.2 hx
  split at h1
  · assumption
  · omega
theorem Acc.ne {A:Ar} {Q P:List Nat} (h:Acc A Q P) {x:Nat} (hx:x∈P):x∉Q/\x∉A.free:=by
  have h1:=h x
  have h2:=List.count_pos_iff.2 hx
  refine ⟨fun hq=>?_,fun hq=>?_⟩
  · have:=List.count_pos_iff.2 hq
    split at h1<;>omega
  · have:=List.count_pos_iff.2 hq
    split at h1<;>omega
structure Mv (A A':Ar) (P P':List Nat):Prop where
  fan:A'.fan=A.fan
  most:A'.most=A.most
  trees:A'.trees=A.trees
  last:A'.last=A.last
  acc:∀ Q,Acc A Q P->Acc A' Q P'/\∀ j∈Q,A'.nd j=A.nd j
theorem Mv.refl (A:Ar) (P:List Nat):Mv A A P P:=⟨rfl,rfl,rfl,rfl,fun Q h=>⟨h,fun _ _=>rfl⟩⟩
theorem Mv.trans {A B C:Ar} {P P' P'':List Nat} (h:Mv A B P P') (h':Mv B C P' P''):Mv A C P P'' :=
  ⟨h'.fan.trans h.fan,h'.most.trans h.most,h'.trees.trans h.trees,h'.last.trans h.last,fun Q hq=>by
    obtain ⟨h1,h2⟩:=h.acc Q hq
    obtain ⟨h3,h4⟩:=h'.acc Q h1
    exact ⟨h3,fun j hj=>(h4 j hj).trans (h2 j hj)⟩⟩
theorem Mv.frame {A B:Ar} {P P' R R1 R1':List Nat} (h:Mv A B P P') (e:∀ x,R1.count x=R.count x+P.count x) (e':∀ x,R1'.count x=R.count x+P'.count x):Mv A B R1 R1' :=
  ⟨h.fan,h.most,h.trees,h.last,fun Q hq=>by
    obtain ⟨h1,h2⟩:=h.acc (Q++R) (hq.perm fun x=>by rw [e,List.count_append];omega)
    exact ⟨h1.perm fun x=>by rw [e',List.count_append];omega,fun j hj=>h2 j (List.mem_append_left _ hj)⟩⟩
theorem nd_set (A:Ar) (i:Nat) (n:Nod) (h:i<A.at_.length):(setN A i n).nd i=some n:=by simp [Ar.nd,setN,h]
theorem nd_set_ne (A:Ar) (i j:Nat) (n:Nod) (h:i≠j):(setN A i n).nd j=A.nd j:=by simp [Ar.nd,setN,List.getElem?_set_ne h]
theorem mv_set (A:Ar) (i:Nat) (n:Nod):Mv A (setN A i n) [i] [i]:=by
  refine ⟨rfl,rfl,rfl,rfl,fun Q h=>⟨fun x=>by have:=h x;simpa [setN] using this,fun j hj=>nd_set_ne A i j n ?_⟩⟩
  rintro rfl
  exact (h.ne (x:=i) (by simp)).1 hj
theorem mv_place (A:Ar) (n:Nod):Mv A (place A n).1 [] [(place A n).2]/\((∃ Q P,Acc A Q P)->(place A n).1.nd (place A n).2=some n):=by
  unfold place
  by_cases h0:A.free.length=0
  · rw [if_pos h0]
    have hf:A.free=[]:=List.eq_nil_of_length_eq_zero h0
    refine ⟨⟨rfl,rfl,rfl,rfl,fun Q h=>⟨fun x=>?_,fun j hj=>?_⟩⟩,fun _=>by simp [Ar.nd]⟩
    · have h1:=h x
      simp only [List.count_nil,List.count_cons,List.length_append,List.length_cons,List.length_nil,hf] at h1 ⊢
      by_cases h2:A.at_.length=x
      · subst h2
        have h5:¬ A.at_.length<A.at_.length:=by omega
        rw [if_neg h5] at h1
        rw [if_pos (show A.at_.length<A.at_.length+(0+1) by omega)]
        simp only [beq_self_eq_true,if_true]
        omega
      · have h3:(A.at_.length == x)=false:=by simpa using h2
        rw [h3]
        simp only [Bool.false_eq_true,if_false]
        by_cases h4:x<A.at_.length
        · rw [if_pos h4] at h1;rw [if_pos (by omega)];omega
        · rw [if_neg h4] at h1;rw [if_neg (by omega)];omega
    · have hj2:j<A.at_.length:=by
        have h1:=h j
        have:=List.count_pos_iff.2 hj
        split at h1
        · assumption
        · omega
      simp only [Ar.nd]
      rw [List.getElem?_append_left hj2]
  · rw [if_neg h0]
    have hl:A.free.length-1<A.free.length:=by omega
    have hg:A.free.getD (A.free.length-1) 0=A.free[A.free.length-1]:=by simp [List.getD,hl]
    have hfr:A.free=A.free.take (A.free.length-1)++[A.free[A.free.length-1]]:=by
      conv=>lhs;rw [<- List.take_append_drop (A.free.length-1) A.free]
      rw [List.drop_eq_getElem_cons hl,show A.free.length-1+1=A.free.length by omega,List.drop_length]
    rw [hg]
    generalize hx0:A.free[A.free.length-1]=x0 at *
    have hmem:x0∈A.free:=by rw [<- hx0];simp
    refine ⟨⟨rfl,rfl,rfl,rfl,fun Q h=>⟨fun x=>?_,fun j hj=>?_⟩⟩,fun ⟨Q,P,h⟩=>?_⟩
    · have h1:=h x
      rw [hfr] at h1
      simp only [List.count_nil,List.count_append,List.length_set] at h1 ⊢
      omega
    · have hne:x0≠j:=by
        rintro rfl
        have h1:=h x0
        have:=List.count_pos_iff.2 hj
        have:=List.count_pos_iff.2 hmem
        split at h1<;>omega
      simp only [Ar.nd]
      rw [List.getElem?_set_ne hne]
    · have hlt:x0<A.at_.length:=by
        have h1:=h x0
        have:=List.count_pos_iff.2 hmem
        split at h1
        · assumption
        · omega
      simp [Ar.nd,hlt]
theorem mv_drop (A:Ar) (i:Nat):Mv A (drop A i) [i] []:=by
  refine ⟨rfl,rfl,rfl,rfl,fun Q h=>⟨fun x=>?_,fun j hj=>?_⟩⟩
  · have h1:=h x
    simp only [drop,List.count_nil,List.count_append,List.length_set] at h1 ⊢
    omega
  · have hne:i≠j:=by
      rintro rfl
      exact (h.ne (x:=i) (by simp)).1 hj
    simp [Ar.nd,drop,List.getElem?_set_ne hne]
/-! ## trees -/
def Bnd (lo hi:Option Key) (k:Key):Prop:=(∀ l,lo=some l->¬ lt k l)/\(∀ u,hi=some u->lt k u)
def Btw (lo hi:Option Key) (k:Key):Prop:=(∀ l,lo=some l->lt l k)/\(∀ u,hi=some u->lt k u)
abbrev TP:=Nat->Option Key->Option Key->Es->List Nat->Prop
inductive Kids (T:TP):Option Key->Option Key->List Key->List Nat->Es->List Nat->Prop
  | one {i lo hi es ps}:T i lo hi es ps->Kids T lo hi [] [i] es ps
  | cons {i lo hi k ks is es es' ps ps'}:T i lo (some k) es ps->Btw lo hi k->Kids T (some k) hi ks is es' ps'->Kids T lo hi (k::ks) (i::is) (es++es') (ps++ps')
inductive Left (T:TP):Option Key->List Key->List Nat->Option Key->Es->List Nat->Prop
  | nil {lo}:Left T lo [] [] lo [] []
  | cons {i lo k ks is mid es es' ps ps'}:T i lo (some k) es ps->(∀ l,lo=some l->lt l k)->Left T (some k) ks is mid es' ps'->(∀ l,mid=some l->¬ lt l k)->Left T lo (k::ks) (i::is) mid (es++es') (ps++ps')
inductive Right (T:TP):Option Key->Option Key->List Key->List Nat->Es->List Nat->Prop
  | nil {hi}:Right T hi hi [] [] [] []
  | cons {k hi ks is es ps}:(∀ u,hi=some u->lt k u)->Kids T (some k) hi ks is es ps->Right T (some k) hi (k::ks) is es ps
def Tree (nd:Nat->Option Nod) (fan:Nat):Nat->Nat×Nat->TP
  | 0,_,_,_,_,_,_=>False
  | h+1,mn,i,lo,hi,es,ps=>∃ n,nd i=some n/\n.size<=fan /\
    ((h=0/\mn.1<=n.size/\n.kids=[]/\n.keys=keysE es/\n.vals=valsE es/\UpE es/\(∀ k∈n.keys,Bnd lo hi k)/\ps=[i]) \/
     (0<h/\mn.2<=n.size/\n.vals=[]/\∃ ps',ps=i::ps'/\Kids (Tree nd fan h (fan / 2,fan / 2)) lo hi n.keys n.kids es ps'))
abbrev Reg (nd:Nat->Option Nod) (fan h:Nat):TP:=Tree nd fan h (fan / 2,fan / 2)
theorem Kids.len {T:TP} {lo hi:Option Key} {ks:List Key} {is:List Nat} {es:Es} {ps:List Nat} (h:Kids T lo hi ks is es ps):is.length=ks.length+1:=by
  induction h with
  | one _=>rfl
  | cons _ _ _ ih=>simp [ih]
theorem Kids.mono {T T':TP} {lo hi:Option Key} {ks:List Key} {is:List Nat} {es:Es} {ps:List Nat} (h:Kids T lo hi ks is es ps) (m:∀ {i lo hi es p},T i lo hi es p->(∀ j∈p,j∈ps)->T' i lo hi es p):Kids T' lo hi ks is es ps:=by
  induction h with
  | one h=>exact .one (m h fun _ h=>h)
  | cons h hb hk ih=>exact .cons (m h fun j hj=>List.mem_append_left _ hj) hb (ih fun h h'=>m h fun j hj=>List.mem_append_right _ (h' j hj))
theorem Left.mono {T T':TP} {lo mid:Option Key} {ks:List Key} {is:List Nat} {es:Es} {ps:List Nat} (h:Left T lo ks is mid es ps) (m:∀ {i lo hi es p},T i lo hi es p->(∀ j∈p,j∈ps)->T' i lo hi es p):Left T' lo ks is mid es ps:=by
  induction h with
  | nil=>exact .nil
  | cons h hb hk hm ih=>exact .cons (m h fun j hj=>List.mem_append_left _ hj) hb (ih fun h h'=>m h fun j hj=>List.mem_append_right _ (h' j hj)) hm
theorem Right.mono {T T':TP} {mid hi:Option Key} {ks:List Key} {is:List Nat} {es:Es} {ps:List Nat} (h:Right T mid hi ks is es ps) (m:∀ {i lo hi es p},T i lo hi es p->(∀ j∈p,j∈ps)->T' i lo hi es p):Right T' mid hi ks is es ps:=by
  cases h with
  | nil=>exact .nil
  | cons hb hk=>exact .cons hb (hk.mono m)
theorem Tree.keep {nd nd':Nat->Option Nod} {fan:Nat}:∀ {h:Nat} {mn:Nat×Nat} {i:Nat} {lo hi:Option Key} {es:Es} {ps:List Nat},Tree nd fan h mn i lo hi es ps->(∀ j∈ps,nd' j=nd j)->Tree nd' fan h mn i lo hi es ps
  | 0,_,_,_,_,_,_,h,_=>h.elim
  | h+1,mn,i,lo,hi,es,ps,⟨n,h1,h2,h4⟩,hn=>by
    rcases h4 with ⟨e0,h3,h5,h6,h7,h8,h9,rfl⟩|⟨e0,h3,h5,ps',rfl,hk⟩
    · exact ⟨n,(hn i (by simp)).trans h1,h2,.inl ⟨e0,h3,h5,h6,h7,h8,h9,rfl⟩⟩
    · refine ⟨n,(hn i (by simp)).trans h1,h2,.inr ⟨e0,h3,h5,ps',rfl,hk.mono fun ht hs=>?_⟩⟩
      exact Tree.keep ht fun j hj=>hn j (by simp [hs j hj])
theorem Tree.size {nd:Nat->Option Nod} {fan:Nat} {h:Nat} {mn mn':Nat×Nat} {i:Nat} {lo hi:Option Key} {es:Es} {ps:List Nat} (ht:Tree nd fan h mn i lo hi es ps) (hs:∀ n,nd i=some n->(h=1->mn.1<=n.size->mn'.1<=n.size)/\(1<h->mn.2<=n.size->mn'.2<=n.size)):Tree nd fan h mn' i lo hi es ps:=by
  cases h with
  | zero=>exact ht.elim
  | succ h =>
    obtain ⟨n,h1,h2,h4⟩:=ht
    obtain ⟨s1,s2⟩:=hs n h1
    rcases h4 with ⟨e0,h3,h5⟩|⟨e0,h3,h5⟩
    · exact ⟨n,h1,h2,.inl ⟨e0,s1 (by omega) h3,h5⟩⟩
    · exact ⟨n,h1,h2,.inr ⟨e0,s2 (by omega) h3,h5⟩⟩
theorem Tree.weak {nd:Nat->Option Nod} {fan:Nat} {h:Nat} {mn mn':Nat×Nat} {i:Nat} {lo hi:Option Key} {es:Es} {ps:List Nat} (ht:Tree nd fan h mn i lo hi es ps) (h1:mn'.1<=mn.1) (h2:mn'.2<=mn.2):Tree nd fan h mn' i lo hi es ps :=
  ht.size fun n _=>⟨fun _ h=>by omega,fun _ h=>by omega⟩
def InB (T:TP):Prop:=∀ {i lo hi es ps},T i lo hi es ps->∀ x∈es,Bnd lo hi x.1
theorem Kids.inB {T:TP} (hT:InB T) {lo hi:Option Key} {ks:List Key} {is:List Nat} {es:Es} {ps:List Nat} (h:Kids T lo hi ks is es ps):∀ x∈es,Bnd lo hi x.1:=by
  induction h with
  | one h=>exact hT h
  | cons h hb hk ih =>
    rename_i i lo hi k ks is es es' ps ps'
    intro x hx
    rcases List.mem_append.1 hx with hx|hx
    · have:=hT h x hx
      refine ⟨this.1,fun u hu=>?_⟩
      exact lt_trans (this.2 k rfl) (hb.2 u hu)
    · have:=ih x hx
      refine ⟨fun l hl h=>?_,this.2⟩
      exact this.1 k rfl (lt_trans h (hb.1 l hl))
theorem Tree.inB {nd:Nat->Option Nod} {fan:Nat}:∀ {h:Nat} {mn:Nat×Nat},InB (Tree nd fan h mn)
  | 0,_,_,_,_,_,_,h=>h.elim
  | h+1,mn,i,lo,hi,es,ps,⟨n,h1,h2,h4⟩=>by
    rcases h4 with ⟨e0,h3,h5,h6,h7,h8,h9,rfl⟩|⟨e0,h3,h5,ps',rfl,hk⟩
    · intro x hx
      exact h9 x.1 (by rw [h6];exact List.mem_map.2 ⟨x,hx,rfl⟩)
    · exact hk.inB Tree.inB
theorem Kids.up {T:TP} (hT:InB T) (hU:∀ {i lo hi es ps},T i lo hi es ps->UpE es) {lo hi:Option Key} {ks:List Key} {is:List Nat} {es:Es} {ps:List Nat} (h:Kids T lo hi ks is es ps):UpE es:=by
  induction h with
  | one h=>exact hU h
  | cons h hb hk ih =>
    rename_i i lo hi k ks is es es' ps ps'
    show Up (keysE (es++es'))
    rw [keysE_append]
    refine List.pairwise_append.2 ⟨hU h,ih,fun a ha b hb'=>?_⟩
    obtain ⟨x,hx,rfl⟩:=List.mem_map.1 ha
    obtain ⟨y,hy,rfl⟩:=List.mem_map.1 hb'
    exact lt_of_lt_nlt ((hT h x hx).2 k rfl) ((hk.inB hT y hy).1 k rfl)
theorem Tree.up {nd:Nat->Option Nod} {fan:Nat}:∀ {h:Nat} {mn:Nat×Nat} {i:Nat} {lo hi:Option Key} {es:Es} {ps:List Nat},Tree nd fan h mn i lo hi es ps->UpE es
  | 0,_,_,_,_,_,_,h=>h.elim
  | h+1,mn,i,lo,hi,es,ps,⟨n,h1,h2,h4⟩=>by
    rcases h4 with ⟨e0,h3,h5,h6,h7,h8,h9,rfl⟩|⟨e0,h3,h5,ps',rfl,hk⟩
    · exact h8
    · exact hk.up Tree.inB Tree.up
theorem Kids.keys {T:TP} {lo hi:Option Key} {ks:List Key} {is:List Nat} {es:Es} {ps:List Nat} (h:Kids T lo hi ks is es ps):Up ks/\∀ k∈ks,Btw lo hi k:=by
  induction h with
  | one h=>exact ⟨List.Pairwise.nil,fun k h=>by simp at h⟩
  | cons h hb hk ih =>
    rename_i i lo hi k ks is es es' ps ps'
    refine ⟨List.pairwise_cons.2 ⟨fun y hy=>(ih.2 y hy).1 k rfl,ih.1⟩,fun y hy=>?_⟩
    rcases List.mem_cons.1 hy with rfl|hy
    · exact hb
    · exact ⟨fun l hl=>lt_trans (hb.1 l hl) ((ih.2 y hy).1 k rfl),(ih.2 y hy).2⟩
theorem Kids.find {T:TP} (hT:InB T) {key:Key} {lo hi:Option Key} {ks:List Key} {is:List Nat} {es:Es} {ps:List Nat} (h:Kids T lo hi ks is es ps) (hb:Bnd lo hi key) :
    ∃ ks1 ks2 is1 is2 i lo' hi' es1 es2 e ps1 ps2 p,ks=ks1++ks2/\is=is1++i::is2/\ks1.length=bel ks key/\is1.length=bel ks key/\Left T lo ks1 is1 lo' es1 ps1/\T i lo' hi' e p/\Right T hi' hi ks2 is2 es2 ps2 /\
      es=es1++(e++es2)/\ps=ps1++(p++ps2)/\Bnd lo' hi' key/\(∀ x∈es1,lt x.1 key)/\(∀ x∈es2,lt key x.1)/\(∀ l,lo'=some l->lo=some l\/∃ l0,ks1.getLast?=some l0/\l=l0)/\(∀ k,hi'=some k->ks2≠[]->∀ l,lo'=some l->lt l k):=by
  induction h with
  | one h =>
    rename_i i lo hi es ps
    exact ⟨[],[],[],[],i,lo,hi,[],[],es,[],[],ps,rfl,rfl,rfl,rfl,.nil,h,.nil,by simp,by simp,hb,by simp,by simp,fun l hl=>.inl hl,fun k _ h=>absurd rfl h⟩
  | cons h hbt hk ih =>
    rename_i i lo hi k ks is es es' ps ps'
    rw [bel_cons]
    by_cases hlt:lt key k
    · rw [if_pos hlt]
      refine ⟨[],k::ks,[],is,i,lo,some k,[],es',es,[],ps',ps,rfl,rfl,rfl,rfl,.nil,h,.cons hbt.2 hk,rfl,rfl,⟨hb.1,fun u hu=>by cases hu;exact hlt⟩,by simp,fun x hx=>?_,fun l hl=>.inl hl,fun k' hk' _ l hl=>by cases hk';exact hbt.1 l hl⟩
      exact lt_of_lt_nlt hlt ((hk.inB hT x hx).1 k rfl)
    · rw [if_neg hlt]
      obtain ⟨ks1,ks2,is1,is2,i',lo',hi',es1,es2,e,ps1,ps2,p,h1,h2,h3,h4,h5,h6,h7,h8,h9,h10,h11,h12,h13,h14⟩:=ih ⟨fun l hl=>by cases hl;exact hlt,hb.2⟩
      have hmid:∀ l,lo'=some l->¬ lt l k:=fun l hl=>by
        rcases h13 l hl with h|⟨l0,h,rfl⟩
        · cases h;exact lt_irrefl _
        · have hm:l∈ks:=by rw [h1];exact List.mem_append_left _ (List.mem_of_getLast? h)
          exact lt_asymm ((hk.keys.2 l hm).1 k rfl)
      refine ⟨k::ks1,ks2,i::is1,is2,i',lo',hi',es++es1,es2,e,ps++ps1,ps2,p,by rw [h1];rfl,by rw [h2];rfl,by simp [h3],by simp [h4],.cons h hbt.1 h5 hmid,h6,h7,by rw [h8];simp,by rw [h9];simp,h10,fun x hx=>?_,h12,fun l hl=>?_,h14⟩
      · rcases List.mem_append.1 hx with hx|hx
        · exact lt_of_lt_nlt ((hT h x hx).2 k rfl) hlt
        · exact h11 x hx
      · rcases h13 l hl with h|⟨l0,h,rfl⟩
        · cases h
          rename_i heq
          cases ks1 with
          | nil=>exact .inr ⟨k,rfl,rfl⟩
          | cons y ks1 =>
            exfalso
            cases h5 with
            | cons _ hlt2 hl2 hm2 =>
              exact hm2 _ hl (hlt2 _ rfl)
        · right
          refine ⟨l,?_,rfl⟩
          rw [List.getLast?_cons,h];rfl
theorem Left.join {T:TP} {lo mid hi:Option Key} {ks1 ks2:List Key} {is1 is2:List Nat} {es1 es2:Es} {ps1 ps2:List Nat} (h:Left T lo ks1 is1 mid es1 ps1) (hhi:∀ k∈ks1,∀ u,hi=some u->lt k u) (hk:Kids T mid hi ks2 is2 es2 ps2):Kids T lo hi (ks1++ks2) (is1++is2) (es1++es2) (ps1++ps2):=by
  induction h with
  | nil=>exact hk
  | cons h hb hl hm ih =>
    rename_i i lo k ks is mid es es' ps ps'
    rw [List.cons_append,List.cons_append,List.append_assoc,List.append_assoc]
    exact .cons h ⟨hb,hhi k (by simp)⟩ (ih (fun k' hk'=>hhi k' (by simp [hk'])) hk)
theorem Right.join {T:TP} {i:Nat} {lo mid hi:Option Key} {ks:List Key} {is:List Nat} {e es:Es} {p ps:List Nat} (h:T i lo mid e p) (hr:Right T mid hi ks is es ps) (hlo:∀ k,mid=some k->ks≠[]->∀ l,lo=some l->lt l k):Kids T lo hi ks (i::is) (e++es) (p++ps):=by
  cases hr with
  | nil=>simpa using Kids.one h
  | cons hb hk=>exact .cons h ⟨hlo _ rfl (by simp),hb⟩ hk
end T4
set_option linter.unusedVariables false
set_option linter.unusedSimpArgs false
namespace T4
def nodeAt (A:Ar) (i:Nat):Nod:=(A.nd i).getD N0
def kid (n:Nod) (k:Nat):Nat:=n.kids.getD k 0
def splitF (A:Ar) (i:Nat) (n:Nod):Ar×Option (Key×Nat) :=
  if n.size<=A.fan then (setN A i n,none)
  else
    let h:=(n.size+1) / 2
    if n.kids=[] then
      let q:=place (setN (setN A i n) i ⟨n.keys.take h,n.vals.take h,[]⟩) ⟨n.keys.drop h,n.vals.drop h,[]⟩
      (q.1,some (n.keys.getD h [],q.2))
    else
      let q:=place (setN (setN A i n) i ⟨n.keys.take (h-1),[],n.kids.take h⟩) ⟨n.keys.drop h,[],n.kids.drop h⟩
      (q.1,some (n.keys.getD (h-1) [],q.2))
def leafPut (n:Nod) (key val:Key):Nod :=
  if has n.keys key then ⟨n.keys,n.vals.set (pos n.keys key) val,[]⟩ else ⟨n.keys.insertIdx (pos n.keys key) key,n.vals.insertIdx (pos n.keys key) val,[]⟩
def putF:Nat->Ar->Nat->Key->Key->Ar×Option (Key×Nat)
  | 0,A,_,_,_=>(A,none)
  | h+1,A,i,key,val =>
    let n:=nodeAt A i
    if n.kids=[] then splitF A i (leafPut n key val)
    else
      let k:=bel n.keys key
      let q:=putF h A (kid n k) key val
      match q.2 with
      | none=>(q.1,none)
      | some (b,rt)=>splitF q.1 i ⟨n.keys.insertIdx k b,[],n.kids.insertIdx (k+1) rt⟩
def sizes:Nat->Ar->Nat->Key->List Nat
  | 0,A,i,_=>[]
  | h+1,A,i,key=>let n:=nodeAt A i;n.size::(if n.kids=[] then [] else sizes h A (kid n (bel n.keys key)) key)
def trail (fan:Nat):List Nat->Nat
  | []=>0
  | s::r=>if trail fan r=r.length/\fan<=s then trail fan r+1 else trail fan r
theorem trail_le (fan:Nat):∀ l:List Nat,trail fan l<=l.length
  | []=>Nat.le_refl _
  | s::r=>by have:=trail_le fan r;rw [trail,List.length_cons];split<;>omega
theorem insertIdx_app {α:Type} (l r:List α) (x:α):(l++r).insertIdx l.length x=l++x::r:=by
  induction l with
  | nil=>simp
  | cons a l ih=>simp [ih]
theorem Kids.cut {T:TP} {lo hi:Option Key} {ks:List Key} {is:List Nat} {es:Es} {ps:List Nat} (h:Kids T lo hi ks is es ps):∀ (m:Nat),0<m->m<is.length ->
    ∃ k es1 es2 ps1 ps2,ks[m-1]?=some k/\Btw lo hi k/\Kids T lo (some k) (ks.take (m-1)) (is.take m) es1 ps1/\Kids T (some k) hi (ks.drop m) (is.drop m) es2 ps2/\es=es1++es2/\ps=ps1++ps2:=by
  induction h with
  | one h=>intro m h1 h2;simp at h2;omega
  | cons h hb hk ih =>
    rename_i i lo hi k ks is es es' ps ps'
    intro m h1 h2
    rcases Nat.eq_or_lt_of_le h1 with h3|h3
    · obtain rfl:m=1:=by omega
      exact ⟨k,es,es',ps,ps',rfl,hb,by simpa using Kids.one h,by simpa using hk,rfl,rfl⟩
    · obtain ⟨k',es1,es2,ps1,ps2,q1,q2,q3,q4,q5,q6⟩:=ih (m-1) (by omega) (by simp at h2;omega)
      obtain ⟨j,rfl⟩:∃ j,m=j+2:=⟨m-2,by omega⟩
      simp only [Nat.add_sub_cancel,show j+2-1=j+1 by omega] at q1 q3 q4 ⊢
      refine ⟨k',es++es1,es2,ps++ps1,ps2,by simpa using q1,⟨fun l hl=>lt_trans (hb.1 l hl) (q2.1 k rfl),q2.2⟩,?_,by simpa using q4,by rw [q5];simp,by rw [q6];simp⟩
      rw [List.take_succ_cons,List.take_succ_cons]
      exact .cons h ⟨hb.1,fun u hu=>by cases hu;exact q2.1 k rfl⟩ q3
def Put1 (A A':Ar) (h:Nat) (mn:Nat×Nat) (i:Nat) (lo hi:Option Key) (es:Es) (ps:List Nat):Option (Key×Nat)->Nat->Prop
  | none,t=>∃ ps',Mv A A' ps ps'/\Tree A'.nd A.fan h mn i lo hi es ps'/\ps'.length=ps.length+t
  | some (b,rt),t=>∃ es1 es2 ps1 ps2,es=es1++es2/\Btw lo hi b/\Mv A A' ps (ps1++ps2)/\Reg A'.nd A.fan h i lo (some b) es1 ps1/\Reg A'.nd A.fan h rt (some b) hi es2 ps2/\ps1.length+ps2.length=ps.length+t
theorem Mv.nds {A B:Ar} {P P':List Nat} (h:Mv A B P P') {Q:List Nat} (hq:Acc A Q P):∀ j∈Q,B.nd j=A.nd j:=(h.acc Q hq).2
theorem Acc.split {A:Ar} {Q P:List Nat} (h:Acc A Q P):Acc A (Q++P) []:=h.perm fun x=>by simp
theorem mid {l:List Key} {h:Nat} (hl:h<l.length):l=l.take h++l.getD h []::l.drop (h+1):=by
  conv=>lhs;rw [<- List.take_append_drop h l,List.drop_eq_getElem_cons hl]
  simp [List.getD,hl]
theorem two_places {A:Ar} {i:Nat} {P Q:List Nat} (hA:Acc A Q (i::P)) (n x y:Nod) :
    let q:=place (setN (setN A i n) i x) y
    Mv A q.1 (i::P) (i::q.2::P)/\q.1.nd i=some x/\q.1.nd q.2=some y/\(∀ j∈P,q.1.nd j=A.nd j)/\q.1.fan=A.fan:=by
  intro q
  have hq:q=place (setN (setN A i n) i x) y:=rfl
  have m1:Mv A (setN (setN A i n) i x) [i] [i]:=(mv_set A i n).trans (mv_set _ i x)
  obtain ⟨m2,hy⟩:=mv_place (setN (setN A i n) i x) y
  rw [<- hq] at m2 hy
  clear_value q
  have hA1:Acc A (Q++P) [i]:=hA.perm fun z=>by simp [List.count_append,List.count_cons]<;>omega
  obtain ⟨a1,n1⟩:=m1.acc _ hA1
  obtain ⟨a2,n2⟩:=m2.acc _ a1.split
  have hi:i<A.at_.length:=hA.lt (by simp)
  refine ⟨Mv.trans (P':=i::P) (m1.frame (R:=P) (fun z=>by simp [List.count_cons]) (fun z=>by simp [List.count_cons])) (m2.frame (R:=i::P) (fun z=>by simp) (fun z=>by simp [List.count_cons]<;>omega)),?_,hy ⟨_,_,a1⟩,fun j hj=>?_,m2.fan.trans m1.fan⟩
  · have:=n2 i (by simp)
    exact this.trans (nd_set _ i x (by simpa [setN] using hi))
  · exact (n2 j (by simp [hj])).trans (n1 j (by simp [hj]))
theorem split_leaf {A:Ar} {Q:List Nat} {i:Nat} {lo hi:Option Key} {es:Es} {mn:Nat×Nat} (hA:Acc A Q [i]) (hfan:4<=A.fan) (hu:UpE es) (hb:∀ x∈es,Bnd lo hi x.1) (hs:es.length<=A.fan+1) (ht:mn.1<=es.length) :
    Put1 A (splitF A i ⟨keysE es,valsE es,[]⟩).1 1 mn i lo hi es [i] (splitF A i ⟨keysE es,valsE es,[]⟩).2 (if es.length<=A.fan then 0 else 1)/\((splitF A i ⟨keysE es,valsE es,[]⟩).2.isSome=decide (A.fan<es.length)):=by
  have hsz:(⟨keysE es,valsE es,[]⟩:Nod).size=es.length:=by simp [Nod.size,keysE_length]
  have hil:i<A.at_.length:=hA.lt (by simp)
  have hbk:∀ k∈keysE es,Bnd lo hi k:=fun k hk=>by obtain ⟨x,hx,rfl⟩:=List.mem_map.1 hk;exact hb x hx
  unfold splitF
  rw [hsz]
  by_cases hle:es.length<=A.fan
  · rw [if_pos hle,if_pos hle]
    refine ⟨⟨[i],mv_set A i _,⟨_,nd_set A i _ hil,by rw [hsz];exact hle,.inl ⟨rfl,by rw [hsz];exact ht,rfl,rfl,rfl,hu,hbk,rfl⟩⟩,rfl⟩,by simp<;>omega⟩
  · rw [if_neg hle,if_neg hle]
    dsimp only
    rw [if_pos rfl]
    generalize hh:(es.length+1) / 2=h
    have h1:h<es.length:=by omega
    have h0:0<h:=by omega
    obtain ⟨m,x1,x2,_,hf⟩:=two_places hA ⟨keysE es,valsE es,[]⟩ ⟨(keysE es).take h,(valsE es).take h,[]⟩ ⟨(keysE es).drop h,(valsE es).drop h,[]⟩
    generalize place (setN (setN A i ⟨keysE es,valsE es,[]⟩) i ⟨(keysE es).take h,(valsE es).take h,[]⟩) ⟨(keysE es).drop h,(valsE es).drop h,[]⟩=q at *
    have hkl:h<(keysE es).length:=by rw [keysE_length];exact h1
    have hmid:=mid hkl
    have hu':Up (keysE es):=hu
    have hget:(keysE es).getD h []=(keysE es)[h]:=by simp [List.getD,hkl]
    have hmem:(keysE es).getD h []∈keysE es:=by rw [hget];simp
    rw [hmid] at hu'
    obtain ⟨u1,u2,u3⟩:=List.pairwise_append.1 hu'
    have hk1:keysE (es.take h)=(keysE es).take h:=by simp [keysE,List.map_take]
    have hk2:keysE (es.drop h)=(keysE es).drop h:=by simp [keysE,List.map_drop]
    have hv1:valsE (es.take h)=(valsE es).take h:=by simp [valsE,List.map_take]
    have hv2:valsE (es.drop h)=(valsE es).drop h:=by simp [valsE,List.map_drop]
    have hdrop:(keysE es).drop h=(keysE es).getD h []::(keysE es).drop (h+1):=by rw [List.drop_eq_getElem_cons hkl,hget]
    refine ⟨⟨es.take h,es.drop h,[i],[q.2],(List.take_append_drop h es).symm,?_,m,?_,?_,rfl⟩,by simp<;>omega⟩
    · refine ⟨fun l hl=>?_,fun u hu2=>(hbk _ hmem).2 u hu2⟩
      have h00:(keysE es)[0]'(by omega)∈(keysE es).take h:=by
        rw [List.mem_take_iff_getElem]
        exact ⟨0,by omega,rfl⟩
      have h3:=u3 _ h00 _ (List.mem_cons_self)
      exact lt_of_nlt_lt ((hbk _ (List.mem_of_mem_take h00)).1 l hl) h3
    · refine ⟨_,x1,?_,.inl ⟨rfl,?_,rfl,hk1.symm,hv1.symm,by show Up (keysE (es.take h));rw [hk1];exact u1,fun k hk=>?_,rfl⟩⟩
      · simp [Nod.size,keysE_length];omega
      · simp [Nod.size,keysE_length];omega
      · exact ⟨(hbk k (List.mem_of_mem_take hk)).1,fun u hu2=>by cases hu2;exact u3 k hk _ List.mem_cons_self⟩
    · refine ⟨_,x2,?_,.inl ⟨rfl,?_,rfl,hk2.symm,hv2.symm,by show Up (keysE (es.drop h));rw [hk2,hdrop];exact u2,fun k hk=>?_,rfl⟩⟩
      · simp [Nod.size,keysE_length];omega
      · simp [Nod.size,keysE_length];omega
      · refine ⟨fun l hl=>?_,(hbk k (List.mem_of_mem_drop hk)).2⟩
        cases hl
        have hk:k∈(keysE es).drop h:=hk
        rw [hdrop] at hk
        rcases List.mem_cons.1 hk with rfl|hk
        · exact lt_irrefl _
        · exact lt_asymm ((List.pairwise_cons.1 u2).1 k hk)
theorem split_inner {A:Ar} {Q:List Nat} {h i:Nat} {lo hi:Option Key} {es:Es} {ks:List Key} {is:List Nat} {ps:List Nat} {mn:Nat×Nat} (h0:0<h) (hA:Acc A Q (i::ps)) (hfan:4<=A.fan) (hk:Kids (Reg A.nd A.fan h) lo hi ks is es ps) (hs:is.length<=A.fan+1) (ht:mn.2<=is.length) (ht2:2<=is.length) :
    Put1 A (splitF A i ⟨ks,[],is⟩).1 (h+1) mn i lo hi es (i::ps) (splitF A i ⟨ks,[],is⟩).2 (if is.length<=A.fan then 0 else 1)/\((splitF A i ⟨ks,[],is⟩).2.isSome=decide (A.fan<is.length)):=by
  have hne:is≠[]:=by intro e;rw [e] at ht2;simp at ht2
  have hsz:(⟨ks,[],is⟩:Nod).size=is.length:=by simp [Nod.size,hne]
  have hil:i<A.at_.length:=hA.lt (by simp)
  unfold splitF
  rw [hsz]
  by_cases hle:is.length<=A.fan
  · rw [if_pos hle,if_pos hle]
    have m:Mv A (setN A i ⟨ks,[],is⟩) (i::ps) (i::ps):=(mv_set A i _).frame (R:=ps) (fun z=>by simp [List.count_cons]<;>omega) (fun z=>by simp [List.count_cons]<;>omega)
    have hA1:Acc A (Q++ps) [i]:=hA.perm fun z=>by simp [List.count_append,List.count_cons]<;>omega
    have n1:=(mv_set A i ⟨ks,[],is⟩).nds hA1
    refine ⟨⟨i::ps,m,⟨_,nd_set A i _ hil,by rw [hsz];exact hle,.inr ⟨h0,by rw [hsz];exact ht,rfl,ps,rfl,?_⟩⟩,rfl⟩,by simp<;>omega⟩
    exact hk.mono fun htr hsub=>htr.keep fun j hj=>n1 j (by simp [hsub j hj])
  · rw [if_neg hle,if_neg hle]
    dsimp only
    rw [if_neg hne]
    generalize hh:(is.length+1) / 2=m
    obtain ⟨k,es1,es2,ps1,ps2,q1,q2,q3,q4,rfl,rfl⟩:=hk.cut m (by omega) (by omega)
    obtain ⟨mm,x1,x2,x3,hf⟩:=two_places hA ⟨ks,[],is⟩ ⟨ks.take (m-1),[],is.take m⟩ ⟨ks.drop m,[],is.drop m⟩
    generalize place (setN (setN A i ⟨ks,[],is⟩) i ⟨ks.take (m-1),[],is.take m⟩) ⟨ks.drop m,[],is.drop m⟩=q at *
    have hg:ks.getD (m-1) []=k:=by simp [List.getD,q1]
    have e1:is.take m≠[]:=fun e=>by have h1:=congrArg List.length e;rw [List.length_take,List.length_nil] at h1;omega
    have e2:is.drop m≠[]:=fun e=>by have h1:=congrArg List.length e;rw [List.length_drop,List.length_nil] at h1;omega
    rw [hg]
    refine ⟨⟨es1,es2,i::ps1,q.2::ps2,rfl,q2,?_,?_,?_,by simp<;>omega⟩,by simp<;>omega⟩
    · exact mm.trans ((Mv.refl _ _).frame (P:=i::q.2::(ps1++ps2)) (P':=i::q.2::(ps1++ps2)) (R:=[]) (fun z=>by simp) (fun z=>by simp [List.count_cons,List.count_append]<;>omega))
    · refine ⟨_,x1,?_,.inr ⟨h0,?_,rfl,ps1,rfl,?_⟩⟩
      · simp [Nod.size,e1];omega
      · simp [Nod.size,e1];omega
      · exact q3.mono fun htr hsub=>htr.keep fun j hj=>x3 j (by simp [hsub j hj])
    · refine ⟨_,x2,?_,.inr ⟨h0,?_,rfl,ps2,rfl,?_⟩⟩
      · simp [Nod.size,e2];omega
      · simp [Nod.size,e2];omega
      · exact q4.mono fun htr hsub=>htr.keep fun j hj=>x3 j (by simp [hsub j hj])
theorem leafPut_eq {es:Es} {key val:Key} (hu:UpE es):leafPut ⟨keysE es,valsE es,[]⟩ key val=⟨keysE (insE key val es),valsE (insE key val es),[]⟩:=by
  unfold leafPut
  dsimp only
  cases hh:has (keysE es) key with
  | true=>obtain ⟨h1,h2⟩:=ins_has (val:=val) hh;rw [if_pos rfl,h1,h2]
  | false=>obtain ⟨h1,h2⟩:=ins_no (val:=val) hh;rw [if_neg (by decide),h1,h2]
def takes (A:Ar) (h i:Nat) (key:Key) (es:Es):Nat:=if inE key es then 0 else trail A.fan (sizes h A i key)
theorem inE_has (key:Key) (es:Es):inE key es=has (keysE es) key:=by
  unfold inE
  rw [get_has]
  cases hh:has (keysE es) key with
  | false=>rfl
  | true =>
    rw [if_pos rfl]
    have h1:=of_decide_eq_true hh
    have h2:=(List.getElem?_eq_some_iff.1 h1).1
    rw [keysE_length] at h2
    have:pos (keysE es) key<(valsE es).length:=by rw [valsE_length];exact h2
    rw [List.getElem?_eq_getElem this];rfl
theorem put_ok:∀ (h:Nat) {A:Ar} {Q:List Nat} {i:Nat} {mn:Nat×Nat} {lo hi:Option Key} {es:Es} {ps:List Nat} {key val:Key},Tree A.nd A.fan h mn i lo hi es ps->Acc A Q ps->4<=A.fan->Bnd lo hi key ->
    Put1 A (putF h A i key val).1 h mn i lo hi (insE key val es) ps (putF h A i key val).2 (takes A h i key es) /\
      ((putF h A i key val).2.isSome=(!inE key es && decide (trail A.fan (sizes h A i key)=(sizes h A i key).length)))
  | 0,_,_,_,_,_,_,_,_,_,_,ht,_,_,_=>ht.elim
  | h+1,A,Q,i,mn,lo,hi,es,ps,key,val,⟨n,hn,hsz,hc⟩,hA,hfan,hb=>by
    have hna:nodeAt A i=n:=by simp [nodeAt,hn]
    rcases hc with ⟨rfl,hmin,hk,hkeys,hvals,hu,hbn,rfl⟩|⟨h0,hmin,hv,ps',rfl,hk⟩
    · have hne:n=⟨keysE es,valsE es,[]⟩:=by cases n;simp_all
      have hsz':n.size=es.length:=by rw [hne];simp [Nod.size,keysE_length]
      rw [putF]
      dsimp only
      rw [hna,if_pos hk,hne,leafPut_eq hu]
      have hlen:=insE_len (key:=key) (val:=val) (es:=es)
      have hhas:=inE_has key es
      have hsl:sizes 1 A i key=[es.length]:=by simp [sizes,hna,hk,hsz']
      obtain ⟨s1,s2⟩:=split_leaf (mn:=mn) hA hfan (insE_up (val:=val) (key:=key) hu) (fun x hx=>by
        rcases insE_mem hx with rfl|hx
        · exact hb
        · exact hbn x.1 (by rw [hkeys];exact List.mem_map.2 ⟨x,hx,rfl⟩)) (by rw [hlen];split<;>omega) (by rw [hlen];omega)
      have ht:takes A 1 i key es=if (insE key val es).length<=A.fan then 0 else 1:=by
        unfold takes
        rw [hsl,hlen,hhas]
        cases has (keysE es) key with
        | true=>simp;omega
        | false =>
          simp only [trail,List.length_nil,true_and,Bool.false_eq_true,if_false]
          by_cases h1:A.fan<=es.length
          · rw [if_pos h1,if_neg (by omega)]
          · rw [if_neg h1,if_pos (by omega)]
      rw [ht]
      refine ⟨s1,?_⟩
      rw [s2,hsl,hlen,hhas]
      cases has (keysE es) key with
      | true=>simp;omega
      | false =>
        simp only [trail,List.length_nil,true_and,Bool.false_eq_true,if_false,Bool.not_false,Bool.true_and,List.length_cons,decide_eq_decide]
        by_cases h1:A.fan<=es.length
        · rw [if_pos h1];omega
        · rw [if_neg h1];omega
    · have hkl:=hk.len
      have hne:n.kids≠[]:=by intro e;rw [e] at hkl;simp at hkl
      have hsz':n.size=n.kids.length:=by simp [Nod.size,hne]
      obtain ⟨ks1,ks2,is1,is2,i',lo',hi',es1,es2,e,ps1,ps2,p,f1,f2,f3,f4,f5,f6,f7,rfl,rfl,f10,f11,f12,f13,f14⟩:=hk.find Tree.inB hb
      have hkeys:=hk.keys
      have hkid:kid n (bel n.keys key)=i':=by rw [kid,f2,<- f4];simp [List.getD]
      have hA1:Acc A (Q++(i::(ps1++ps2))) p:=hA.perm fun z=>by simp [List.count_cons,List.count_append]<;>omega
      obtain ⟨r1,r2⟩:=put_ok h (val:=val) f6 hA1 hfan f10
      have hin:inE key (es1++(e++es2))=inE key e:=by unfold inE;rw [getE_low f11,getE_high f12]
      have hins:insE key val (es1++(e++es2))=es1++(insE key val e++es2):=by rw [insE_low f11,insE_high f12]
      have hsl:sizes (h+1) A i key=n.kids.length::sizes h A i' key:=by rw [sizes,hna,if_neg hne,hkid,hsz']
      rw [putF]
      dsimp only
      rw [hna,if_neg hne,hkid,hins,hsl]
      generalize hq:putF h A i' key val=q at *
      obtain ⟨A',r⟩:=q
      have keepL:∀ {P':List Nat},Mv A A' p P'->Left (Reg A'.nd A.fan h) lo ks1 is1 lo' es1 ps1:=fun m=>f5.mono fun htr hs=>htr.keep fun j hj=>m.nds hA1 j (by simp [hs j hj])
      have keepR:∀ {P':List Nat},Mv A A' p P'->Right (Reg A'.nd A.fan h) hi' hi ks2 is2 es2 ps2:=fun m=>f7.mono fun htr hs=>htr.keep fun j hj=>m.nds hA1 j (by simp [hs j hj])
      have hks1:∀ k∈ks1,∀ u,hi=some u->lt k u:=fun k hk'=>(hkeys.2 k (by rw [f1];exact List.mem_append_left _ hk')).2
      have htk:takes A (h+1) i key (es1++(e++es2))=if inE key e then 0 else trail A.fan (n.kids.length::sizes h A i' key):=by unfold takes;rw [hin,hsl]
      rw [htk,hin]
      cases r with
      | none =>
        obtain ⟨p',m,ht,hlen⟩:=r1
        have htr:trail A.fan (n.kids.length::sizes h A i' key)=trail A.fan (sizes h A i' key)\/inE key e=true:=by
          cases hie:inE key e with
          | true=>exact .inr rfl
          | false =>
            left
            rw [hie] at r2
            have:¬ trail A.fan (sizes h A i' key)=(sizes h A i' key).length:=by
              intro h';rw [decide_eq_true h'] at r2;cases r2
            rw [trail,if_neg (fun h=>this h.1)]
        have hm:Mv A A' (i::(ps1++(p++ps2))) (i::(ps1++(p'++ps2))):=m.frame (R:=i::(ps1++ps2)) (fun z=>by simp [List.count_cons,List.count_append]<;>omega) (fun z=>by simp [List.count_cons,List.count_append]<;>omega)
        refine ⟨⟨_,hm,⟨n,(m.nds hA1 i (by simp)).trans hn,hsz,.inr ⟨h0,hmin,hv,_,rfl,?_⟩⟩,?_⟩,?_⟩
        · rw [f1,f2]
          exact (keepL m).join hks1 ((keepR m).join ht f14)
        · unfold takes at hlen
          simp only [List.length_cons,List.length_append,hlen]
          rcases htr with h'|h'
          · rw [h'];omega
          · rw [h'];simp<;>omega
        · show false=_
          rcases htr with h'|h'
          · cases hie:inE key e with
            | true=>rfl
            | false =>
              rw [h']
              have:=trail_le A.fan (sizes h A i' key)
              simp;omega
          · rw [h'];rfl
      | some br =>
        obtain ⟨b,rt⟩:=br
        obtain ⟨e1,e2,p1,p2,he,hbt,m,t1,t2,hlen⟩:=r1
        have hie:inE key e=false/\trail A.fan (sizes h A i' key)=(sizes h A i' key).length:=by
          have:true=_:=r2
          cases hie:inE key e with
          | true=>rw [hie] at this;cases this
          | false=>rw [hie] at this;exact ⟨rfl,of_decide_eq_true this.symm⟩
        have hks:n.keys.insertIdx (bel n.keys key) b=ks1++b::ks2:=by rw [<- f3];conv=>lhs;rw [f1]
                                                                     exact insertIdx_app _ _ _
        have hkd:n.kids.insertIdx (bel n.keys key+1) rt=is1++i'::rt::is2:=by
          have:bel n.keys key+1=(is1++[i']).length:=by simp [f4]
          rw [this,f2,show is1++i'::is2=(is1++[i'])++is2 by simp,insertIdx_app]
          simp
        have hm:Mv A A' (i::(ps1++(p++ps2))) (i::(ps1++(p1++(p2++ps2)))):=m.frame (R:=i::(ps1++ps2)) (fun z=>by simp [List.count_cons,List.count_append]<;>omega) (fun z=>by simp [List.count_cons,List.count_append]<;>omega)
        obtain ⟨hA2,_⟩:=hm.acc Q hA
        have hK:Kids (Reg A'.nd A'.fan h) lo hi (ks1++b::ks2) (is1++i'::rt::is2) (es1++(insE key val e++es2)) (ps1++(p1++(p2++ps2))):=by
          rw [m.fan,he,List.append_assoc]
          refine (keepL m).join hks1 (.cons t1 ⟨hbt.1,fun u hu=>?_⟩ ((keepR m).join t2 fun k hk' _ l hl=>by cases hl;exact hbt.2 k hk'))
          cases hr:hi' with
          | none =>
            rw [hr] at f7
            cases f7 with
            | nil=>cases hu
          | some k' =>
            rw [hr] at f7 hbt
            have h1:=hbt.2 k' rfl
            cases f7 with
            | nil=>cases hu;exact h1
            | cons h2 _=>exact lt_trans h1 (h2 u hu)
        have hl2:(is1++i'::rt::is2).length=n.kids.length+1:=by rw [f2];simp;omega
        obtain ⟨s1,s2⟩:=split_inner (mn:=mn) h0 hA2 (by rw [m.fan];exact hfan) hK (by rw [hl2,m.fan];omega) (by rw [hl2];omega) (by rw [hl2];have:0<n.kids.length:=List.length_pos_iff.2 hne;omega)
        dsimp only
        rw [hks,hkd]
        have htr:trail A.fan (n.kids.length::sizes h A i' key)=trail A.fan (sizes h A i' key)+(if (is1++i'::rt::is2).length<=A'.fan then 0 else 1):=by
          rw [trail,hl2,m.fan]
          by_cases h1:A.fan<=n.kids.length
          · rw [if_pos ⟨hie.2,h1⟩,if_neg (by omega)]
          · rw [if_neg (fun h=>h1 h.2),if_pos (by omega)];rfl
        refine ⟨?_,?_⟩
        · rw [hie.1,if_neg (by decide),htr]
          unfold takes at hlen
          rw [hie.1,if_neg (by decide)] at hlen
          generalize splitF A' i ⟨ks1++b::ks2,[],is1++i'::rt::is2⟩=q2 at *
          generalize (if (is1++i'::rt::is2).length<=A'.fan then 0 else 1)=tt at *
          obtain ⟨A2,r2⟩:=q2
          cases r2 with
          | none =>
            obtain ⟨pp,m2,tr2,hl3⟩:=s1
            exact ⟨pp,hm.trans m2,by rw [<- m.fan];exact tr2,by rw [hl3];simp;omega⟩
          | some br2 =>
            obtain ⟨b2,rt2⟩:=br2
            obtain ⟨x1,x2,y1,y2,g1,g2,g3,g4,g5,g6⟩:=s1
            exact ⟨x1,x2,y1,y2,g1,g2,hm.trans g3,by rw [<- m.fan];exact g4,by rw [<- m.fan];exact g5,by rw [g6];simp;omega⟩
        · rw [s2,hie.1,hl2,m.fan,Bool.not_false,Bool.true_and]
          refine decide_eq_decide.2 ?_
          rw [htr,hl2,m.fan,List.length_cons]
          have:=hie.2
          split<;>omega
end T4
set_option linter.unusedVariables false
set_option linter.unusedSimpArgs false
namespace T4
def joinN (s:Key) (x y:Nod):Nod:=if x.kids=[] then ⟨x.keys++y.keys,x.vals++y.vals,[]⟩ else ⟨x.keys++(s::y.keys),[],x.kids++y.kids⟩
def evenF (A:Ar) (i k:Nat):Ar :=
  let n:=nodeAt A i
  let m:=joinN (n.keys.getD k []) (nodeAt A (kid n k)) (nodeAt A (kid n (k+1)))
  if m.size<=A.fan then setN (drop (setN A (kid n k) m) (kid n (k+1))) i ⟨n.keys.eraseIdx k,[],n.kids.eraseIdx (k+1)⟩
  else
    let h:=m.size / 2
    if m.kids=[] then setN (setN (setN A (kid n k) ⟨m.keys.take h,m.vals.take h,[]⟩) (kid n (k+1)) ⟨m.keys.drop h,m.vals.drop h,[]⟩) i ⟨n.keys.set k (m.keys.getD h []),[],n.kids⟩
    else setN (setN (setN A (kid n k) ⟨m.keys.take (h-1),[],m.kids.take h⟩) (kid n (k+1)) ⟨m.keys.drop h,[],m.kids.drop h⟩) i ⟨n.keys.set k (m.keys.getD (h-1) []),[],n.kids⟩
def leafCut (n:Nod) (key:Key):Nod:=⟨n.keys.eraseIdx (pos n.keys key),n.vals.eraseIdx (pos n.keys key),[]⟩
def cutF:Nat->Ar->Nat->Key->Ar
  | 0,A,_,_=>A
  | h+1,A,i,key =>
    let n:=nodeAt A i
    if n.kids=[] then setN A i (leafCut n key)
    else
      let k:=bel n.keys key
      let A':=cutF h A (kid n k) key
      if (nodeAt A' (kid n k)).size<A'.fan / 2 then evenF A' i (max k 1-1) else A'
theorem eraseIdx_app {α:Type} (l r:List α) (x:α):(l++x::r).eraseIdx l.length=l++r:=by
  induction l with
  | nil=>simp
  | cons a l ih=>simp [ih]
theorem set_app {α:Type} (l r:List α) (x y:α):(l++x::r).set l.length y=l++y::r:=by
  induction l with
  | nil=>simp
  | cons a l ih=>simp [ih]
theorem Kids.append {T:TP} {lo hi:Option Key} {s:Key} {ks1 ks2:List Key} {is1 is2:List Nat} {es1 es2:Es} {ps1 ps2:List Nat} (h:Kids T lo (some s) ks1 is1 es1 ps1) (hlo:∀ l,lo=some l->lt l s) (hhi:∀ u,hi=some u->lt s u) (hk:Kids T (some s) hi ks2 is2 es2 ps2) :
    Kids T lo hi (ks1++s::ks2) (is1++is2) (es1++es2) (ps1++ps2):=by
  generalize hm:some s=m at h
  induction h with
  | one h=>subst hm;exact .cons h ⟨hlo,hhi⟩ hk
  | cons h hb hk' ih =>
    subst hm
    rw [List.cons_append,List.cons_append,List.append_assoc,List.append_assoc]
    exact .cons h ⟨hb.1,fun u hu=>lt_trans (hb.2 s rfl) (hhi u hu)⟩ (ih (fun l hl=>by cases hl;exact hb.2 s rfl) rfl)
theorem Left.unsnoc {T:TP} {lo mid:Option Key} {ks:List Key} {is:List Nat} {es:Es} {ps:List Nat} (h:Left T lo ks is mid es ps) (hne:is≠[]) :
    ∃ ksL isL loL esL psL s a ea pa,ks=ksL++[s]/\is=isL++[a]/\mid=some s/\Left T lo ksL isL loL esL psL/\T a loL (some s) ea pa/\es=esL++ea/\ps=psL++pa/\(∀ l,loL=some l->lt l s)/\isL.length=ksL.length:=by
  induction h with
  | nil=>exact absurd rfl hne
  | cons h hb hl hm ih =>
    rename_i i lo k ks is mid es es' ps ps'
    cases hl with
    | nil=>exact ⟨[],[],lo,[],[],k,i,es,ps,rfl,rfl,rfl,.nil,h,by simp,by simp,hb,rfl⟩
    | cons h2 hb2 hl2 hm2 =>
      obtain ⟨ksL,isL,loL,esL,psL,s,a,ea,pa,e1,e2,e3,e4,e5,e6,e7,e8,e9⟩:=ih (by simp)
      refine ⟨k::ksL,i::isL,loL,es++esL,ps++psL,s,a,ea,pa,by rw [e1];rfl,by rw [e2];rfl,e3,.cons h hb e4 ?_,e5,by rw [e6];simp,by rw [e7];simp,e8,by simp [e9]⟩
      intro l hl
      cases e4 with
      | nil=>cases hl;exact lt_irrefl _
      | cons h3 hb3 hl3 hm3 =>
        exact lt_asymm (lt_of_lt_nlt (hb3 k rfl) (hm3 l hl))
theorem Right.uncons {T:TP} {mid hi:Option Key} {ks:List Key} {is:List Nat} {es:Es} {ps:List Nat} (h:Right T mid hi ks is es ps) (hne:is≠[]) :
    ∃ s ksR b isR hiR eb esR pb psR,mid=some s/\ks=s::ksR/\is=b::isR/\T b (some s) hiR eb pb/\Right T hiR hi ksR isR esR psR/\es=eb++esR/\ps=pb++psR/\(∀ u,hiR=some u->lt s u):=by
  cases h with
  | nil=>exact absurd rfl hne
  | cons hb hk =>
    cases hk with
    | one h=>exact ⟨_,[],_,[],hi,_,[],_,[],rfl,rfl,rfl,h,.nil,by simp,by simp,hb⟩
    | cons h hbt hk2=>exact ⟨_,_,_,_,_,_,_,_,_,rfl,rfl,rfl,h,.cons hbt.2 hk2,rfl,rfl,fun u hu=>by cases hu;exact hbt.1 _ rfl⟩
theorem nd_drop_ne (A:Ar) (i j:Nat) (h:i≠j):(drop A i).nd j=A.nd j:=by simp [Ar.nd,drop,List.getElem?_set_ne h]
theorem inner_size (ks:List Key) (is:List Nat) (h:is≠[]):(⟨ks,[],is⟩:Nod).size=is.length:=by simp [Nod.size,h]
theorem leaf_size (ks vs:List Key):(⟨ks,vs,[]⟩:Nod).size=ks.length:=by simp [Nod.size]
theorem Kids.ne {T:TP} {lo hi:Option Key} {ks:List Key} {is:List Nat} {es:Es} {ps:List Nat} (h:Kids T lo hi ks is es ps):is≠[]:=by
  have:=h.len;intro e;rw [e] at this;simp at this
theorem join_ok {nd:Nat->Option Nod} {fan h:Nat} {mn:Nat×Nat} {a b:Nat} {lo hi:Option Key} {s:Key} {ea eb:Es} {pa pb:List Nat} {x y:Nod} (ha:Tree nd fan h mn a lo (some s) ea pa) (hb:Tree nd fan h mn b (some s) hi eb pb) (hx:nd a=some x) (hy:nd b=some y) (hlo:∀ l,lo=some l->lt l s) (hhi:∀ u,hi=some u->lt s u) :
    (joinN s x y).size=x.size+y.size /\
    ((h=1/\joinN s x y=⟨keysE (ea++eb),valsE (ea++eb),[]⟩/\UpE (ea++eb)/\(∀ k∈keysE (ea++eb),Bnd lo hi k)/\pa=[a]/\pb=[b]) \/
     (1<h/\∃ ks is qa qb,joinN s x y=⟨ks,[],is⟩/\is≠[]/\pa=a::qa/\pb=b::qb/\Kids (Reg nd fan (h-1)) lo hi ks is (ea++eb) (qa++qb))):=by
  have iA:=ha.inB
  have iB:=hb.inB
  have uA:=ha.up
  have uB:=hb.up
  cases h with
  | zero=>exact ha.elim
  | succ h =>
    obtain ⟨n,h1,h2,h4⟩:=ha
    obtain ⟨m,g1,g2,g4⟩:=hb
    rw [hx] at h1;cases h1
    rw [hy] at g1;cases g1
    rcases h4 with ⟨e0,h3,h5,h6,h7,h8,h9,rfl⟩|⟨e0,h3,h5,qa,rfl,hk⟩
    · rcases g4 with ⟨_,g3,g5,g6,g7,g8,g9,rfl⟩|⟨g0,_⟩
      · have e:joinN s x y=⟨keysE (ea++eb),valsE (ea++eb),[]⟩:=by rw [joinN,if_pos h5,h6,h7,g6,g7,keysE_append,valsE_append]
        refine ⟨by rw [e,leaf_size,keysE_append,List.length_append,<- h6,<- g6];simp [Nod.size,h5,g5],.inl ⟨by omega,e,?_,?_,rfl,rfl⟩⟩
        · show Up (keysE (ea++eb))
          rw [keysE_append]
          refine List.pairwise_append.2 ⟨uA,uB,fun p hp q hq=>?_⟩
          obtain ⟨z,hz,rfl⟩:=List.mem_map.1 hp
          obtain ⟨t,ht,rfl⟩:=List.mem_map.1 hq
          exact lt_of_lt_nlt ((iA z hz).2 s rfl) ((iB t ht).1 s rfl)
        · intro k hk
          rw [keysE_append] at hk
          rcases List.mem_append.1 hk with hk|hk
          · obtain ⟨z,hz,rfl⟩:=List.mem_map.1 hk
            have:=iA z hz
            exact ⟨this.1,fun u hu=>lt_trans (this.2 s rfl) (hhi u hu)⟩
          · obtain ⟨z,hz,rfl⟩:=List.mem_map.1 hk
            have:=iB z hz
            exact ⟨fun l hl h=>this.1 s rfl (lt_trans h (hlo l hl)),this.2⟩
      · omega
    · rcases g4 with ⟨g0,_⟩|⟨g0,g3,g5,qb,rfl,gk⟩
      · omega
      · have hne:=hk.ne
        have gne:=gk.ne
        have e:joinN s x y=⟨x.keys++(s::y.keys),[],x.kids++y.kids⟩:=by rw [joinN,if_neg hne]
        refine ⟨by rw [e,inner_size _ _ (by simp [hne]),List.length_append];simp [Nod.size,hne,gne],.inr ⟨by omega,_,_,qa,qb,e,by simp [hne],rfl,rfl,?_⟩⟩
        exact hk.append hlo hhi gk
theorem even_ok {A:Ar} {Q:List Nat} {h i a b:Nat} {lo loL hiR hi:Option Key} {s:Key} {ksL ksR:List Key} {isL isR:List Nat} {esL ea eb esR:Es} {psL pa pb psR:List Nat} {mn:Nat×Nat}
    (hn:A.nd i=some ⟨ksL++s::ksR,[],isL++a::b::isR⟩) (hlen:isL.length=ksL.length) (hA:Acc A Q (i::(psL++(pa++(pb++psR))))) (hfan:4<=A.fan)
    (hL:Left (Reg A.nd A.fan h) lo ksL isL loL esL psL) (hR:Right (Reg A.nd A.fan h) hiR hi ksR isR esR psR) (ha:Tree A.nd A.fan h mn a loL (some s) ea pa) (hb:Tree A.nd A.fan h mn b (some s) hiR eb pb)
    (hlo:∀ l,loL=some l->lt l s) (hhi:∀ u,hiR=some u->lt s u) (hks:∀ k∈ksL,∀ u,hi=some u->lt k u) (hRL:∀ k,hiR=some k->ksR≠[]->∀ l,loL=some l->lt l k)
    (hsum:∀ x y,A.nd a=some x->A.nd b=some y->A.fan / 2<=x.size+y.size) :
    ∃ ks is ps,Mv A (evenF A i ksL.length) (i::(psL++(pa++(pb++psR)))) (i::ps)/\(evenF A i ksL.length).nd i=some ⟨ks,[],is⟩/\Kids (Reg (evenF A i ksL.length).nd A.fan h) lo hi ks is (esL++(ea++(eb++esR))) ps/\is.length<=isL.length+2+isR.length/\isL.length+1+isR.length<=is.length:=by
  obtain ⟨x,hx,hxs⟩:∃ x,A.nd a=some x/\x.size<=A.fan:=by cases h with|zero=>exact ha.elim|succ h=>obtain ⟨n,h1,h2,_⟩:=ha;exact ⟨n,h1,h2⟩
  obtain ⟨y,hy,hys⟩:∃ x,A.nd b=some x/\x.size<=A.fan:=by cases h with|zero=>exact hb.elim|succ h=>obtain ⟨n,h1,h2,_⟩:=hb;exact ⟨n,h1,h2⟩
  have hs:=hsum x y hx hy
  obtain ⟨hms,hm⟩:=join_ok ha hb hx hy hlo hhi
  have hpa:∃ qa,pa=a::qa:=by rcases hm with ⟨_,_,_,_,h,_⟩|⟨_,_,_,qa,_,_,_,h,_⟩<;>exact ⟨_,h⟩
  have hpb:∃ qb,pb=b::qb:=by rcases hm with ⟨_,_,_,_,_,h⟩|⟨_,_,_,_,qb,_,_,_,h,_⟩<;>exact ⟨_,h⟩
  obtain ⟨qa,rfl⟩:=hpa
  obtain ⟨qb,rfl⟩:=hpb
  -- each place is another one
  have cnt:∀ z,Q.count z+(i::(psL++(a::qa++(b::qb++psR)))).count z<=1:=fun z=>by have:=hA z;split at this<;>omega
  have dj:i≠a/\i≠b/\a≠b/\(∀ j∈psL,j≠i/\j≠a/\j≠b)/\(∀ j∈psR,j≠i/\j≠a/\j≠b)/\(∀ j∈qa,j≠i/\j≠a/\j≠b)/\(∀ j∈qb,j≠i/\j≠a/\j≠b):=by
    have key:∀ z,(if i=z then 1 else 0)+psL.count z+(if a=z then 1 else 0)+qa.count z+(if b=z then 1 else 0)+qb.count z+psR.count z<=1:=fun z=>by
      have:=cnt z
      simp only [List.count_cons,List.count_append,beq_iff_eq] at this
      omega
    refine ⟨?_,?_,?_,?_,?_,?_,?_⟩
    · rintro rfl;have:=key i;simp at this;omega
    · rintro rfl;have:=key i;simp at this;omega
    · rintro rfl;have:=key a;simp at this;omega
    all_goals
      intro j hj
      have h1:=List.count_pos_iff.2 hj
      have h2:=key j
      refine ⟨?_,?_,?_⟩<;>(rintro rfl;simp at h2;omega)
  obtain ⟨d1,d2,d3,dL,dR,da,db⟩:=dj
  have hil:i<A.at_.length:=hA.lt (by simp)
  have hal:a<A.at_.length:=hA.lt (by simp)
  have hbl:b<A.at_.length:=hA.lt (by simp)
  have hni:nodeAt A i=⟨ksL++s::ksR,[],isL++a::b::isR⟩:=by simp [nodeAt,hn]
  have hk1:kid ⟨ksL++s::ksR,[],isL++a::b::isR⟩ ksL.length=a:=by rw [kid,<- hlen];simp [List.getD]
  have hk2:kid ⟨ksL++s::ksR,[],isL++a::b::isR⟩ (ksL.length+1)=b:=by rw [kid,<- hlen];simp [List.getD]
  have hsk:(ksL++s::ksR).getD ksL.length []=s:=by simp [List.getD]
  have hna:nodeAt A a=x:=by simp [nodeAt,hx]
  have hnb:nodeAt A b=y:=by simp [nodeAt,hy]
  unfold evenF
  dsimp only
  rw [hni,hk1,hk2,hna,hnb]
  dsimp only
  rw [hsk,eraseIdx_app,set_app]
  have her:(isL++a::b::isR).eraseIdx (ksL.length+1)=isL++a::isR:=by
    rw [<- hlen,show isL.length+1=(isL++[a]).length by simp,show isL++a::b::isR=(isL++[a])++b::isR by simp,eraseIdx_app];simp
  rw [her]
  by_cases hle:(joinN s x y).size<=A.fan
  · rw [if_pos hle]
    have mv:Mv A (setN (drop (setN A a (joinN s x y)) b) i ⟨ksL++ksR,[],isL++a::isR⟩) (i::(psL++(a::qa++(b::qb++psR)))) (i::(psL++(a::qa++(qb++psR)))):=by
      refine Mv.trans ((mv_set A a (joinN s x y)).frame (R:=i::(psL++(qa++(b::qb++psR)))) (R1':=i::(psL++(a::qa++(b::qb++psR)))) (fun z=>by simp [List.count_cons,List.count_append]<;>omega) (fun z=>by simp [List.count_cons,List.count_append]<;>omega)) ?_
      refine Mv.trans ((mv_drop _ b).frame (R:=i::(psL++(a::qa++(qb++psR)))) (R1':=i::(psL++(a::qa++(qb++psR)))) (fun z=>by simp [List.count_cons,List.count_append]<;>omega) (fun z=>by simp)) ?_
      exact (mv_set _ i _).frame (R:=psL++(a::qa++(qb++psR))) (fun z=>by simp [List.count_cons,List.count_append]<;>omega) (fun z=>by simp [List.count_cons,List.count_append]<;>omega)
    have ndi:(setN (drop (setN A a (joinN s x y)) b) i ⟨ksL++ksR,[],isL++a::isR⟩).nd i=some ⟨ksL++ksR,[],isL++a::isR⟩:=nd_set _ i _ (by simpa [setN,drop] using hil)
    have ndj:∀ j,j≠i->j≠a->j≠b->(setN (drop (setN A a (joinN s x y)) b) i ⟨ksL++ksR,[],isL++a::isR⟩).nd j=A.nd j:=fun j h1 h2 h3=>by
      rw [nd_set_ne _ _ _ _ (fun e=>h1 e.symm),nd_drop_ne _ _ _ (fun e=>h3 e.symm),nd_set_ne _ _ _ _ (fun e=>h2 e.symm)]
    have nda:(setN (drop (setN A a (joinN s x y)) b) i ⟨ksL++ksR,[],isL++a::isR⟩).nd a=some (joinN s x y):=by
      rw [nd_set_ne _ _ _ _ d1,nd_drop_ne _ _ _ (fun e=>d3 e.symm),nd_set _ _ _ hal]
    generalize setN (drop (setN A a (joinN s x y)) b) i ⟨ksL++ksR,[],isL++a::isR⟩=B at *
    have tm:Reg B.nd A.fan h a loL hiR (ea++eb) (a::(qa++qb)):=by
      rcases hm with ⟨h1,e,hu,hbn,_,_⟩|⟨h1,ks,is,qa',qb',e,hne,e1,e2,hk⟩
      · obtain ⟨h0,rfl⟩:∃ h0,h=h0+1:=⟨h-1,by omega⟩
        obtain rfl:h0=0:=by omega
        rename_i e1 e2
        cases e1;cases e2
        exact ⟨_,nda,hle,.inl ⟨rfl,by rw [hms];exact hs,by rw [e],by rw [e],by rw [e],hu,by rw [e];exact hbn,rfl⟩⟩
      · obtain ⟨h0,rfl⟩:∃ h0,h=h0+1:=⟨h-1,by omega⟩
        cases e1;cases e2
        refine ⟨_,nda,hle,.inr ⟨by omega,by rw [hms];exact hs,by rw [e],_,rfl,?_⟩⟩
        rw [e]
        exact hk.mono fun ht hsub=>ht.keep fun j hj=>by
          rcases List.mem_append.1 (hsub j hj) with h|h
          · obtain ⟨g1,g2,g3⟩:=da j h;exact ndj j g1 g2 g3
          · obtain ⟨g1,g2,g3⟩:=db j h;exact ndj j g1 g2 g3
    refine ⟨_,_,psL++(a::(qa++qb)++psR),mv.trans ((Mv.refl _ _).frame (P:=i::(psL++(a::qa++(qb++psR)))) (P':=i::(psL++(a::qa++(qb++psR)))) (R:=[]) (fun z=>by simp) (fun z=>by simp [List.count_cons,List.count_append]<;>omega)),ndi,?_,by simp<;>omega,by simp<;>omega⟩
    have hj:ea++(eb++esR)=(ea++eb)++esR:=by simp
    rw [hj]
    exact (hL.mono fun ht hsub=>ht.keep fun j hj=>by obtain ⟨g1,g2,g3⟩:=dL j (hsub j hj);exact ndj j g1 g2 g3).join hks ((hR.mono fun ht hsub=>ht.keep fun j hj=>by obtain ⟨g1,g2,g3⟩:=dR j (hsub j hj);exact ndj j g1 g2 g3).join tm hRL)
  · rw [if_neg hle]
    -- two even ones
    have two:∀ (u v:Nod) (k':Key) (e1 e2:Es) (p1 p2:List Nat),(∀ (nd:Nat->Option Nod),nd a=some u->nd b=some v->(∀ j∈qa++qb,nd j=A.nd j)->Reg nd A.fan h a loL (some k') e1 (a::p1)/\Reg nd A.fan h b (some k') hiR e2 (b::p2))->ea++eb=e1++e2->qa++qb=p1++p2->Btw loL hiR k' ->
        ∃ ks is ps,Mv A (setN (setN (setN A a u) b v) i ⟨ksL++k'::ksR,[],isL++a::b::isR⟩) (i::(psL++(a::qa++(b::qb++psR)))) (i::ps)/\(setN (setN (setN A a u) b v) i ⟨ksL++k'::ksR,[],isL++a::b::isR⟩).nd i=some ⟨ks,[],is⟩ /\
          Kids (Reg (setN (setN (setN A a u) b v) i ⟨ksL++k'::ksR,[],isL++a::b::isR⟩).nd A.fan h) lo hi ks is (esL++(ea++(eb++esR))) ps/\is.length<=isL.length+2+isR.length/\isL.length+1+isR.length<=is.length:=by
      intro u v k' e1 e2 p1 p2 hT he hp hbt
      have ndi:(setN (setN (setN A a u) b v) i ⟨ksL++k'::ksR,[],isL++a::b::isR⟩).nd i=some ⟨ksL++k'::ksR,[],isL++a::b::isR⟩:=nd_set _ i _ (by simpa [setN] using hil)
      have ndj:∀ j,j≠i->j≠a->j≠b->(setN (setN (setN A a u) b v) i ⟨ksL++k'::ksR,[],isL++a::b::isR⟩).nd j=A.nd j:=fun j h1 h2 h3=>by
        rw [nd_set_ne _ _ _ _ (fun e=>h1 e.symm),nd_set_ne _ _ _ _ (fun e=>h3 e.symm),nd_set_ne _ _ _ _ (fun e=>h2 e.symm)]
      have nda:(setN (setN (setN A a u) b v) i ⟨ksL++k'::ksR,[],isL++a::b::isR⟩).nd a=some u:=by
        rw [nd_set_ne _ _ _ _ d1,nd_set_ne _ _ _ _ (fun e=>d3 e.symm),nd_set _ _ _ hal]
      have ndb:(setN (setN (setN A a u) b v) i ⟨ksL++k'::ksR,[],isL++a::b::isR⟩).nd b=some v:=by
        rw [nd_set_ne _ _ _ _ d2,nd_set _ _ _ (by simpa [setN] using hbl)]
      have mv:Mv A (setN (setN (setN A a u) b v) i ⟨ksL++k'::ksR,[],isL++a::b::isR⟩) (i::(psL++(a::qa++(b::qb++psR)))) (i::(psL++(a::p1++(b::p2++psR)))):=by
        have hpc:∀ z,qa.count z+qb.count z=p1.count z+p2.count z:=fun z=>by have:=congrArg (List.count z) hp;simpa [List.count_append] using this
        refine Mv.trans ((mv_set A a u).frame (R:=i::(psL++(qa++(b::qb++psR)))) (R1':=i::(psL++(a::qa++(b::qb++psR)))) (fun z=>by simp [List.count_cons,List.count_append]<;>omega) (fun z=>by simp [List.count_cons,List.count_append]<;>omega)) ?_
        refine Mv.trans ((mv_set _ b v).frame (R:=i::(psL++(a::qa++(qb++psR)))) (R1':=i::(psL++(a::qa++(b::qb++psR)))) (fun z=>by simp [List.count_cons,List.count_append]<;>omega) (fun z=>by simp [List.count_cons,List.count_append]<;>omega)) ?_
        exact (mv_set _ i _).frame (R:=psL++(a::qa++(b::qb++psR))) (fun z=>by simp [List.count_cons,List.count_append]<;>omega) (fun z=>by have:=hpc z;simp [List.count_cons,List.count_append]<;>omega)
      generalize setN (setN (setN A a u) b v) i ⟨ksL++k'::ksR,[],isL++a::b::isR⟩=B at *
      obtain ⟨t1,t2⟩:=hT B.nd nda ndb (fun j hj=>by
        rcases List.mem_append.1 hj with h|h
        · obtain ⟨g1,g2,g3⟩:=da j h;exact ndj j g1 g2 g3
        · obtain ⟨g1,g2,g3⟩:=db j h;exact ndj j g1 g2 g3)
      refine ⟨_,_,psL++(a::p1++(b::p2++psR)),mv,ndi,?_,by simp<;>omega,by simp<;>omega⟩
      have hj:ea++(eb++esR)=e1++(e2++esR):=by rw [<- List.append_assoc,he,List.append_assoc]
      rw [hj]
      refine (hL.mono fun ht hsub=>ht.keep fun j hj=>by obtain ⟨g1,g2,g3⟩:=dL j (hsub j hj);exact ndj j g1 g2 g3).join hks ?_
      refine .cons t1 ⟨hbt.1,fun z hz=>?_⟩ ((hR.mono fun ht hsub=>ht.keep fun j hj=>by obtain ⟨g1,g2,g3⟩:=dR j (hsub j hj);exact ndj j g1 g2 g3).join t2 fun k hk' _ l hl=>by cases hl;exact hbt.2 k hk')
      cases hr:hiR with
      | none =>
        rw [hr] at hR
        cases hR with
        | nil=>cases hz
      | some k2 =>
        rw [hr] at hR hbt
        have h1:=hbt.2 k2 rfl
        cases hR with
        | nil=>cases hz;exact h1
        | cons h2 _=>exact lt_trans h1 (h2 z hz)
    rcases hm with ⟨h1,e,hu,hbn,e1,e2⟩|⟨h1,ks,is,qa',qb',e,hne,e1,e2,hk⟩
    · cases e1;cases e2
      rw [e] at hle hms ⊢
      dsimp only
      rw [leaf_size] at hle hms ⊢
      rw [if_pos rfl]
      obtain ⟨h0,rfl⟩:∃ h0,h=h0+1:=⟨h-1,by omega⟩
      obtain rfl:h0=0:=by omega
      generalize hes:ea++eb=es at *
      generalize hh:(keysE es).length / 2=hf at *
      have hkl:hf<(keysE es).length:=by omega
      have hmid:=mid hkl
      have hget:(keysE es).getD hf []=(keysE es)[hf]:=by simp [List.getD,hkl]
      have hmem:(keysE es).getD hf []∈keysE es:=by rw [hget];simp
      have hu':Up (keysE es):=hu
      rw [hmid] at hu'
      obtain ⟨u1,u2,u3⟩:=List.pairwise_append.1 hu'
      have hk1':keysE (es.take hf)=(keysE es).take hf:=by simp [keysE,List.map_take]
      have hk2':keysE (es.drop hf)=(keysE es).drop hf:=by simp [keysE,List.map_drop]
      have hv1:valsE (es.take hf)=(valsE es).take hf:=by simp [valsE,List.map_take]
      have hv2:valsE (es.drop hf)=(valsE es).drop hf:=by simp [valsE,List.map_drop]
      have hdrop:(keysE es).drop hf=(keysE es).getD hf []::(keysE es).drop (hf+1):=by rw [List.drop_eq_getElem_cons hkl,hget]
      have hkl2:=keysE_length es
      refine two ⟨(keysE es).take hf,(valsE es).take hf,[]⟩ ⟨(keysE es).drop hf,(valsE es).drop hf,[]⟩ ((keysE es).getD hf []) (es.take hf) (es.drop hf) [] [] (fun nd na nb _=>⟨?_,?_⟩) (by rw [List.take_append_drop]) rfl ?_
      · refine ⟨_,na,?_,.inl ⟨rfl,?_,rfl,hk1'.symm,hv1.symm,by show Up (keysE (es.take hf));rw [hk1'];exact u1,fun k hk=>?_,rfl⟩⟩
        · rw [leaf_size];simp;omega
        · rw [leaf_size];simp;omega
        · exact ⟨(hbn k (List.mem_of_mem_take hk)).1,fun u hu2=>by cases hu2;exact u3 k hk _ List.mem_cons_self⟩
      · refine ⟨_,nb,?_,.inl ⟨rfl,?_,rfl,hk2'.symm,hv2.symm,by show Up (keysE (es.drop hf));rw [hk2',hdrop];exact u2,fun k hk=>?_,rfl⟩⟩
        · rw [leaf_size];simp;omega
        · rw [leaf_size];simp;omega
        · refine ⟨fun l hl=>?_,(hbn k (List.mem_of_mem_drop hk)).2⟩
          cases hl
          have hk:k∈(keysE es).drop hf:=hk
          rw [hdrop] at hk
          rcases List.mem_cons.1 hk with rfl|hk
          · exact lt_irrefl _
          · exact lt_asymm ((List.pairwise_cons.1 u2).1 k hk)
      · refine ⟨fun l hl=>?_,fun u hu2=>(hbn _ hmem).2 u hu2⟩
        have h00:(keysE es)[0]'(by omega)∈(keysE es).take hf:=by
          rw [List.mem_take_iff_getElem]
          exact ⟨0,by omega,rfl⟩
        have h3:=u3 _ h00 _ (List.mem_cons_self)
        exact lt_of_nlt_lt ((hbn _ (List.mem_of_mem_take h00)).1 l hl) h3
    · cases e1;cases e2
      rw [e] at hle hms ⊢
      dsimp only
      rw [inner_size _ _ hne] at hle hms ⊢
      rw [if_neg hne]
      obtain ⟨h0,rfl⟩:∃ h0,h=h0+1:=⟨h-1,by omega⟩
      rw [Nat.add_sub_cancel] at hk
      generalize hh:is.length / 2=hf at *
      obtain ⟨k,es1,es2,ps1,ps2,q1,q2,q3,q4,q5,q6⟩:=hk.cut hf (by omega) (by omega)
      have hg:ks.getD (hf-1) []=k:=by simp [List.getD,q1]
      have en1:is.take hf≠[]:=fun e=>by have h1:=congrArg List.length e;rw [List.length_take,List.length_nil] at h1;omega
      have en2:is.drop hf≠[]:=fun e=>by have h1:=congrArg List.length e;rw [List.length_drop,List.length_nil] at h1;omega
      rw [hg,set_app]
      refine two ⟨ks.take (hf-1),[],is.take hf⟩ ⟨ks.drop hf,[],is.drop hf⟩ k es1 es2 ps1 ps2 (fun nd na nb nq=>⟨?_,?_⟩) q5 q6 q2
      · refine ⟨_,na,?_,.inr ⟨by omega,?_,rfl,ps1,rfl,?_⟩⟩
        · rw [inner_size _ _ en1];simp;omega
        · rw [inner_size _ _ en1];simp;omega
        · exact q3.mono fun ht hsub=>ht.keep fun j hj=>nq j (by rw [q6];simp [hsub j hj])
      · refine ⟨_,nb,?_,.inr ⟨by omega,?_,rfl,ps2,rfl,?_⟩⟩
        · rw [inner_size _ _ en2];simp;omega
        · rw [inner_size _ _ en2];simp;omega
        · exact q4.mono fun ht hsub=>ht.keep fun j hj=>nq j (by rw [q6];simp [hsub j hj])
theorem cut_ok:∀ (h:Nat) {A:Ar} {Q:List Nat} {i:Nat} {mn:Nat×Nat} {lo hi:Option Key} {es:Es} {ps:List Nat} {key:Key},Tree A.nd A.fan h mn i lo hi es ps->Acc A Q ps->4<=A.fan->2<=mn.2->Bnd lo hi key->inE key es=true ->
    ∃ ps',Mv A (cutF h A i key) ps ps'/\Tree (cutF h A i key).nd A.fan h (mn.1-1,mn.2-1) i lo hi (delE key es) ps'
  | 0,_,_,_,_,_,_,_,_,_,ht,_,_,_,_,_=>ht.elim
  | h+1,A,Q,i,mn,lo,hi,es,ps,key,⟨n,hn,hsz,hc⟩,hA,hfan,hmn,hb,hin=>by
    have hna:nodeAt A i=n:=by simp [nodeAt,hn]
    rcases hc with ⟨rfl,hmin,hk,hkeys,hvals,hu,hbn,rfl⟩|⟨h0,hmin,hv,ps',rfl,hk⟩
    · have hne:n=⟨keysE es,valsE es,[]⟩:=by cases n;simp_all
      have hh:has (keysE es) key=true:=by rw [<- inE_has];exact hin
      obtain ⟨d1,d2⟩:=del_has hh
      have hl:=delE_len (key:=key) (es:=es)
      rw [hh,if_pos rfl] at hl
      rw [cutF]
      dsimp only
      rw [hna,if_pos hk]
      have e:leafCut n key=⟨keysE (delE key es),valsE (delE key es),[]⟩:=by rw [hne,leafCut,d1,d2]
      rw [e]
      rw [hne,leaf_size,keysE_length] at hsz hmin
      refine ⟨[i],mv_set A i _,⟨_,nd_set A i _ (hA.lt (by simp)),?_,.inl ⟨rfl,?_,rfl,rfl,rfl,delE_up hu,fun k hk'=>?_,rfl⟩⟩⟩
      · rw [leaf_size,keysE_length];omega
      · rw [leaf_size,keysE_length];dsimp only;omega
      · refine hbn k ?_
        rw [hkeys]
        exact (delE_sub.map _).subset hk'
    · have hkl:=hk.len
      have hne:n.kids≠[]:=hk.ne
      have hsz':n.size=n.kids.length:=by simp [Nod.size,hne]
      have hnn:n=⟨n.keys,[],n.kids⟩:=by cases n;simp_all
      obtain ⟨ks1,ks2,is1,is2,i',lo',hi',es1,es2,e,ps1,ps2,p,f1,f2,f3,f4,f5,f6,f7,rfl,rfl,f10,f11,f12,f13,f14⟩:=hk.find Tree.inB hb
      have hkeys:=hk.keys
      have hkid:kid n (bel n.keys key)=i':=by rw [kid,f2,<- f4];simp [List.getD]
      have hA1:Acc A (Q++(i::(ps1++ps2))) p:=hA.perm fun z=>by simp [List.count_cons,List.count_append]<;>omega
      have hin2:inE key e=true:=by unfold inE at hin ⊢;rw [getE_low f11,getE_high f12] at hin;exact hin
      have hdel:delE key (es1++(e++es2))=es1++(delE key e++es2):=by rw [delE_low f11,delE_high f12]
      obtain ⟨p',m,ht⟩:=cut_ok h f6 hA1 hfan (by show 2<=A.fan / 2;omega) f10 hin2
      rw [cutF]
      dsimp only
      rw [hna,if_neg hne,hkid,hdel]
      generalize hq:cutF h A i' key=A' at *
      have hL:Left (Reg A'.nd A.fan h) lo ks1 is1 lo' es1 ps1:=f5.mono fun htr hs=>htr.keep fun j hj=>m.nds hA1 j (by simp [hs j hj])
      have hR:Right (Reg A'.nd A.fan h) hi' hi ks2 is2 es2 ps2:=f7.mono fun htr hs=>htr.keep fun j hj=>m.nds hA1 j (by simp [hs j hj])
      have hks1:∀ k∈ks1,∀ u,hi=some u->lt k u:=fun k hk'=>(hkeys.2 k (by rw [f1];exact List.mem_append_left _ hk')).2
      have hm:Mv A A' (i::(ps1++(p++ps2))) (i::(ps1++(p'++ps2))):=m.frame (R:=i::(ps1++ps2)) (fun z=>by simp [List.count_cons,List.count_append]<;>omega) (fun z=>by simp [List.count_cons,List.count_append]<;>omega)
      obtain ⟨hA2,_⟩:=hm.acc Q hA
      have hni:A'.nd i=some n:=(m.nds hA1 i (by simp)).trans hn
      have hkn:2<=n.kids.length:=by omega
      obtain ⟨x,hx⟩:∃ x,A'.nd i'=some x:=by cases h with|zero=>exact ht.elim|succ h=>obtain ⟨x,h1,_⟩:=ht;exact ⟨x,h1⟩
      have hxn:nodeAt A' i'=x:=by simp [nodeAt,hx]
      rw [hxn,m.fan]
      by_cases hlt:x.size<A.fan / 2
      rotate_left
      · rw [if_neg hlt]
        have ht2:Reg A'.nd A.fan h i' lo' hi' (delE key e) p':=ht.size fun y hy=>by rw [hx] at hy;cases hy;exact ⟨fun _ _=>by dsimp only;omega,fun _ _=>by dsimp only;omega⟩
        refine ⟨_,hm,⟨n,hni,hsz,.inr ⟨h0,by dsimp only;omega,hv,_,rfl,?_⟩⟩⟩
        rw [f1,f2]
        exact hL.join hks1 (hR.join ht2 f14)
      rw [if_pos hlt]
      have hxsz:A.fan / 2-1<=x.size:=by
        cases h with
        | zero=>exact ht.elim
        | succ h =>
          obtain ⟨y,h1,h2,h4⟩:=ht
          rw [hx] at h1;cases h1
          rcases h4 with ⟨_,h3,_⟩|⟨_,h3,_⟩<;>exact h3
      have regsz:∀ {j:Nat} {l u:Option Key} {ee:Es} {pp:List Nat} {y:Nod},Reg A'.nd A.fan h j l u ee pp->A'.nd j=some y->A.fan / 2<=y.size:=by
        intro j l u ee pp y hr hy
        cases h with
        | zero=>exact hr.elim
        | succ h =>
          obtain ⟨z,h1,h2,h4⟩:=hr
          rw [hy] at h1;cases h1
          rcases h4 with ⟨_,h3,_⟩|⟨_,h3,_⟩<;>exact h3
      have fin:∀ {k':Nat},(∃ ks is pp,Mv A' (evenF A' i k') (i::(ps1++(p'++ps2))) (i::pp)/\(evenF A' i k').nd i=some ⟨ks,[],is⟩/\Kids (Reg (evenF A' i k').nd A'.fan h) lo hi ks is (es1++(delE key e++es2)) pp/\is.length<=n.kids.length/\n.kids.length-1<=is.length) ->
          ∃ ps',Mv A (evenF A' i k') (i::(ps1++(p++ps2))) ps'/\Tree (evenF A' i k').nd A.fan (h+1) (mn.1-1,mn.2-1) i lo hi (es1++(delE key e++es2)) ps':=by
        rintro k' ⟨ks,is,pp,g1,g2,g3,g4,g5⟩
        rw [m.fan] at g3
        refine ⟨_,hm.trans g1,⟨_,g2,?_,.inr ⟨h0,?_,rfl,pp,rfl,g3⟩⟩⟩
        · rw [inner_size _ _ g3.ne];omega
        · rw [inner_size _ _ g3.ne];dsimp only;omega
      by_cases hz:is1=[]
      · subst hz
        have hk0:bel n.keys key=0:=by simpa using f4.symm
        cases f5
        have hne2:is2≠[]:=by intro e;rw [f2,e] at hkn;simp at hkn
        obtain ⟨s,ksR,b,isR,hiR,eb,esR,pb,psR,g1,g2,g3,g4,g5,g6,g7,g8⟩:=hR.uncons hne2
        subst g1;subst g2;subst g3;subst g6;subst g7
        have hlo:∀ l,lo=some l->lt l s:=fun l hl=>f14 s rfl (by simp) l hl
        rw [hk0]
        have hEq:n=⟨[]++s::ksR,[],[]++i'::b::isR⟩:=by rw [hnn,f1,f2]
        have:=even_ok (A:=A') (Q:=Q) (h:=h) (i:=i) (a:=i') (b:=b) (ksL:=[]) (isL:=[]) (psL:=[]) (esL:=[]) (mn:=(A.fan / 2-1,A.fan / 2-1)) (by rw [hni,hEq]) rfl (by simpa using hA2) (by rw [m.fan];exact hfan) .nil (by rw [m.fan];exact g5) (by rw [m.fan];exact ht) (by rw [m.fan];exact g4.weak (by dsimp only;omega) (by dsimp only;omega)) hlo g8 (by simp) (fun k hk' hne3 l hl=>lt_trans (hlo l hl) (g8 k hk')) (fun x' y' hx' hy'=>by
          rw [hx] at hx';cases hx'
          have:=regsz g4 hy'
          rw [m.fan];omega)
        obtain ⟨ks,is,pp,q1,q2,q3,q4,q5⟩:=this
        refine fin (k':=max 0 1-1) ⟨ks,is,pp,by simpa using q1,q2,by simpa using q3,?_,?_⟩
        · rw [f2];simp at q4 ⊢;omega
        · rw [f2];simp at q5 ⊢;omega
      · obtain ⟨ksL,isL,loL,esL,psL,s,a,ea,pa,g1,g2,g3,g4,g5,g6,g7,g8,g9⟩:=hL.unsnoc hz
        subst g1;subst g2;subst g3;subst g6;subst g7
        have hkk:max (bel n.keys key) 1-1=ksL.length:=by rw [<- f4];simp;omega
        rw [hkk]
        have hsh:∀ u,hi'=some u->lt s u:=by
          intro u hu
          cases hks2:ks2 with
          | nil =>
            rw [hks2] at f7
            cases f7 with
            | nil=>exact hks1 s (by simp) u hu
          | cons y ks2'=>exact f14 u hu (by rw [hks2];simp) s rfl
        have hEq:n=⟨ksL++s::ks2,[],isL++a::i'::is2⟩:=by rw [hnn,f1,f2];simp
        have:=even_ok (A:=A') (Q:=Q) (h:=h) (i:=i) (a:=a) (b:=i') (ksL:=ksL) (isL:=isL) (psL:=psL) (esL:=esL) (mn:=(A.fan / 2-1,A.fan / 2-1)) (by rw [hni,hEq]) g9 (by simpa using hA2) (by rw [m.fan];exact hfan) (by rw [m.fan];exact g4) (by rw [m.fan];exact hR) (by rw [m.fan];exact g5.weak (by dsimp only;omega) (by dsimp only;omega)) (by rw [m.fan];exact ht) g8 hsh (fun k hk'=>hks1 k (by simp [hk'])) (fun k hk' hne3 l hl=>lt_trans (g8 l hl) (hsh k hk')) (fun x' y' hx' hy'=>by
          rw [hx] at hy';cases hy'
          have:=regsz g5 hx'
          rw [m.fan];omega)
        obtain ⟨ks,is,pp,q1,q2,q3,q4,q5⟩:=this
        refine fin (k':=ksL.length) ⟨ks,is,pp,by simpa using q1,q2,by simpa using q3,?_,?_⟩
        · rw [f2];simp at q4 ⊢;omega
        · rw [f2];simp at q5 ⊢;omega
end T4
