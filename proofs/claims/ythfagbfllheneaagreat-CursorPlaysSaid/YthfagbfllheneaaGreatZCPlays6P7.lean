/- Part 7 of the texts of this claim: the engine, contracts, plain laws. -/
import Derived.Test.YthfagbfllheneaaGreatProg
import Derived.Test.YthfagbfllheneaaGreatZCPlays6P1
import Derived.Test.YthfagbfllheneaaGreatZCPlays6P6
import Derived.Test.YthfagbfllheneaaGreatZCPlays6P5
import Derived.Test.YthfagbfllheneaaGreatZCPlays6P2
set_option linter.unusedVariables false
set_option maxRecDepth 100000
namespace Go.Proofs.YthfagbfllheneaaGreat
open Go Go.Sx Value IntKind World Addr Builtin
noncomputable def cardindexlaw06_CursorPlays.W:Option Addr->Nat->Nat->Option Addr->Nat->Nat->World->(Value->World->Prop)->Prop:=fun keys_A keys_n keys_c ops_A ops_n ops_c w K=>CallsV
 Tryz.prog 19 #[int i64 4,int i64 65536] w fun v w'=>∃ x x_1,v=tuple #[pointer x,int i64 x_1]/\bif !decide (x_1=0) then K (bool false) w' else ∀ g w'_1,Fresh w' g w'_1 [slice
 none 0 0,int i64 0,slice none 0 0] 55->∃ (I:Int->World->Prop) (μ:Int->World->Nat),I 0 w'_1/\∀ x_2 w,I x_2 w->bif decide (x_2<2) then CallsV Tryz.prog 20
 #[pointer x] w fun v w'=>∃ x x_3,v=tuple #[int i64 x,int i64 x_3]/\∃ x x_4 x_5,cell? w' (add (add (mk g 0 none) 0) 0)=some (slice x x_4 x_5)/\∃ x_6,cell? w' (add (add (mk g 0
 none) 0) 1)=some (int i64 x_6)/\CallsV Tryz.prog 21 #[agg #[slice x x_4 x_5,int i64 x_6]] w' fun v w'=>∃ x x_7 x_8 x_9,v=agg #[slice x x_7 x_8,int i64 x_9]/\stOK (add (mk g 0
 none) 0) 0 [slice x x_7 x_8,int i64 x_9] w'/\∀ w'_2,w'_2=setAll (add (mk g 0 none) 0) 0 [slice x x_7 x_8,int i64 x_9] w'->I (wrap i64 (x_2+1)) w'_2/\μ (wrap i64 (x_2+1)) w'_2
 < μ x_2 w else ∃ (J:World->Prop),(∀ w,J w->∀ g_1 w',Fresh w g_1 w' [pointer none,pointer none,pointer none] 61->∀ g_2 w'_2,Fresh w' g_2 w'_2 [int i64 0,slice
 none 0 0,bool false,int i64 0,slice none 0 0,bool false,int i64 0,slice none 0 0,bool false] 64->∃ (I:Int->World->Prop) (μ:Int->World->Nat),I 0 w'_2
 /\ ∀ x_3 w,I x_3 w->bif decide (x_3<3) then (2: Int)≠0/\CallsV Tryz.prog 14 #[pointer x,int i64 (wrap i64 (1+wrap i64 (Int.tdiv x_3 2)))] w fun v w'=>∃ x x_4,v=tuple #[pointer
 x,int i64 x_4]/\bif !decide (x_4=0) then K (bool false) w' else (2: Int)≠0/\(0<=x_3/\x_3<(↑3:Int))/\stOK (add (mk g_1 0 none) (Int.toNat x_3*1)) 0 [pointer x] w' /\
 ∀ w'_3,w'_3=setAll (add (mk g_1 0 none) (Int.toNat x_3*1)) 0 [pointer x] w'->(0<=x_3/\x_3<(↑3:Int))/\stOK (add (mk g_2 0 none) (Int.toNat x_3*3)) 0 [int i64 (wrap i64 (1 +
 wrap i64 (Int.tdiv x_3 2))),slice none 0 0,bool false] w'_3/\∀ w',w'=setAll (add (mk g_2 0 none) (Int.toNat x_3*3)) 0 [int i64 (wrap i64 (1+wrap i64 (Int.tdiv x_3 2))),
 slice none 0 0,bool false] w'_3->I (wrap i64 (x_3+1)) w'/\μ (wrap i64 (x_3+1)) w'<μ x_3 w else ∃ (I:Int->World->Prop) (μ:Int->World->Nat),I 0 w/\∀ x_4 w,I x_4 w->bif
 decide (x_4<(ops_n:Int)) then bif decide (x_4<80) then ∃ (J:World->Prop),(∀ w_1,J w_1->I (wrap i64 (x_4+1)) w_1/\μ (wrap i64 (x_4+1)) w_1<μ x_4 w)/\∃ ad,ops_A =
 some ad/\(0<=x_4/\x_4<(ops_n:Int))/\∃ x_5,cell? w (add (add ad (Int.toNat x_4*6)) 0)=some (int i64 x_5)/\∃ x_6,cell? w (add (add ad (Int.toNat x_4*6)) 1)=some
 (int i64 x_6)/\∃ x_7,cell? w (add (add ad (Int.toNat x_4*6)) 2)=some (int i64 x_7)/\∃ x_8,cell? w (add (add ad (Int.toNat x_4*6)) 3)=some (int u8 x_8)/\∃ x_9 x_10 x_11,cell?
 w (add (add ad (Int.toNat x_4*6)) 4)=some (slice x_9 x_10 x_11)/\∃ x_12 x_13 x_14,cell? w (add (add ad (Int.toNat x_4*6)) 5)=some (slice x_12 x_13 x_14)/\∀ g_3 w',Fresh w g_3
 w' [int i64 0,int i64 0,int i64 0,int u8 0,slice none 0 0,slice none 0 0] 66->stOK (mk g_3 0 none) 0 [int i64 x_5,int i64 x_6,int i64 x_7,int u8 x_8,slice x_9 x_10 x_11,
 slice x_12 x_13 x_14] w'/\∀ w'_3,w'_3=setAll (mk g_3 0 none) 0 [int i64 x_5,int i64 x_6,int i64 x_7,int u8 x_8,slice x_9 x_10 x_11,slice x_12 x_13 x_14] w'->∃ x_15 x_16 x_17,cell?
 w'_3 (add (mk g_3 0 none) 4)=some (slice x_15 x_16 x_17)/\bif decide (100<(x_16:Int)) then J w'_3 else ∃ x_18 x_19 x_20,cell? w'_3 (add (mk g_3 0 none) 5) =
 some (slice x_18 x_19 x_20)/\bif decide (100<(x_19:Int)) then J w'_3 else ∃ x_21,cell? w'_3 (add (mk g_3 0 none) 1)=some (int i64 x_21)/\CallsV Tryz.prog 24
 #[int i64 x_21,int i64 3] w'_3 fun v w'=>∃ x_22,v=int i64 x_22/\∃ (S:World->Prop),S (drew w')/\∃ x_23 x_24 x_25,(∀ u,S u->cell? u (add (add (mk g 0 none) 0) 0)=some
 (slice x_23 x_24 x_25))/\∃ x_26,(∀ u,S u->cell? u (add (add (mk g 0 none) 0) 1)=some (int i64 x_26))/\(0<=x_22/\x_22<(↑3:Int))/\∃ x_27,(∀ u,S u->cell? u (add (add (mk g_2
 0 none) (Int.toNat x_22*3)) 0)=some (int i64 x_27))/\CallsV Tryz.prog 25 #[agg #[slice x_23 x_24 x_25,int i64 x_26],int i64 x_27] (drew w') fun v w'=>∃ x_28,v=int i64 x_28/\∃
 (J_1:Int->Int->Bool->Bool->World->Prop),(∀ x x_29 x_30 x_31 w,J_1 x x_29 x_30 x_31 w->bif !decide (x=x_29) then K (bool false) w else bif !decide (x_30=x_31) then
 K (bool false) w else ∃ (I:Int->World->Prop) (μ:Int->World->Nat),I 0 w/\∀ x w,I x w->bif decide (x<3) then (0<=x/\x<(↑3:Int))/\∃ (S:World->Prop),S (drew w)/\∃
 x_32,(∀ u,S u->cell? u (add (add (mk g_2 0 none) (Int.toNat x*3)) 0)=some (int i64 x_32))/\∃ x_33 x_34 x_35,(∀ u,S u->cell? u (add (add (mk g_2 0 none) (Int.toNat x *
 3)) 1)=some (slice x_33 x_34 x_35))/\∃ x_36,(∀ u,S u->cell? u (add (add (mk g_2 0 none) (Int.toNat x*3)) 2)=some (bool x_36))/\∃ x_37 x_38 x_39,(∀ u,S u->cell? u (add
 (add (mk g 0 none) 0) 0)=some (slice x_37 x_38 x_39))/\∃ x_40,(∀ u,S u->cell? u (add (add (mk g 0 none) 0) 1)=some (int i64 x_40))/\(CallsV Tryz.prog 28 #[agg #[int
 i64 x_32,slice x_33 x_34 x_35,bool x_36],agg #[slice x_37 x_38 x_39,int i64 x_40]] (drew w) fun v w'=>∃ x_41 x_42 x_43 x_44 x_45 x_46 x_47,v=tuple #[agg #[slice x_41 x_42 x_43,slice x_44 x_45
 x_46],bool x_47]/\∀ g w'_4,Fresh w' g w'_4 [slice none 0 0,slice none 0 0] 73->stOK (mk g 0 none) 0 [slice x_41 x_42 x_43,slice x_44 x_45 x_46] w'_4/\∀ w',w'=setAll (mk g
 0 none) 0 [slice x_41 x_42 x_43,slice x_44 x_45 x_46] w'_4->(0<=x/\x<(↑3:Int))/\∃ (S:World->Prop),S (drew w')/\∃ x_48,(∀ u,S u->cell? u (add (mk g_1 0 none) (Int.toNat x
 * 1))=some (pointer x_48))/\CallsV Tryz.prog 17 #[pointer x_48] (drew w') fun v w'=>∃ x_49,v=bool x_49/\bif !decide (x_49=x_47) then K (bool false) w' else (0<=x/\x <
 (↑3:Int))/\∃ (S:World->Prop),S w'/\∃ x_50,(∀ u,S u->cell? u (add (mk g_1 0 none) (Int.toNat x*1))=some (pointer x_50))/\∃ x_51 x_52 x_53,(∀ u,S u->cell? u (add (mk g 0
 none) 0)=some (slice x_51 x_52 x_53))/\CallsV Tryz.prog 38 #[pointer x_50] w' fun v w'=>∃ x_54 x_55 x_56,v=slice x_54 x_55 x_56/\S w'/\CallsV Tryz.prog 37 #[slice x_54 x_55
 x_56,slice x_51 x_52 x_53] w' fun v w'=>∃ x_57,v=bool x_57/\bif !x_57 then K (bool false) w' else (0<=x/\x<(↑3:Int))/\∃ (S:World->Prop),S w'/\∃ x_58,(∀ u,S u->cell? u (add
 (mk g_1 0 none) (Int.toNat x*1))=some (pointer x_58))/\∃ x_59 x_60 x_61,(∀ u,S u->cell? u (add (mk g 0 none) 1)=some (slice x_59 x_60 x_61))/\CallsV Tryz.prog 39
 #[pointer x_58] w' fun v w'=>∃ x_62 x_63 x_64,v=slice x_62 x_63 x_64/\S w'/\CallsV Tryz.prog 37 #[slice x_62 x_63 x_64,slice x_59 x_60 x_61] w' fun v w'=>∃ x_65,v=bool x_65/\bif !x_65
 then K (bool false) w' else I (wrap i64 (x+1)) w'/\μ (wrap i64 (x+1)) w'<μ x w)/\∀ g w',Fresh (drew w) g w' [slice none 0 0,slice none 0 0] 73->S w'/\CallsV Tryz.prog 28
 #[agg #[int i64 x_32,slice x_33 x_34 x_35,bool x_36],agg #[slice x_37 x_38 x_39,int i64 x_40]] w' fun v w'=>∃ x_41 x_42 x_43 x_44 x_45 x_46 x_47,v=tuple #[agg #[slice x_41 x_42 x_43,slice
 x_44 x_45 x_46],bool x_47]/\stOK (mk g 0 none) 0 [slice x_41 x_42 x_43,slice x_44 x_45 x_46] w'/\∀ w'_4,w'_4=setAll (mk g 0 none) 0 [slice x_41 x_42 x_43,slice x_44 x_45 x_46] w'
 -> (0<=x/\x<(↑3:Int))/\∃ (S:World->Prop),S (drew w'_4)/\∃ x_48,(∀ u,S u->cell? u (add (mk g_1 0 none) (Int.toNat x*1))=some (pointer x_48))/\CallsV Tryz.prog 17
 #[pointer x_48] (drew w'_4) fun v w'=>∃ x_49,v=bool x_49/\bif !decide (x_49=x_47) then K (bool false) w' else (0<=x/\x<(↑3:Int))/\∃ (S:World->Prop),S w'/\∃ x_50,(∀
 u,S u->cell? u (add (mk g_1 0 none) (Int.toNat x*1))=some (pointer x_50))/\∃ x_51 x_52 x_53,(∀ u,S u->cell? u (add (mk g 0 none) 0)=some (slice x_51 x_52 x_53))
 /\ CallsV Tryz.prog 38 #[pointer x_50] w' fun v w'=>∃ x_54 x_55 x_56,v=slice x_54 x_55 x_56/\S w'/\CallsV Tryz.prog 37 #[slice x_54 x_55 x_56,slice x_51 x_52 x_53] w' fun v w'=>∃ x_57,v =
 bool x_57/\bif !x_57 then K (bool false) w' else (0<=x/\x<(↑3:Int))/\∃ (S:World->Prop),S w'/\∃ x_58,(∀ u,S u->cell? u (add (mk g_1 0 none) (Int.toNat x*1))=some
 (pointer x_58))/\∃ x_59 x_60 x_61,(∀ u,S u->cell? u (add (mk g 0 none) 1)=some (slice x_59 x_60 x_61))/\CallsV Tryz.prog 39 #[pointer x_58] w' fun v w'=>∃ x_62 x_63 x_64,v =
 slice x_62 x_63 x_64/\S w'/\CallsV Tryz.prog 37 #[slice x_62 x_63 x_64,slice x_59 x_60 x_61] w' fun v w'=>∃ x_65,v=bool x_65/\bif !x_65 then K (bool false) w' else I (wrap i64 (x+1)) w'
 /\ μ (wrap i64 (x+1)) w'<μ x w else J w)/\∃ x_29,cell? w' (add (mk g_3 0 none) 0)=some (int i64 x_29)/\∃ (J:Bool->World->Prop),(∀ x_30 w,J x_30 w->bif x_30 then (0<=x_22 /\
 x_22<(↑3:Int))/\∃ (S:World->Prop),S (drew w)/\∃ x,(∀ u,S u->cell? u (add (mk g_1 0 none) (Int.toNat x_22*1))=some (pointer x))/\∃ x_31 x_32 x_33,(∀ u,S u->cell? u
 (add (mk g_3 0 none) 4)=some (slice x_31 x_32 x_33))/\∃ x_34 x_35 x_36,(∀ u,S u->cell? u (add (mk g_3 0 none) 5)=some (slice x_34 x_35 x_36))/\CallsV Tryz.prog 16
 #[pointer x,slice x_31 x_32 x_33,slice x_34 x_35 x_36] (drew w) fun v w'=>∃ x x_37,v=tuple #[bool x,int i64 x_37]/\bif decide (x_28<0) then J_1 x_37 41 x false w' else ∃ x_38
 x_39 x_40,cell? w' (add (add (mk g 0 none) 0) 0)=some (slice x_38 x_39 x_40)/\∃ x_41,cell? w' (add (add (mk g 0 none) 0) 1)=some (int i64 x_41)/\∃ x_42 x_43 x_44,
 cell? w' (add (mk g_3 0 none) 4)=some (slice x_42 x_43 x_44)/\CallsV Tryz.prog 26 #[agg #[slice x_38 x_39 x_40,int i64 x_41],int i64 x_28,slice x_42 x_43 x_44] w' fun v w'=>∃ x_45
 x_46,v=tuple #[int i64 x_45,bool x_46]/\∃ x_47 x_48 x_49,cell? w' (add (add (mk g 0 none) 0) 0)=some (slice x_47 x_48 x_49)/\∃ x_50,cell? w' (add (add (mk g 0 none) 0) 1)
 = some (int i64 x_50)/\∃ x_51 x_52 x_53,cell? w' (add (mk g_3 0 none) 4)=some (slice x_51 x_52 x_53)/\∃ x_54 x_55 x_56,cell? w' (add (mk g_3 0 none) 5)=some
 (slice x_54 x_55 x_56)/\CallsV Tryz.prog 23 #[agg #[slice x_47 x_48 x_49,int i64 x_50],int i64 x_28,slice x_51 x_52 x_53,slice x_54 x_55 x_56] w' fun v w'=>∃ x_57 x_58 x_59 x_60,v=agg #[slice
 x_57 x_58 x_59,int i64 x_60]/\stOK (add (mk g 0 none) 0) 0 [slice x_57 x_58 x_59,int i64 x_60] w'/\∀ w'_4,w'_4=setAll (add (mk g 0 none) 0) 0 [slice x_57 x_58 x_59,int i64 x_60]
 w'->∃ x_61 x_62 x_63,cell? w'_4 (add (mk g_3 0 none) 4)=some (slice x_61 x_62 x_63)/\CallsV Tryz.prog 27 #[slice x_61 x_62 x_63] w'_4 fun v w'=>∃ x_64 x_65 x_66,v=slice x_64
 x_65 x_66/\(0<=x_22/\x_22<(↑3:Int))/\stOK (add (add (mk g_2 0 none) (Int.toNat x_22*3)) 1) 0 [slice x_64 x_65 x_66] w'/\∀ w'_5,w'_5=setAll (add (add (mk g_2 0 none)
 (Int.toNat x_22*3)) 1) 0 [slice x_64 x_65 x_66] w'->(0<=x_22/\x_22<(↑3:Int))/\stOK (add (add (mk g_2 0 none) (Int.toNat x_22*3)) 2) 0 [bool true] w'_5/\∀ w',w'=setAll (add
 (add (mk g_2 0 none) (Int.toNat x_22*3)) 2) 0 [bool true] w'_5->J_1 x_37 0 x x_46 w' else bif decide (x_29=11) then (0<=x_22/\x_22<(↑3:Int))/\∃ x,cell? w (add (mk g_1
 0 none) (Int.toNat x_22*1))=some (pointer x)/\CallsV Tryz.prog 11 #[pointer x] w fun v w'=>∃ x,v=int i64 x/\(0<=x_22/\x_22<(↑3:Int))/\∃ (S:World->Prop),S (drew w') /\
 ∃ x_31,(∀ u,S u->cell? u (add (add (mk g_2 0 none) (Int.toNat x_22*3)) 0)=some (int i64 x_31))/\∃ x_32 x_33 x_34,(∀ u,S u->cell? u (add (add (mk g_2 0 none) (Int.toNat
 x_22*3)) 1)=some (slice x_32 x_33 x_34))/\∃ x_35,(∀ u,S u->cell? u (add (add (mk g_2 0 none) (Int.toNat x_22*3)) 2)=some (bool x_35))/\∃ x_36 x_37 x_38,(∀ u,S u ->
 cell? u (add (add (mk g 0 none) 0) 0)=some (slice x_36 x_37 x_38))/\∃ x_39,(∀ u,S u->cell? u (add (add (mk g 0 none) 0) 1)=some (int i64 x_39))/\(CallsV Tryz.prog
 28 #[agg #[int i64 x_31,slice x_32 x_33 x_34,bool x_35],agg #[slice x_36 x_37 x_38,int i64 x_39]] (drew w') fun v w'=>∃ x_40 x_41 x_42 x_43 x_44 x_45 x_46,v=tuple #[agg #[slice x_40 x_41 x_42,
 slice x_43 x_44 x_45],bool x_46]/\∀ g_4 w'_4,Fresh w' g_4 w'_4 [slice none 0 0,slice none 0 0] 73->stOK (mk g_4 0 none) 0 [slice x_40 x_41 x_42,slice x_43 x_44 x_45] w'_4/\∀
 w',w'=setAll (mk g_4 0 none) 0 [slice x_40 x_41 x_42,slice x_43 x_44 x_45] w'_4->bif decide (x_28<0) then J_1 x 41 false false w' else bif !x_46 then J_1 x 70
 false false w' else ∃ x_47 x_48 x_49,cell? w' (add (add (mk g 0 none) 0) 0)=some (slice x_47 x_48 x_49)/\∃ x_50,cell? w' (add (add (mk g 0 none) 0) 1)=some
 (int i64 x_50)/\∃ x_51 x_52 x_53,cell? w' (add (mk g_4 0 none) 0)=some (slice x_51 x_52 x_53)/\CallsV Tryz.prog 29 #[agg #[slice x_47 x_48 x_49,int i64 x_50],int i64 x_28,slice
 x_51 x_52 x_53] w' fun v w'=>∃ x_54 x_55 x_56 x_57,v=agg #[slice x_54 x_55 x_56,int i64 x_57]/\stOK (add (mk g 0 none) 0) 0 [slice x_54 x_55 x_56,int i64 x_57] w'/\∀ w'_5,w'_5=setAll
 (add (mk g 0 none) 0) 0 [slice x_54 x_55 x_56,int i64 x_57] w'->J_1 x 0 false false w'_5)/\∀ g_4 w'_4,Fresh (drew w') g_4 w'_4 [slice none 0 0,slice none 0 0] 73->S
 w'_4/\CallsV Tryz.prog 28 #[agg #[int i64 x_31,slice x_32 x_33 x_34,bool x_35],agg #[slice x_36 x_37 x_38,int i64 x_39]] w'_4 fun v w'=>∃ x_40 x_41 x_42 x_43 x_44 x_45 x_46,v=tuple #[agg
 #[slice x_40 x_41 x_42,slice x_43 x_44 x_45],bool x_46]/\stOK (mk g_4 0 none) 0 [slice x_40 x_41 x_42,slice x_43 x_44 x_45] w'/\∀ w'_5,w'_5=setAll (mk g_4 0 none) 0 [slice x_40
 x_41 x_42,slice x_43 x_44 x_45] w'->bif decide (x_28<0) then J_1 x 41 false false w'_5 else bif !x_46 then J_1 x 70 false false w'_5 else ∃ x_47 x_48 x_49,cell? w'_5
 (add (add (mk g 0 none) 0) 0)=some (slice x_47 x_48 x_49)/\∃ x_50,cell? w'_5 (add (add (mk g 0 none) 0) 1)=some (int i64 x_50)/\∃ x_51 x_52 x_53,cell? w'_5 (add (mk
 g_4 0 none) 0)=some (slice x_51 x_52 x_53)/\CallsV Tryz.prog 29 #[agg #[slice x_47 x_48 x_49,int i64 x_50],int i64 x_28,slice x_51 x_52 x_53] w'_5 fun v w'=>∃ x_54 x_55 x_56 x_57,
 v=agg #[slice x_54 x_55 x_56,int i64 x_57]/\stOK (add (mk g 0 none) 0) 0 [slice x_54 x_55 x_56,int i64 x_57] w'/\∀ w'_6,w'_6=setAll (add (mk g 0 none) 0) 0 [slice x_54 x_55 x_56,
 int i64 x_57] w'->J_1 x 0 false false w'_6 else ∃ (J:Bool->World->Prop),(∀ x_31 w,J x_31 w->bif x_31 then ∃ x_32 x_33 x_34,cell? w (add (mk g_3 0 none) 4)=some (slice
 x_32 x_33 x_34)/\∃ x_35 x_36 x_37,cell? w (add (mk g_3 0 none) 5)=some (slice x_35 x_36 x_37)/\CallsV Tryz.prog 22 #[pointer x,int i64 1,slice x_32 x_33 x_34,slice x_35 x_36 x_37]
 w fun v w'=>∃ x x_38,v=tuple #[bool x,int i64 x_38]/\∃ (S:World->Prop),S (drew w')/\∃ x x_39 x_40,(∀ u,S u->cell? u (add (add (mk g 0 none) 0) 0)=some (slice x x_39
 x_40))/\∃ x_41,(∀ u,S u->cell? u (add (add (mk g 0 none) 0) 1)=some (int i64 x_41))/\∃ x_42 x_43 x_44,(∀ u,S u->cell? u (add (add (mk g 0 none) 0) 0)=some (slice
 x_42 x_43 x_44))/\∃ x_45,(∀ u,S u->cell? u (add (add (mk g 0 none) 0) 1)=some (int i64 x_45))/\∃ x_46 x_47 x_48,(∀ u,S u->cell? u (add (mk g_3 0 none) 4)=some
 (slice x_46 x_47 x_48))/\∃ x_49 x_50 x_51,(∀ u,S u->cell? u (add (mk g_3 0 none) 5)=some (slice x_49 x_50 x_51))/\CallsV Tryz.prog 25 #[agg #[slice x_42 x_43 x_44,int i64 x_45],
 int i64 1] (drew w') fun v w'=>∃ x_52,v=int i64 x_52/\S w'/\CallsV Tryz.prog 23 #[agg #[slice x x_39 x_40,int i64 x_41],int i64 x_52,slice x_46 x_47 x_48,slice x_49 x_50 x_51] w' fun v w' =>
 ∃ x x_53 x_54 x_55,v=agg #[slice x x_53 x_54,int i64 x_55]/\stOK (add (mk g 0 none) 0) 0 [slice x x_53 x_54,int i64 x_55] w'/\∀ w'_4,w'_4=setAll (add (mk g 0 none) 0) 0 [slice x
 x_53 x_54,int i64 x_55] w'->J_1 0 0 false false w'_4 else bif decide (x_29=14) then ∃ x_32 x_33 x_34,cell? w (add (mk g_3 0 none) 4)=some (slice x_32 x_33 x_34)
 /\ CallsV Tryz.prog 30 #[pointer x,int i64 1,slice x_32 x_33 x_34] w fun v w'=>∃ x x_35,v=tuple #[bool x,int i64 x_35]/\∃ (S:World->Prop),S (drew w')/\∃ x x_36 x_37,(∀ u,S u->cell? u
 (add (add (mk g 0 none) 0) 0)=some (slice x x_36 x_37))/\∃ x_38,(∀ u,S u->cell? u (add (add (mk g 0 none) 0) 1)=some (int i64 x_38))/\∃ x_39 x_40 x_41,(∀ u,S u ->
 cell? u (add (add (mk g 0 none) 0) 0)=some (slice x_39 x_40 x_41))/\∃ x_42,(∀ u,S u->cell? u (add (add (mk g 0 none) 0) 1)=some (int i64 x_42))/\∃ x_43 x_44 x_45,
 (∀ u,S u->cell? u (add (mk g_3 0 none) 4)=some (slice x_43 x_44 x_45))/\CallsV Tryz.prog 25 #[agg #[slice x_39 x_40 x_41,int i64 x_42],int i64 1] (drew w') fun v w'=>∃ x_46,v =
 int i64 x_46/\S w'/\CallsV Tryz.prog 29 #[agg #[slice x x_36 x_37,int i64 x_38],int i64 x_46,slice x_43 x_44 x_45] w' fun v w'=>∃ x x_47 x_48 x_49,v=agg #[slice x x_47 x_48,int i64 x_49] /\
 stOK (add (mk g 0 none) 0) 0 [slice x x_47 x_48,int i64 x_49] w'/\∀ w'_4,w'_4=setAll (add (mk g 0 none) 0) 0 [slice x x_47 x_48,int i64 x_49] w'->J_1 0 0 false false w'_4
 else bif decide (x_29=15) then CallsV Tryz.prog 31 #[pointer x] w fun v w'=>∃ x x_32,v=tuple #[int i64 x,int i64 x_32]/\∃ x x_33 x_34,cell? w' (add (mk g 0 none) 0) =
 some (slice x x_33 x_34)/\∃ x_35,cell? w' (add (mk g 0 none) 1)=some (int i64 x_35)/\∃ x_36 x_37 x_38,cell? w' (add (mk g 0 none) 2)=some (slice x_36 x_37
 x_38)/\CallsV Tryz.prog 32 #[agg #[slice x x_33 x_34,int i64 x_35,slice x_36 x_37 x_38]] w' fun v w'=>∃ x x_39 x_40 x_41 x_42 x_43 x_44 x_45 x_46,v=tuple #[agg #[slice x x_39 x_40,int i64
 x_41,slice x_42 x_43 x_44],int i64 x_45,int i64 x_46]/\stOK (mk g 0 none) 0 [slice x x_39 x_40,int i64 x_41,slice x_42 x_43 x_44] w'/\∀ w'_4,w'_4=setAll (mk g 0 none) 0 [slice x
 x_39 x_40,int i64 x_41,slice x_42 x_43 x_44] w'->J_1 0 0 false false w'_4 else bif decide (x_29=16) then ∃ x_32,cell? w (add (mk g_3 0 none) 2)=some (int i64
 x_32)/\CallsV Tryz.prog 33 #[pointer x,int i64 x_32] w fun v w'=>∃ x,v=int i64 x/\∃ x_33 x_34 x_35,cell? w' (add (mk g 0 none) 0)=some (slice x_33 x_34 x_35)/\∃ x_36,cell? w'
 (add (mk g 0 none) 1)=some (int i64 x_36)/\∃ x_37 x_38 x_39,cell? w' (add (mk g 0 none) 2)=some (slice x_37 x_38 x_39)/\∃ x_40,cell? w' (add (mk g_3 0 none)
 2)=some (int i64 x_40)/\CallsV Tryz.prog 34 #[agg #[slice x_33 x_34 x_35,int i64 x_36,slice x_37 x_38 x_39],int i64 x_40] w' fun v w'=>∃ x_41 x_42 x_43 x_44 x_45 x_46 x_47 x_48,v =
 tuple #[agg #[slice x_41 x_42 x_43,int i64 x_44,slice x_45 x_46 x_47],int i64 x_48]/\stOK (mk g 0 none) 0 [slice x_41 x_42 x_43,int i64 x_44,slice x_45 x_46 x_47] w'/\∀ w'_4,w'_4 =
 setAll (mk g 0 none) 0 [slice x_41 x_42 x_43,int i64 x_44,slice x_45 x_46 x_47] w'->J_1 x x_48 false false w'_4 else bif decide (x_29=17) then CallsV Tryz.prog 15
 #[pointer x,int i64 2] w fun v w'=>∃ x,v=int i64 x/\∃ x x_32 x_33,cell? w' (add (add (mk g 0 none) 0) 0)=some (slice x x_32 x_33)/\∃ x_34,cell? w' (add (add (mk g 0
 none) 0) 1)=some (int i64 x_34)/\CallsV Tryz.prog 25 #[agg #[slice x x_32 x_33,int i64 x_34],int i64 2] w' fun v w'=>∃ x,v=int i64 x/\bif decide (0<=x) then ∃ x_35
 x_36 x_37,cell? w' (add (add (mk g 0 none) 0) 0)=some (slice x_35 x_36 x_37)/\∃ x_38,cell? w' (add (add (mk g 0 none) 0) 1)=some (int i64 x_38)/\CallsV Tryz.prog 35
 #[agg #[slice x_35 x_36 x_37,int i64 x_38],int i64 x] w' fun v w'=>∃ x x_39 x_40 x_41,v=agg #[slice x x_39 x_40,int i64 x_41]/\stOK (add (mk g 0 none) 0) 0 [slice x x_39 x_40,int i64
 x_41] w'/\∀ w'_4,w'_4=setAll (add (mk g 0 none) 0) 0 [slice x x_39 x_40,int i64 x_41] w'->J_1 0 0 false false w'_4 else J_1 0 0 false false w' else (0<=x_22/\x_22 <
 (↑3:Int))/\∃ (S:World->Prop),S (drew w)/\∃ x,(∀ u,S u->cell? u (add (mk g_1 0 none) (Int.toNat x_22*1))=some (pointer x))/\(0<=x_22/\x_22<(↑3:Int))/\∃ x_32,(∀ u,S
 u->cell? u (add (add (mk g_2 0 none) (Int.toNat x_22*3)) 0)=some (int i64 x_32))/\∃ x_33 x_34 x_35,(∀ u,S u->cell? u (add (add (mk g_2 0 none) (Int.toNat x_22*3)) 1) =
 some (slice x_33 x_34 x_35))/\∃ x_36,(∀ u,S u->cell? u (add (add (mk g_2 0 none) (Int.toNat x_22*3)) 2)=some (bool x_36))/\∃ x_37 x_38 x_39,(∀ u,S u->cell? u (add (add
 (mk g 0 none) 0) 0)=some (slice x_37 x_38 x_39))/\∃ x_40,(∀ u,S u->cell? u (add (add (mk g 0 none) 0) 1)=some (int i64 x_40))/\∃ x_41,(∀ u,S u->cell? u (add (mk
 g_3 0 none) 0)=some (int i64 x_41))/\∃ x_42,(∀ u,S u->cell? u (add (mk g_3 0 none) 1)=some (int i64 x_42))/\∃ x_43,(∀ u,S u->cell? u (add (mk g_3 0 none)
 2)=some (int i64 x_43))/\∃ x_44,(∀ u,S u->cell? u (add (mk g_3 0 none) 3)=some (int u8 x_44))/\∃ x_45 x_46 x_47,(∀ u,S u->cell? u (add (mk g_3 0 none) 4) =
 some (slice x_45 x_46 x_47))/\∃ x_48 x_49 x_50,(∀ u,S u->cell? u (add (mk g_3 0 none) 5)=some (slice x_48 x_49 x_50))/\CallsV Tryz.prog 36 #[pointer x,agg #[int i64 x_32,
 slice x_33 x_34 x_35,bool x_36],agg #[slice x_37 x_38 x_39,int i64 x_40],agg #[int i64 x_41,int i64 x_42,int i64 x_43,int u8 x_44,slice x_45 x_46 x_47,slice x_48 x_49 x_50]] (drew w) fun v w'
 => ∃ x x_51 x_52 x_53 x_54 x_55 x_56,v=tuple #[agg #[int i64 x,slice x_51 x_52 x_53,bool x_54],bool x_55,bool x_56]/\(0<=x_22/\x_22<(↑3:Int))/\stOK (add (mk g_2 0 none) (Int.toNat
 x_22*3)) 0 [int i64 x,slice x_51 x_52 x_53,bool x_54] w'/\∀ w'_4,w'_4=setAll (add (mk g_2 0 none) (Int.toNat x_22*3)) 0 [int i64 x,slice x_51 x_52 x_53,bool x_54] w'->J_1 0 0 x_55
 x_56 w'_4)/\bif decide (x_29=12) then J (decide (x_29=12)) w else J (decide (x_29=13)) w)/\bif decide (x_29=9) then J (decide (x_29=9)) w'
 else J (decide (x_29=10)) w' else CallsV Tryz.prog 18 #[] w fun v w'=>∃ x,v=bool x/\K (bool x) w' else CallsV Tryz.prog 18 #[] w fun v w'=>∃ x,v=bool x/\K (bool x) w')/\∃ (I :
 Int->World->Prop) (μ:Int->World->Nat),I 0 w/\∀ x_3 w,I x_3 w->bif decide (x_3<(keys_n:Int)) then bif decide (x_3<30) then ∃ ad,keys_A=some ad/\(0<=x_3 /\
 x_3<(keys_n:Int))/\∃ x_4 x_5 x_6,cell? w (add ad (Int.toNat x_3*1))=some (slice x_4 x_5 x_6)/\bif decide ((x_5:Int)<=100) then (2: Int)≠0/\∃ ad,keys_A=some
 ad/\(0<=x_3/\x_3<(keys_n:Int))/\∃ (S:World->Prop),S (drew w)/\∃ x_7 x_8 x_9,(∀ u,S u->cell? u (add ad (Int.toNat x_3*1))=some (slice x_7 x_8 x_9))/\∃ ad,keys_A =
 some ad/\(0<=x_3/\x_3<(keys_n:Int))/\∃ x_10 x_11 x_12,(∀ u,S u->cell? u (add ad (Int.toNat x_3*1))=some (slice x_10 x_11 x_12))/\CallsV Tryz.prog 22 #[pointer x,int i64
 (wrap i64 (1+Int.tmod x_3 2)),slice x_7 x_8 x_9,slice x_10 x_11 x_12] (drew w) fun v w'=>∃ x x_13,v=tuple #[bool x,int i64 x_13]/\∃ (S:World->Prop),S (drew w')/\∃ x x_14 x_15,(∀ u,S u
 -> cell? u (add (add (mk g 0 none) 0) 0)=some (slice x x_14 x_15))/\∃ x_16,(∀ u,S u->cell? u (add (add (mk g 0 none) 0) 1)=some (int i64 x_16))/\(2: Int)≠0/\∃ ad,
 keys_A=some ad/\(0<=x_3/\x_3<(keys_n:Int))/\∃ x_17 x_18 x_19,(∀ u,S u->cell? u (add ad (Int.toNat x_3*1))=some (slice x_17 x_18 x_19))/\∃ ad,keys_A=some ad /\
 (0<=x_3/\x_3<(keys_n:Int))/\∃ x_20 x_21 x_22,(∀ u,S u->cell? u (add ad (Int.toNat x_3*1))=some (slice x_20 x_21 x_22))/\CallsV Tryz.prog 23 #[agg #[slice x x_14 x_15,int i64
 x_16],int i64 (Int.tmod x_3 2),slice x_17 x_18 x_19,slice x_20 x_21 x_22] (drew w') fun v w'=>∃ x x_23 x_24 x_25,v=agg #[slice x x_23 x_24,int i64 x_25]/\stOK (add (mk g 0 none) 0) 0
 [slice x x_23 x_24,int i64 x_25] w'/\∀ w'_2,w'_2=setAll (add (mk g 0 none) 0) 0 [slice x x_23 x_24,int i64 x_25] w'->I (wrap i64 (x_3+1)) w'_2/\μ (wrap i64 (x_3+1)) w'_2<μ x_3 w
 else I (wrap i64 (x_3+1)) w/\μ (wrap i64 (x_3+1)) w<μ x_3 w else J w else J w
theorem cardindexlaw06_CursorPlays.calls (ok:Okay Tryz.prog) {keys_A keys_n keys_c ops_A ops_n ops_c w K} (h:cardindexlaw06_CursorPlays.W keys_A keys_n keys_c ops_A ops_n ops_c w K):CallsV Tryz.prog 4 #[.slice keys_A keys_n keys_c,.slice ops_A ops_n ops_c] w K :=
  fnW_calls ok Tryz.func4 (an:=(.named (.seq .auto (.seq .auto (.seq .auto (.seq .auto (.seq (.seq .auto (.block (.loop [(8,.one (.int .i64))] .auto))) (.join [] (.seq .auto (.block (.loop [(9,.one (.int .i64))] .auto))) (.seq .auto (.seq .auto (.seq (.seq .auto (.block (.loop [(12,.one (.int .i64))] .auto))) (.seq (.seq .auto (.block (.loop [(15,.one (.int .i64))] (.seq .auto (.join [] (.block (.seq .auto (.seq .auto (.seq .auto (.seq .auto (.seq .auto (.seq .auto (.join [(19,.one (.int .i64)),(20,.one (.int .i64)),(21,.one .bool),(22,.one .bool)] (.seq .auto (.block (.join [(163,.one .bool)] .auto (.cond .auto (.seq .auto (.cond .auto (.join [(234,.one .bool)] .auto .auto))))))) (.seq .auto (.seq .auto (.block (.loop [(26,.one (.int .i64))] .auto)))))))))))) .auto))))) .auto)))))))))))) (args:=[.slice keys_A keys_n keys_c,.slice ops_A ops_n ops_c]) (Eq.mp (by kernel_rfl) h)
noncomputable def cardindexlaw06_moves.W:Option Addr->Int->Option Addr->Nat->Nat->Bool->Option Addr->Nat->Nat->Int->Int->Int->Int->Int->Option Addr->Nat->Nat->Option Addr->Nat->Nat
 -> World->(Value->World->Prop)->Prop:=fun c wx0 wx1_A wx1_n wx1_c wx2 t0_A t0_n t0_c t1 o0 o1 o2 o3 o4_A o4_n o4_c o5_A o5_n o5_c w K=>∀ g w',Fresh w g w' [int i64 wx0,slice wx1_A wx1_n wx1_c,
 bool wx2] 63->∀ g_1 w'_1,Fresh w' g_1 w'_1 [slice t0_A t0_n t0_c,int i64 t1] 52->∀ g_2 w',Fresh w'_1 g_2 w' [int i64 o0,int i64 o1,int i64 o2,int u8 o3,slice o4_A o4_n o4_c,slice o5_A o5_n
 o5_c] 66->∀ g_3 w'_2,Fresh w' g_3 w'_2 [int i64 0,slice none 0 0,bool false] 63->∃ (J:Bool->Bool->World->Prop),(∀ x x_1 w,J x x_1 w->∃ x_2,cell? w (add (mk g 0 none) 0)
 = some (int i64 x_2)/\∃ x_3 x_4 x_5,cell? w (add (mk g 0 none) 1)=some (slice x_3 x_4 x_5)/\∃ x_6,cell? w (add (mk g 0 none) 2)=some (bool x_6)/\stOK (mk g_3
 0 none) 0 [int i64 x_2,slice x_3 x_4 x_5,bool x_6] w/\∀ w',w'=setAll (mk g_3 0 none) 0 [int i64 x_2,slice x_3 x_4 x_5,bool x_6] w->∃ x_7,cell? w' (add (mk g_3 0 none) 0)
 = some (int i64 x_7)/\∃ x_8 x_9 x_10,cell? w' (add (mk g_3 0 none) 1)=some (slice x_8 x_9 x_10)/\∃ x_11,cell? w' (add (mk g_3 0 none) 2)=some (bool x_11)/\K
 (tuple #[agg #[int i64 x_7,slice x_8 x_9 x_10,bool x_11],bool x,bool x_1]) w')/\∃ x,cell? w'_2 (add (mk g_2 0 none) 0)=some (int i64 x)/\bif decide (x=1) then CallsV
 Tryz.prog 13 #[pointer c] w'_2 fun v w'=>∃ x,v=bool x/\∃ x_1,cell? w' (add (mk g 0 none) 0)=some (int i64 x_1)/\∃ x_2 x_3 x_4,cell? w' (add (mk g 0 none) 1) =
 some (slice x_2 x_3 x_4)/\∃ x_5,cell? w' (add (mk g 0 none) 2)=some (bool x_5)/\∃ x_6 x_7 x_8,cell? w' (add (mk g_1 0 none) 0)=some (slice x_6 x_7 x_8)/\∃
 x_9,cell? w' (add (mk g_1 0 none) 1)=some (int i64 x_9)/\CallsV Tryz.prog 70 #[agg #[int i64 x_1,slice x_2 x_3 x_4,bool x_5],agg #[slice x_6 x_7 x_8,int i64 x_9],int i64 1] w'
 fun v w'=>∃ x_10 x_11 x_12 x_13 x_14 x_15,v=tuple #[agg #[int i64 x_10,slice x_11 x_12 x_13,bool x_14],bool x_15]/\stOK (mk g 0 none) 0 [int i64 x_10,slice x_11 x_12 x_13,bool x_14]
 w'/\∀ w'_3,w'_3=setAll (mk g 0 none) 0 [int i64 x_10,slice x_11 x_12 x_13,bool x_14] w'->J x x_15 w'_3 else bif decide (x=2) then CallsV Tryz.prog 12 #[pointer c] w'_2 fun v
 w'=>∃ x,v=bool x/\∃ x_1,cell? w' (add (mk g 0 none) 0)=some (int i64 x_1)/\∃ x_2 x_3 x_4,cell? w' (add (mk g 0 none) 1)=some (slice x_2 x_3 x_4)/\∃ x_5,cell?
 w' (add (mk g 0 none) 2)=some (bool x_5)/\∃ x_6 x_7 x_8,cell? w' (add (mk g_1 0 none) 0)=some (slice x_6 x_7 x_8)/\∃ x_9,cell? w' (add (mk g_1 0 none) 1) =
 some (int i64 x_9)/\CallsV Tryz.prog 70 #[agg #[int i64 x_1,slice x_2 x_3 x_4,bool x_5],agg #[slice x_6 x_7 x_8,int i64 x_9],int i64 2] w' fun v w'=>∃ x_10 x_11 x_12 x_13 x_14 x_15,v =
 tuple #[agg #[int i64 x_10,slice x_11 x_12 x_13,bool x_14],bool x_15]/\stOK (mk g 0 none) 0 [int i64 x_10,slice x_11 x_12 x_13,bool x_14] w'/\∀ w'_3,w'_3=setAll (mk g 0 none) 0
 [int i64 x_10,slice x_11 x_12 x_13,bool x_14] w'->J x x_15 w'_3 else ∃ (J_1:Bool->World->Prop),(∀ x_1 w,J_1 x_1 w->bif x_1 then CallsV Tryz.prog 9 #[pointer c] w fun v w'=>∃ x,v=bool x /\
 ∃ x_2,cell? w' (add (mk g 0 none) 0)=some (int i64 x_2)/\∃ x_3 x_4 x_5,cell? w' (add (mk g 0 none) 1)=some (slice x_3 x_4 x_5)/\∃ x_6,cell? w' (add (mk g 0
 none) 2)=some (bool x_6)/\∃ x_7 x_8 x_9,cell? w' (add (mk g_1 0 none) 0)=some (slice x_7 x_8 x_9)/\∃ x_10,cell? w' (add (mk g_1 0 none) 1)=some (int
 i64 x_10)/\CallsV Tryz.prog 70 #[agg #[int i64 x_2,slice x_3 x_4 x_5,bool x_6],agg #[slice x_7 x_8 x_9,int i64 x_10],int i64 3] w' fun v w'=>∃ x_11 x_12 x_13 x_14 x_15 x_16,v=tuple #[agg
 #[int i64 x_11,slice x_12 x_13 x_14,bool x_15],bool x_16]/\stOK (mk g 0 none) 0 [int i64 x_11,slice x_12 x_13 x_14,bool x_15] w'/\∀ w'_3,w'_3=setAll (mk g 0 none) 0 [int i64
 x_11,slice x_12 x_13 x_14,bool x_15] w'->J x x_16 w'_3 else ∃ (J_2:Bool->World->Prop),(∀ x_2 w,J_2 x_2 w->bif x_2 then CallsV Tryz.prog 10 #[pointer c] w fun v w'=>∃ x,v=bool x/\∃ x_3,
 cell? w' (add (mk g 0 none) 0)=some (int i64 x_3)/\∃ x_4 x_5 x_6,cell? w' (add (mk g 0 none) 1)=some (slice x_4 x_5 x_6)/\∃ x_7,cell? w' (add (mk g 0 none) 2)
 = some (bool x_7)/\∃ x_8 x_9 x_10,cell? w' (add (mk g_1 0 none) 0)=some (slice x_8 x_9 x_10)/\∃ x_11,cell? w' (add (mk g_1 0 none) 1)=some (int i64 x_11) /\
 CallsV Tryz.prog 70 #[agg #[int i64 x_3,slice x_4 x_5 x_6,bool x_7],agg #[slice x_8 x_9 x_10,int i64 x_11],int i64 4] w' fun v w'=>∃ x_12 x_13 x_14 x_15 x_16 x_17,v=tuple #[agg #[int i64
 x_12,slice x_13 x_14 x_15,bool x_16],bool x_17]/\stOK (mk g 0 none) 0 [int i64 x_12,slice x_13 x_14 x_15,bool x_16] w'/\∀ w'_3,w'_3=setAll (mk g 0 none) 0 [int i64 x_12,slice
 x_13 x_14 x_15,bool x_16] w'->J x x_17 w'_3 else ∃ (J_3:Bool->World->Prop),(∀ x w,J_3 x w->bif x then ∃ x,cell? w (add (mk g_2 0 none) 3)=some (int u8 x)/\∃ x_3 x_4 x_5,
 cell? w (add (mk g_2 0 none) 4)=some (slice x_3 x_4 x_5)/\CallsV Tryz.prog 6 #[pointer c,int u8 x,slice x_3 x_4 x_5] w fun v w'=>∃ x,v=bool x/\∃ x_6,cell? w' (add (mk g 0
 none) 0)=some (int i64 x_6)/\∃ x_7 x_8 x_9,cell? w' (add (mk g 0 none) 1)=some (slice x_7 x_8 x_9)/\∃ x_10,cell? w' (add (mk g 0 none) 2)=some (bool
 x_10)/\∃ x_11 x_12 x_13,cell? w' (add (mk g_1 0 none) 0)=some (slice x_11 x_12 x_13)/\∃ x_14,cell? w' (add (mk g_1 0 none) 1)=some (int i64 x_14)/\∃ x_15,cell? w'
 (add (mk g_2 0 none) 3)=some (int u8 x_15)/\∃ x_16 x_17 x_18,cell? w' (add (mk g_2 0 none) 4)=some (slice x_16 x_17 x_18)/\CallsV Tryz.prog 71 #[agg #[int i64 x_6,
 slice x_7 x_8 x_9,bool x_10],agg #[slice x_11 x_12 x_13,int i64 x_14],int u8 x_15,slice x_16 x_17 x_18] w' fun v w'=>∃ x_19 x_20 x_21 x_22 x_23 x_24,v=tuple #[agg #[int i64 x_19,slice x_20
 x_21 x_22,bool x_23],bool x_24]/\stOK (mk g 0 none) 0 [int i64 x_19,slice x_20 x_21 x_22,bool x_23] w'/\∀ w'_3,w'_3=setAll (mk g 0 none) 0 [int i64 x_19,slice x_20 x_21 x_22,
 bool x_23] w'->J x x_24 w'_3 else J false false w)/\bif decide (x=7) then J_3 (decide (x=7)) w else J_3 (decide (x=8)) w)/\bif decide (x=5)
 then J_2 (decide (x=5)) w else J_2 (decide (x=6)) w)/\bif decide (x=3) then J_1 (decide (x=3)) w'_2 else J_1 (decide (x=4)) w'_2
theorem cardindexlaw06_moves.calls (ok:Okay Tryz.prog) {c wx0 wx1_A wx1_n wx1_c wx2 t0_A t0_n t0_c t1 o0 o1 o2 o3 o4_A o4_n o4_c o5_A o5_n o5_c w K} (h:cardindexlaw06_moves.W c wx0 wx1_A wx1_n wx1_c wx2 t0_A t0_n t0_c t1 o0 o1 o2 o3 o4_A o4_n o4_c o5_A o5_n o5_c w K):CallsV Tryz.prog 36 #[.pointer c,.agg #[.int .i64 wx0,.slice wx1_A wx1_n wx1_c,.bool wx2],.agg #[.slice t0_A t0_n t0_c,.int .i64 t1],.agg #[.int .i64 o0,.int .i64 o1,.int .i64 o2,.int .u8 o3,.slice o4_A o4_n o4_c,.slice o5_A o5_n o5_c]] w K :=
  fnW_calls ok Tryz.func36 (an:=(.named (.seq .auto (.seq .auto (.join [(11,.one .bool),(12,.one .bool)] (.seq .auto (.block (.seq .auto (.cond .auto (.seq .auto (.cond .auto (.join [(35,.one .bool)] .auto (.cond .auto (.join [(46,.one .bool)] .auto (.cond .auto (.join [(57,.one .bool)] .auto .auto))))))))))) .auto))))) (args:=[.pointer c,.agg #[.int .i64 wx0,.slice wx1_A wx1_n wx1_c,.bool wx2],.agg #[.slice t0_A t0_n t0_c,.int .i64 t1],.agg #[.int .i64 o0,.int .i64 o1,.int .i64 o2,.int .u8 o3,.slice o4_A o4_n o4_c,.slice o5_A o5_n o5_c]]) (Eq.mp (by kernel_rfl) h)
noncomputable def cardindexref06_Cursor_Move.W:Int->Option Addr->Nat->Nat->Bool->Option Addr->Nat->Nat->Int->Int->World->(Value->World->Prop)->Prop:=fun c0 c1_A c1_n c1_c c2 t0_A t0_n
 t0_c t1 how w K=>∀ g w',Fresh w g w' [int i64 c0,slice c1_A c1_n c1_c,bool c2] 63->∀ g_1 w'_1,Fresh w' g_1 w'_1 [slice t0_A t0_n t0_c,int i64 t1] 52->∀ g_2 w',Fresh w'_1 g_2 w' [int i64 0,
 slice none 0 0,bool false] 63->∃ x x_1 x_2,cell? w' (add (mk g_1 0 none) 0)=some (slice x x_1 x_2)/\∃ x_3,cell? w' (add (mk g_1 0 none) 1)=some (int i64
 x_3)/\∃ x_4,cell? w' (add (mk g 0 none) 0)=some (int i64 x_4)/\CallsV Tryz.prog 25 #[agg #[slice x x_1 x_2,int i64 x_3],int i64 x_4] w' fun v w'=>∃ x,v=int i64 x/\∃ (J:Int
 -> World->Prop),(∀ x_5 w,J x_5 w->bif decide (how=1) then ∃ (S:World->Prop),S (drew w)/\∃ x_6,(∀ u,S u->cell? u (add (mk g 0 none) 0)=some (int i64 x_6))/\∃ x_7
 x_8 x_9,(∀ u,S u->cell? u (add (mk g 0 none) 1)=some (slice x_7 x_8 x_9))/\∃ x_10,(∀ u,S u->cell? u (add (mk g 0 none) 2)=some (bool x_10))/\∃ x_11 x_12 x_13,(∀
 u,S u->cell? u (add (mk g_1 0 none) 0)=some (slice x_11 x_12 x_13))/\∃ x_14,(∀ u,S u->cell? u (add (mk g_1 0 none) 1)=some (int i64 x_14))/\CallsV Tryz.prog 92
 #[agg #[slice x_11 x_12 x_13,int i64 x_14],int i64 x,int i64 0] (drew w) fun v w'=>∃ x x_15 x_16 x_17 x_18 x_19 x_20,v=tuple #[agg #[slice x x_15 x_16,slice x_17 x_18 x_19],bool x_20]/\S w'
 /\ CallsV Tryz.prog 96 #[agg #[int i64 x_6,slice x_7 x_8 x_9,bool x_10],agg #[slice x x_15 x_16,slice x_17 x_18 x_19],bool x_20] w' fun v w'=>∃ x x_21 x_22 x_23 x_24 x_25,v=tuple #[agg #[int
 i64 x,slice x_21 x_22 x_23,bool x_24],bool x_25]/\stOK (mk g_2 0 none) 0 [int i64 x,slice x_21 x_22 x_23,bool x_24] w'/\∀ w'_2,w'_2=setAll (mk g_2 0 none) 0 [int i64 x,slice
 x_21 x_22 x_23,bool x_24] w'->∃ x,cell? w'_2 (add (mk g_2 0 none) 0)=some (int i64 x)/\∃ x_26 x_27 x_28,cell? w'_2 (add (mk g_2 0 none) 1)=some (slice x_26 x_27
 x_28)/\∃ x_29,cell? w'_2 (add (mk g_2 0 none) 2)=some (bool x_29)/\K (tuple #[agg #[int i64 x,slice x_26 x_27 x_28,bool x_29],bool x_25]) w'_2 else bif decide (how=2)
 then ∃ (S:World->Prop),S (drew w)/\∃ x_6,(∀ u,S u->cell? u (add (mk g 0 none) 0)=some (int i64 x_6))/\∃ x_7 x_8 x_9,(∀ u,S u->cell? u (add (mk g 0 none) 1) =
 some (slice x_7 x_8 x_9))/\∃ x_10,(∀ u,S u->cell? u (add (mk g 0 none) 2)=some (bool x_10))/\∃ x_11 x_12 x_13,(∀ u,S u->cell? u (add (mk g_1 0 none) 0) =
 some (slice x_11 x_12 x_13))/\∃ x_14,(∀ u,S u->cell? u (add (mk g_1 0 none) 1)=some (int i64 x_14))/\CallsV Tryz.prog 92 #[agg #[slice x_11 x_12 x_13,int i64 x_14],int i64
 x,int i64 (wrap i64 (x_5-1))] (drew w) fun v w'=>∃ x x_15 x_16 x_17 x_18 x_19 x_20,v=tuple #[agg #[slice x x_15 x_16,slice x_17 x_18 x_19],bool x_20]/\S w'/\CallsV Tryz.prog 96 #[agg #[int
 i64 x_6,slice x_7 x_8 x_9,bool x_10],agg #[slice x x_15 x_16,slice x_17 x_18 x_19],bool x_20] w' fun v w'=>∃ x x_21 x_22 x_23 x_24 x_25,v=tuple #[agg #[int i64 x,slice x_21 x_22 x_23,bool
 x_24],bool x_25]/\stOK (mk g_2 0 none) 0 [int i64 x,slice x_21 x_22 x_23,bool x_24] w'/\∀ w'_2,w'_2=setAll (mk g_2 0 none) 0 [int i64 x,slice x_21 x_22 x_23,bool x_24] w'->∃ x,
 cell? w'_2 (add (mk g_2 0 none) 0)=some (int i64 x)/\∃ x_26 x_27 x_28,cell? w'_2 (add (mk g_2 0 none) 1)=some (slice x_26 x_27 x_28)/\∃ x_29,cell? w'_2 (add (mk g_2
 0 none) 2)=some (bool x_29)/\K (tuple #[agg #[int i64 x,slice x_26 x_27 x_28,bool x_29],bool x_25]) w'_2 else ∃ x_6,cell? w (add (mk g 0 none) 2)=some (bool x_6) /\
 bif !x_6 then ∃ x,cell? w (add (mk g 0 none) 0)=some (int i64 x)/\∃ x_7 x_8 x_9,cell? w (add (mk g 0 none) 1)=some (slice x_7 x_8 x_9)/\∃ x_10,cell? w (add (mk g 0
 none) 2)=some (bool x_10)/\stOK (mk g_2 0 none) 0 [int i64 x,slice x_7 x_8 x_9,bool x_10] w/\∀ w',w'=setAll (mk g_2 0 none) 0 [int i64 x,slice x_7 x_8 x_9,bool
 x_10] w->∃ x,cell? w' (add (mk g_2 0 none) 0)=some (int i64 x)/\∃ x_11 x_12 x_13,cell? w' (add (mk g_2 0 none) 1)=some (slice x_11 x_12 x_13)/\∃ x_14,cell? w' (add
 (mk g_2 0 none) 2)=some (bool x_14)/\K (tuple #[agg #[int i64 x,slice x_11 x_12 x_13,bool x_14],bool false]) w' else bif decide (how=3) then ∃ (S:World->Prop),S
 (drew w)/\∃ x_7,(∀ u,S u->cell? u (add (mk g 0 none) 0)=some (int i64 x_7))/\∃ x_8 x_9 x_10,(∀ u,S u->cell? u (add (mk g 0 none) 1)=some (slice x_8 x_9 x_10)) /\
 ∃ x_11,(∀ u,S u->cell? u (add (mk g 0 none) 2)=some (bool x_11))/\∃ x_12 x_13 x_14,(∀ u,S u->cell? u (add (mk g_1 0 none) 0)=some (slice x_12 x_13 x_14))/\∃
 x_15,(∀ u,S u->cell? u (add (mk g_1 0 none) 1)=some (int i64 x_15))/\∃ x_16 x_17 x_18,(∀ u,S u->cell? u (add (mk g 0 none) 1)=some (slice x_16 x_17 x_18)) /\
 CallsV Tryz.prog 64 #[agg #[slice x_12 x_13 x_14,int i64 x_15],int i64 x,slice x_16 x_17 x_18,bool false] (drew w) fun v w'=>∃ x x_19 x_20 x_21 x_22 x_23 x_24,v=tuple #[agg #[slice x x_19
 x_20,slice x_21 x_22 x_23],bool x_24]/\S w'/\CallsV Tryz.prog 96 #[agg #[int i64 x_7,slice x_8 x_9 x_10,bool x_11],agg #[slice x x_19 x_20,slice x_21 x_22 x_23],bool x_24] w' fun v w'=>∃ x
 x_25 x_26 x_27 x_28 x_29,v=tuple #[agg #[int i64 x,slice x_25 x_26 x_27,bool x_28],bool x_29]/\stOK (mk g_2 0 none) 0 [int i64 x,slice x_25 x_26 x_27,bool x_28] w'/\∀ w'_2,w'_2 =
 setAll (mk g_2 0 none) 0 [int i64 x,slice x_25 x_26 x_27,bool x_28] w'->∃ x,cell? w'_2 (add (mk g_2 0 none) 0)=some (int i64 x)/\∃ x_30 x_31 x_32,cell? w'_2 (add (mk g_2 0
 none) 1)=some (slice x_30 x_31 x_32)/\∃ x_33,cell? w'_2 (add (mk g_2 0 none) 2)=some (bool x_33)/\K (tuple #[agg #[int i64 x,slice x_30 x_31 x_32,bool x_33],bool
 x_29]) w'_2 else ∃ (S:World->Prop),S (drew w)/\∃ x_7,(∀ u,S u->cell? u (add (mk g 0 none) 0)=some (int i64 x_7))/\∃ x_8 x_9 x_10,(∀ u,S u->cell? u (add (mk g 0 none)
 1)=some (slice x_8 x_9 x_10))/\∃ x_11,(∀ u,S u->cell? u (add (mk g 0 none) 2)=some (bool x_11))/\∃ x_12 x_13 x_14,(∀ u,S u->cell? u (add (mk g_1 0 none) 0) =
 some (slice x_12 x_13 x_14))/\∃ x_15,(∀ u,S u->cell? u (add (mk g_1 0 none) 1)=some (int i64 x_15))/\∃ x_16 x_17 x_18,(∀ u,S u->cell? u (add (mk g 0 none) 1) =
 some (slice x_16 x_17 x_18))/\CallsV Tryz.prog 97 #[agg #[slice x_12 x_13 x_14,int i64 x_15],int i64 x,slice x_16 x_17 x_18,bool false] (drew w) fun v w'=>∃ x x_19 x_20 x_21 x_22
 x_23 x_24,v=tuple #[agg #[slice x x_19 x_20,slice x_21 x_22 x_23],bool x_24]/\S w'/\CallsV Tryz.prog 96 #[agg #[int i64 x_7,slice x_8 x_9 x_10,bool x_11],agg #[slice x x_19 x_20,slice x_21
 x_22 x_23],bool x_24] w' fun v w'=>∃ x x_25 x_26 x_27 x_28 x_29,v=tuple #[agg #[int i64 x,slice x_25 x_26 x_27,bool x_28],bool x_29]/\stOK (mk g_2 0 none) 0 [int i64 x,slice x_25 x_26
 x_27,bool x_28] w'/\∀ w'_2,w'_2=setAll (mk g_2 0 none) 0 [int i64 x,slice x_25 x_26 x_27,bool x_28] w'->∃ x,cell? w'_2 (add (mk g_2 0 none) 0)=some (int i64 x)/\∃ x_30
 x_31 x_32,cell? w'_2 (add (mk g_2 0 none) 1)=some (slice x_30 x_31 x_32)/\∃ x_33,cell? w'_2 (add (mk g_2 0 none) 2)=some (bool x_33)/\K (tuple #[agg #[int i64 x,
 slice x_30 x_31 x_32,bool x_33],bool x_29]) w'_2)/\bif decide (0<=x) then ∃ x_5 x_6 x_7,cell? w' (add (mk g_1 0 none) 0)=some (slice x_5 x_6 x_7)/\∃ ad,x_5 =
 some ad/\(0<=x/\x<(x_6:Int))/\∃ x_8 x_9 x_10,cell? w' (add (add ad (Int.toNat x*2)) 1)=some (slice x_8 x_9 x_10)/\J (x_9:Int) w' else J 0 w'
theorem cardindexref06_Cursor_Move.calls (ok:Okay Tryz.prog) {c0 c1_A c1_n c1_c c2 t0_A t0_n t0_c t1 how w K} (h:cardindexref06_Cursor_Move.W c0 c1_A c1_n c1_c c2 t0_A t0_n t0_c t1 how w K):CallsV Tryz.prog 70 #[.agg #[.int .i64 c0,.slice c1_A c1_n c1_c,.bool c2],.agg #[.slice t0_A t0_n t0_c,.int .i64 t1],.int .i64 how] w K :=
  fnW_calls ok Tryz.func70 (an:=(.named (.seq .auto (.seq .auto (.seq .auto (.join [(9,.one (.int .i64))] .auto .auto)))))) (args:=[.agg #[.int .i64 c0,.slice c1_A c1_n c1_c,.bool c2],.agg #[.slice t0_A t0_n t0_c,.int .i64 t1],.int .i64 how]) (Eq.mp (by kernel_rfl) h)
noncomputable def cardindexref06_Cursor_Seek.W:Int->Option Addr->Nat->Nat->Bool->Option Addr->Nat->Nat->Int->Int->Option Addr->Nat->Nat->World->(Value->World->Prop)->Prop:=fun c0
 c1_A c1_n c1_c c2 t0_A t0_n t0_c t1 how key_A key_n key_c w K=>∀ g w',Fresh w g w' [int i64 c0,slice c1_A c1_n c1_c,bool c2] 63->∀ g_1 w'_1,Fresh w' g_1 w'_1 [slice t0_A t0_n t0_c,int i64 t1]
 52->∀ g_2 w',Fresh w'_1 g_2 w' [int i64 0,slice none 0 0,bool false] 63->∃ x x_1 x_2,cell? w' (add (mk g_1 0 none) 0)=some (slice x x_1 x_2)/\∃ x_3,cell? w' (add (mk
 g_1 0 none) 1)=some (int i64 x_3)/\∃ x_4,cell? w' (add (mk g 0 none) 0)=some (int i64 x_4)/\CallsV Tryz.prog 25 #[agg #[slice x x_1 x_2,int i64 x_3],int i64 x_4] w'
 fun v w'=>∃ x,v=int i64 x/\bif decide (how=1) then ∃ (S:World->Prop),S (drew w')/\∃ x_5,(∀ u,S u->cell? u (add (mk g 0 none) 0)=some (int i64 x_5))/\∃ x_6 x_7
 x_8,(∀ u,S u->cell? u (add (mk g 0 none) 1)=some (slice x_6 x_7 x_8))/\∃ x_9,(∀ u,S u->cell? u (add (mk g 0 none) 2)=some (bool x_9))/\∃ x_10 x_11 x_12,(∀ u,S
 u->cell? u (add (mk g_1 0 none) 0)=some (slice x_10 x_11 x_12))/\∃ x_13,(∀ u,S u->cell? u (add (mk g_1 0 none) 1)=some (int i64 x_13))/\CallsV Tryz.prog 64 #[agg
 #[slice x_10 x_11 x_12,int i64 x_13],int i64 x,slice key_A key_n key_c,bool true] (drew w') fun v w'=>∃ x x_14 x_15 x_16 x_17 x_18 x_19,v=tuple #[agg #[slice x x_14 x_15,slice x_16 x_17
 x_18],bool x_19]/\S w'/\CallsV Tryz.prog 96 #[agg #[int i64 x_5,slice x_6 x_7 x_8,bool x_9],agg #[slice x x_14 x_15,slice x_16 x_17 x_18],bool x_19] w' fun v w'=>∃ x x_20 x_21 x_22 x_23 x_24,
 v=tuple #[agg #[int i64 x,slice x_20 x_21 x_22,bool x_23],bool x_24]/\stOK (mk g_2 0 none) 0 [int i64 x,slice x_20 x_21 x_22,bool x_23] w'/\∀ w'_2,w'_2=setAll (mk g_2 0 none)
 0 [int i64 x,slice x_20 x_21 x_22,bool x_23] w'->∃ x,cell? w'_2 (add (mk g_2 0 none) 0)=some (int i64 x)/\∃ x_25 x_26 x_27,cell? w'_2 (add (mk g_2 0 none) 1)=some
 (slice x_25 x_26 x_27)/\∃ x_28,cell? w'_2 (add (mk g_2 0 none) 2)=some (bool x_28)/\K (tuple #[agg #[int i64 x,slice x_25 x_26 x_27,bool x_28],bool x_24]) w'_2 else bif
 decide (how=2) then ∃ (S:World->Prop),S (drew w')/\∃ x_5,(∀ u,S u->cell? u (add (mk g 0 none) 0)=some (int i64 x_5))/\∃ x_6 x_7 x_8,(∀ u,S u->cell? u (add (mk g
 0 none) 1)=some (slice x_6 x_7 x_8))/\∃ x_9,(∀ u,S u->cell? u (add (mk g 0 none) 2)=some (bool x_9))/\∃ x_10 x_11 x_12,(∀ u,S u->cell? u (add (mk g_1 0
 none) 0)=some (slice x_10 x_11 x_12))/\∃ x_13,(∀ u,S u->cell? u (add (mk g_1 0 none) 1)=some (int i64 x_13))/\CallsV Tryz.prog 64 #[agg #[slice x_10 x_11 x_12,int
 i64 x_13],int i64 x,slice key_A key_n key_c,bool false] (drew w') fun v w'=>∃ x x_14 x_15 x_16 x_17 x_18 x_19,v=tuple #[agg #[slice x x_14 x_15,slice x_16 x_17 x_18],bool x_19]/\S w' /\
 CallsV Tryz.prog 96 #[agg #[int i64 x_5,slice x_6 x_7 x_8,bool x_9],agg #[slice x x_14 x_15,slice x_16 x_17 x_18],bool x_19] w' fun v w'=>∃ x x_20 x_21 x_22 x_23 x_24,v=tuple #[agg #[int i64
 x,slice x_20 x_21 x_22,bool x_23],bool x_24]/\stOK (mk g_2 0 none) 0 [int i64 x,slice x_20 x_21 x_22,bool x_23] w'/\∀ w'_2,w'_2=setAll (mk g_2 0 none) 0 [int i64 x,slice x_20
 x_21 x_22,bool x_23] w'->∃ x,cell? w'_2 (add (mk g_2 0 none) 0)=some (int i64 x)/\∃ x_25 x_26 x_27,cell? w'_2 (add (mk g_2 0 none) 1)=some (slice x_25 x_26 x_27) /\
 ∃ x_28,cell? w'_2 (add (mk g_2 0 none) 2)=some (bool x_28)/\K (tuple #[agg #[int i64 x,slice x_25 x_26 x_27,bool x_28],bool x_24]) w'_2 else bif decide (how=3) then ∃
 (S:World->Prop),S (drew w')/\∃ x_5,(∀ u,S u->cell? u (add (mk g 0 none) 0)=some (int i64 x_5))/\∃ x_6 x_7 x_8,(∀ u,S u->cell? u (add (mk g 0 none) 1)=some
 (slice x_6 x_7 x_8))/\∃ x_9,(∀ u,S u->cell? u (add (mk g 0 none) 2)=some (bool x_9))/\∃ x_10 x_11 x_12,(∀ u,S u->cell? u (add (mk g_1 0 none) 0)=some (slice x_10
 x_11 x_12))/\∃ x_13,(∀ u,S u->cell? u (add (mk g_1 0 none) 1)=some (int i64 x_13))/\CallsV Tryz.prog 97 #[agg #[slice x_10 x_11 x_12,int i64 x_13],int i64 x,slice key_A key_n
 key_c,bool true] (drew w') fun v w'=>∃ x x_14 x_15 x_16 x_17 x_18 x_19,v=tuple #[agg #[slice x x_14 x_15,slice x_16 x_17 x_18],bool x_19]/\S w'/\CallsV Tryz.prog 96 #[agg #[int i64 x_5,
 slice x_6 x_7 x_8,bool x_9],agg #[slice x x_14 x_15,slice x_16 x_17 x_18],bool x_19] w' fun v w'=>∃ x x_20 x_21 x_22 x_23 x_24,v=tuple #[agg #[int i64 x,slice x_20 x_21 x_22,bool x_23],bool
 x_24]/\stOK (mk g_2 0 none) 0 [int i64 x,slice x_20 x_21 x_22,bool x_23] w'/\∀ w'_2,w'_2=setAll (mk g_2 0 none) 0 [int i64 x,slice x_20 x_21 x_22,bool x_23] w'->∃ x,cell? w'_2
 (add (mk g_2 0 none) 0)=some (int i64 x)/\∃ x_25 x_26 x_27,cell? w'_2 (add (mk g_2 0 none) 1)=some (slice x_25 x_26 x_27)/\∃ x_28,cell? w'_2 (add (mk g_2 0
 none) 2)=some (bool x_28)/\K (tuple #[agg #[int i64 x,slice x_25 x_26 x_27,bool x_28],bool x_24]) w'_2 else bif decide (how=4) then ∃ (S:World->Prop),S (drew w')/\∃
 x_5,(∀ u,S u->cell? u (add (mk g 0 none) 0)=some (int i64 x_5))/\∃ x_6 x_7 x_8,(∀ u,S u->cell? u (add (mk g 0 none) 1)=some (slice x_6 x_7 x_8))/\∃ x_9,(∀ u,S
 u->cell? u (add (mk g 0 none) 2)=some (bool x_9))/\∃ x_10 x_11 x_12,(∀ u,S u->cell? u (add (mk g_1 0 none) 0)=some (slice x_10 x_11 x_12))/\∃ x_13,(∀ u,S u ->
 cell? u (add (mk g_1 0 none) 1)=some (int i64 x_13))/\CallsV Tryz.prog 97 #[agg #[slice x_10 x_11 x_12,int i64 x_13],int i64 x,slice key_A key_n key_c,bool false] (drew w')
 fun v w'=>∃ x x_14 x_15 x_16 x_17 x_18 x_19,v=tuple #[agg #[slice x x_14 x_15,slice x_16 x_17 x_18],bool x_19]/\S w'/\CallsV Tryz.prog 96 #[agg #[int i64 x_5,slice x_6 x_7 x_8,bool x_9],agg
 #[slice x x_14 x_15,slice x_16 x_17 x_18],bool x_19] w' fun v w'=>∃ x x_20 x_21 x_22 x_23 x_24,v=tuple #[agg #[int i64 x,slice x_20 x_21 x_22,bool x_23],bool x_24]/\stOK (mk g_2 0
 none) 0 [int i64 x,slice x_20 x_21 x_22,bool x_23] w'/\∀ w'_2,w'_2=setAll (mk g_2 0 none) 0 [int i64 x,slice x_20 x_21 x_22,bool x_23] w'->∃ x,cell? w'_2 (add (mk g_2 0
 none) 0)=some (int i64 x)/\∃ x_25 x_26 x_27,cell? w'_2 (add (mk g_2 0 none) 1)=some (slice x_25 x_26 x_27)/\∃ x_28,cell? w'_2 (add (mk g_2 0 none) 2) =
 some (bool x_28)/\K (tuple #[agg #[int i64 x,slice x_25 x_26 x_27,bool x_28],bool x_24]) w'_2 else ∃ x,cell? w' (add (mk g 0 none) 0)=some (int i64 x)/\∃ x_5 x_6 x_7,cell?
 w' (add (mk g 0 none) 1)=some (slice x_5 x_6 x_7)/\∃ x_8,cell? w' (add (mk g 0 none) 2)=some (bool x_8)/\CallsV Tryz.prog 96 #[agg #[int i64 x,slice x_5 x_6 x_7,
 bool x_8],agg #[slice none 0 0,slice none 0 0],bool false] w' fun v w'=>∃ x x_9 x_10 x_11 x_12 x_13,v=tuple #[agg #[int i64 x,slice x_9 x_10 x_11,bool x_12],bool x_13] /\
 stOK (mk g_2 0 none) 0 [int i64 x,slice x_9 x_10 x_11,bool x_12] w'/\∀ w'_2,w'_2=setAll (mk g_2 0 none) 0 [int i64 x,slice x_9 x_10 x_11,bool x_12] w'->∃ x,cell? w'_2 (add (mk
 g_2 0 none) 0)=some (int i64 x)/\∃ x_14 x_15 x_16,cell? w'_2 (add (mk g_2 0 none) 1)=some (slice x_14 x_15 x_16)/\∃ x_17,cell? w'_2 (add (mk g_2 0 none) 2) =
 some (bool x_17)/\K (tuple #[agg #[int i64 x,slice x_14 x_15 x_16,bool x_17],bool x_13]) w'_2
theorem cardindexref06_Cursor_Seek.calls (ok:Okay Tryz.prog) {c0 c1_A c1_n c1_c c2 t0_A t0_n t0_c t1 how key_A key_n key_c w K} (h:cardindexref06_Cursor_Seek.W c0 c1_A c1_n c1_c c2 t0_A t0_n t0_c t1 how key_A key_n key_c w K):CallsV Tryz.prog 71 #[.agg #[.int .i64 c0,.slice c1_A c1_n c1_c,.bool c2],.agg #[.slice t0_A t0_n t0_c,.int .i64 t1],.int .u8 how,.slice key_A key_n key_c] w K :=
  fnW_calls ok Tryz.func71 (an:=(.named .auto)) (args:=[.agg #[.int .i64 c0,.slice c1_A c1_n c1_c,.bool c2],.agg #[.slice t0_A t0_n t0_c,.int .i64 t1],.int .u8 how,.slice key_A key_n key_c]) (Eq.mp (by kernel_rfl) h)
noncomputable def cardindexref06_Cursor_Entry.W:Int->Option Addr->Nat->Nat->Bool->Option Addr->Nat->Nat->Int->World->(Value->World->Prop)->Prop:=fun c0 c1_A c1_n c1_c c2 t0_A t0_n t0_c
 t1 w K=>∀ g w',Fresh w g w' [int i64 c0,slice c1_A c1_n c1_c,bool c2] 63->∀ g_1 w'_1,Fresh w' g_1 w'_1 [slice t0_A t0_n t0_c,int i64 t1] 52->∀ g_2 w',Fresh w'_1 g_2 w' [slice none 0 0,
 slice none 0 0] 73->∃ x x_1 x_2,cell? w' (add (mk g_1 0 none) 0)=some (slice x x_1 x_2)/\∃ x_3,cell? w' (add (mk g_1 0 none) 1)=some (int i64 x_3)/\∃ x_4,
 cell? w' (add (mk g 0 none) 0)=some (int i64 x_4)/\CallsV Tryz.prog 25 #[agg #[slice x x_1 x_2,int i64 x_3],int i64 x_4] w' fun v w'=>∃ x,v=int i64 x/\bif decide (x <
 0) then stOK (mk g_2 0 none) 0 [slice none 0 0,slice none 0 0] w'/\∀ w'_2,w'_2=setAll (mk g_2 0 none) 0 [slice none 0 0,slice none 0 0] w'->∃ x x_5 x_6,
 cell? w'_2 (add (mk g_2 0 none) 0)=some (slice x x_5 x_6)/\∃ x_7 x_8 x_9,cell? w'_2 (add (mk g_2 0 none) 1)=some (slice x_7 x_8 x_9)/\K (tuple #[agg #[slice x x_5
 x_6,slice x_7 x_8 x_9],bool false]) w'_2 else ∃ x_5,cell? w' (add (mk g 0 none) 2)=some (bool x_5)/\bif !x_5 then stOK (mk g_2 0 none) 0 [slice none 0 0,slice
 none 0 0] w'/\∀ w'_2,w'_2=setAll (mk g_2 0 none) 0 [slice none 0 0,slice none 0 0] w'->∃ x x_6 x_7,cell? w'_2 (add (mk g_2 0 none) 0)=some (slice x
 x_6 x_7)/\∃ x_8 x_9 x_10,cell? w'_2 (add (mk g_2 0 none) 1)=some (slice x_8 x_9 x_10)/\K (tuple #[agg #[slice x x_6 x_7,slice x_8 x_9 x_10],bool false]) w'_2 else ∃ x_6 x_7
 x_8,cell? w' (add (mk g_1 0 none) 0)=some (slice x_6 x_7 x_8)/\∃ x_9,cell? w' (add (mk g_1 0 none) 1)=some (int i64 x_9)/\∃ x_10 x_11 x_12,cell? w' (add (mk g 0
 none) 1)=some (slice x_10 x_11 x_12)/\CallsV Tryz.prog 64 #[agg #[slice x_6 x_7 x_8,int i64 x_9],int i64 x,slice x_10 x_11 x_12,bool true] w' fun v w'=>∃ x x_13 x_14 x_15
 x_16 x_17 x_18,v=tuple #[agg #[slice x x_13 x_14,slice x_15 x_16 x_17],bool x_18]/\∀ g_3 w'_2,Fresh w' g_3 w'_2 [slice none 0 0,slice none 0 0] 73->stOK (mk g_3 0 none) 0
 [slice x x_13 x_14,slice x_15 x_16 x_17] w'_2/\∀ w',w'=setAll (mk g_3 0 none) 0 [slice x x_13 x_14,slice x_15 x_16 x_17] w'_2->bif !x_18 then stOK (mk g_2 0 none) 0 [slice
 none 0 0,slice none 0 0] w'/\∀ w'_3,w'_3=setAll (mk g_2 0 none) 0 [slice none 0 0,slice none 0 0] w'->∃ x x_19 x_20,cell? w'_3 (add (mk g_2 0 none) 0)
 = some (slice x x_19 x_20)/\∃ x_21 x_22 x_23,cell? w'_3 (add (mk g_2 0 none) 1)=some (slice x_21 x_22 x_23)/\K (tuple #[agg #[slice x x_19 x_20,slice x_21 x_22 x_23],bool
 false]) w'_3 else ∃ x x_19 x_20,cell? w' (add (mk g_3 0 none) 0)=some (slice x x_19 x_20)/\∃ x_21 x_22 x_23,cell? w' (add (mk g 0 none) 1)=some (slice x_21 x_22
 x_23)/\CallsV Tryz.prog 63 #[slice x x_19 x_20,slice x_21 x_22 x_23] w' fun v w'=>∃ x,v=int i64 x/\bif !decide (x=0) then stOK (mk g_2 0 none) 0 [slice none 0 0,slice
 none 0 0] w'/\∀ w'_3,w'_3=setAll (mk g_2 0 none) 0 [slice none 0 0,slice none 0 0] w'->∃ x x_24 x_25,cell? w'_3 (add (mk g_2 0 none) 0)=some (slice x
 x_24 x_25)/\∃ x_26 x_27 x_28,cell? w'_3 (add (mk g_2 0 none) 1)=some (slice x_26 x_27 x_28)/\K (tuple #[agg #[slice x x_24 x_25,slice x_26 x_27 x_28],bool false]) w'_3 else ∃
 x x_24 x_25,cell? w' (add (mk g_3 0 none) 0)=some (slice x x_24 x_25)/\∃ x_26 x_27 x_28,cell? w' (add (mk g_3 0 none) 1)=some (slice x_26 x_27 x_28)/\stOK (mk g_2 0
 none) 0 [slice x x_24 x_25,slice x_26 x_27 x_28] w'/\∀ w'_3,w'_3=setAll (mk g_2 0 none) 0 [slice x x_24 x_25,slice x_26 x_27 x_28] w'->∃ x x_29 x_30,cell? w'_3 (add (mk g_2 0
 none) 0)=some (slice x x_29 x_30)/\∃ x_31 x_32 x_33,cell? w'_3 (add (mk g_2 0 none) 1)=some (slice x_31 x_32 x_33)/\K (tuple #[agg #[slice x x_29 x_30,slice x_31
 x_32 x_33],bool true]) w'_3
theorem cardindexref06_Cursor_Entry.calls (ok:Okay Tryz.prog) {c0 c1_A c1_n c1_c c2 t0_A t0_n t0_c t1 w K} (h:cardindexref06_Cursor_Entry.W c0 c1_A c1_n c1_c c2 t0_A t0_n t0_c t1 w K):CallsV Tryz.prog 28 #[.agg #[.int .i64 c0,.slice c1_A c1_n c1_c,.bool c2],.agg #[.slice t0_A t0_n t0_c,.int .i64 t1]] w K :=
  fnW_calls ok Tryz.func28 (an:=(.named .auto)) (args:=[.agg #[.int .i64 c0,.slice c1_A c1_n c1_c,.bool c2],.agg #[.slice t0_A t0_n t0_c,.int .i64 t1]]) (Eq.mp (by kernel_rfl) h)
noncomputable def cardindexref06_Cursor_to.W:Int->Option Addr->Nat->Nat->Bool->Option Addr->Nat->Nat->Option Addr->Nat->Nat->Bool->World->(Value->World->Prop)->Prop:=fun c0 c1_A
 c1_n c1_c c2 x0_A x0_n x0_c x1_A x1_n x1_c okx w K=>∀ g w',Fresh w g w' [int i64 c0,slice c1_A c1_n c1_c,bool c2] 63->∀ g_1 w'_1,Fresh w' g_1 w'_1 [slice x0_A x0_n x0_c,slice x1_A x1_n x1_c] 73
 -> ∀ g_2 w',Fresh w'_1 g_2 w' [int i64 0,slice none 0 0,bool false] 63->∃ x x_1 x_2,cell? w' (add (mk g_1 0 none) 0)=some (slice x x_1 x_2)/\stOK (add (mk g 0
 none) 1) 0 [slice x x_1 x_2] w'/\∀ w'_2,w'_2=setAll (add (mk g 0 none) 1) 0 [slice x x_1 x_2] w'->stOK (add (mk g 0 none) 2) 0 [bool okx] w'_2/\∀ w',w'=setAll (add (mk g 0
 none) 2) 0 [bool okx] w'_2->∃ x,cell? w' (add (mk g 0 none) 0)=some (int i64 x)/\∃ x_3 x_4 x_5,cell? w' (add (mk g 0 none) 1)=some (slice x_3 x_4 x_5)/\∃
 x_6,cell? w' (add (mk g 0 none) 2)=some (bool x_6)/\stOK (mk g_2 0 none) 0 [int i64 x,slice x_3 x_4 x_5,bool x_6] w'/\∀ w'_3,w'_3=setAll (mk g_2 0 none) 0 [int i64
 x,slice x_3 x_4 x_5,bool x_6] w'->∃ x,cell? w'_3 (add (mk g_2 0 none) 0)=some (int i64 x)/\∃ x_7 x_8 x_9,cell? w'_3 (add (mk g_2 0 none) 1)=some (slice x_7 x_8
 x_9)/\∃ x_10,cell? w'_3 (add (mk g_2 0 none) 2)=some (bool x_10)/\K (tuple #[agg #[int i64 x,slice x_7 x_8 x_9,bool x_10],bool okx]) w'_3
theorem cardindexref06_Cursor_to.calls (ok:Okay Tryz.prog) {c0 c1_A c1_n c1_c c2 x0_A x0_n x0_c x1_A x1_n x1_c okx w K} (h:cardindexref06_Cursor_to.W c0 c1_A c1_n c1_c c2 x0_A x0_n x0_c x1_A x1_n x1_c okx w K):CallsV Tryz.prog 96 #[.agg #[.int .i64 c0,.slice c1_A c1_n c1_c,.bool c2],.agg #[.slice x0_A x0_n x0_c,.slice x1_A x1_n x1_c],.bool okx] w K :=
  fnW_calls ok Tryz.func96 (an:=(.named .auto)) (args:=[.agg #[.int .i64 c0,.slice c1_A c1_n c1_c,.bool c2],.agg #[.slice x0_A x0_n x0_c,.slice x1_A x1_n x1_c],.bool okx]) (Eq.mp (by kernel_rfl) h)
end Go.Proofs.YthfagbfllheneaaGreat
set_option linter.unusedVariables false
set_option linter.unusedSimpArgs false
namespace Go.Proofs.YthfagbfllheneaaGreat
open Go Go.Sx T4
abbrev cuV (id:Int) (A:Option Addr) (n c:Nat) (ok:Bool):Value:=.agg #[.int .i64 id,.slice A n c,.bool ok]
/-! ## entries found -/
theorem gF_mem:∀ {F:List (Int×Es)} {r:Int} {es:Es},gF F r=some es->∃ p∈F,p.2=es
  | [],r,es,h=>by cases h
  | (x,u)::F,r,es,h=>by
    rw [gF] at h
    split at h
    · exact ⟨(x,u),List.mem_cons_self ..,Option.some.inj h⟩
    · obtain ⟨q,hq,h⟩:=gF_mem h;exact ⟨q,List.mem_cons_of_mem _ hq,h⟩
theorem aftE_in {key:Key} {is:Bool}:∀ {es:Es} {p:Key×Key},aftE key is es=some p->p∈es
  | [],p,h=>by cases h
  | (k,v)::r,p,h=>by
    rw [aftE] at h
    split at h
    · cases h;exact List.mem_cons_self ..
    · exact List.mem_cons_of_mem _ (aftE_in h)
theorem befE_in {key:Key} {is:Bool}:∀ {es:Es} {p:Key×Key},befE key is es=some p->p∈es
  | [],p,h=>by cases h
  | (k,v)::r,p,h=>by
    rw [befE] at h
    split at h
    · cases hx:befE key is r with
      | none=>rw [hx] at h;cases h;exact List.mem_cons_self ..
      | some q=>rw [hx] at h;cases h;exact List.mem_cons_of_mem _ (befE_in hx)
    · cases h
theorem aft_get {es:Es} (hu:UpE es) (key:Key):match aftE key true es with
    | none=>getE key es=none
    | some (k,v)=>if k=key then getE key es=some v else getE key es=none:=by
  induction es with
  | nil=>exact rfl
  | cons x r ih =>
    obtain ⟨k,v⟩:=x
    have hu:Up (k::keysE r):=hu
    obtain ⟨h1,h2⟩:=List.pairwise_cons.1 hu
    rw [aftE,getE]
    by_cases h3:T4.lt k key
    · rw [if_pos h3,if_neg (by rintro (h|⟨_,h⟩);exact lt_asymm h3 h;exact lt_ne h3 h)]
      exact ih h2
    · rw [if_neg h3]
      by_cases h4:k=key
      · rw [if_pos h4,if_pos (.inr ⟨rfl,h4⟩)]
        show if k=key then _ else _
        rw [if_pos h4]
      · rw [if_neg h4,if_pos (.inl ((nlt h3).resolve_left fun e=>h4 e.symm))]
        show if k=key then _ else _
        rw [if_neg h4]
section
variable {w:World} {Ω:Nat->Prop}
theorem EnR.read {x:Option (Key×Key)} {v:Value} (h:EnR Ω w x v):∃ A1 c1 A2 c2,v=.tuple #[.agg #[.slice A1 (x.elim [] fun p=>p.1).length c1,.slice A2 (x.elim [] fun p=>p.2).length c2],.bool x.isSome]/\Imm KB Ω w A1 (x.elim [] fun p=>p.1)/\Imm KB Ω w A2 (x.elim [] fun p=>p.2):=by
  cases x with
  | none=>exact ⟨none,0,none,0,h,Imm.nil KB Ω w none,Imm.nil KB Ω w none⟩
  | some p=>obtain ⟨k,v'⟩:=p;obtain ⟨A1,c1,A2,c2,rfl,_,_,h3,h4⟩:=h;exact ⟨A1,c1,A2,c2,rfl,h3,h4⟩
theorem to_spec (id:Int) (A:Option Addr) (n c:Nat) (ok0:Bool) (XA YA:Option Addr) (xn xc yn yc:Nat) (ok:Bool):CallsV Tryz.prog 96 #[cuV id A n c ok0,.agg #[.slice XA xn xc,.slice YA yn yc],.bool ok] w fun r w'=>r=.tuple #[cuV id XA xn xc ok,.bool ok]/\Ext w w':=by
  refine cardindexref06_Cursor_to.calls okay ?_
  unfold cardindexref06_Cursor_to.W
  intro g w1 f1 g1 w2 f2 g2 w3 f3
  have e3:Ext w w3:=(f1.ext.trans' f2.ext).trans' f3.ext
  have bg:=(f1.blk.ext f2.ext).ext f3.ext
  have b1:=f2.blk.ext f3.ext
  have hg:w.heap.size<=g:=f1.ge
  have hg2:w.heap.size<=g2:=Nat.le_trans (f1.ext.trans' f2.ext).size f3.ge
  have hne:g2≠g:=fun e=>by have:=f1.lt;have:=f2.ext.size;have:=f3.ge;omega
  obtain ⟨p1,p2⟩:=setF bg (o:=1) (by simp) (.slice XA xn xc)
  refine ⟨_,_,_,b1.cell rfl,p1,fun w4 hw4=>?_⟩
  obtain ⟨b4,f4⟩:=p2 w4 hw4
  obtain ⟨q1,q2⟩:=setF b4 (o:=2) (by simp) (.bool ok)
  refine ⟨q1,fun w5 hw5=>?_⟩
  obtain ⟨b5,f5⟩:=q2 w5 hw5
  have e5:Ext w w5:=(e3.trans f4 (fun _ _ h=>h) (fun k hk e=>by have e:k=g:=e;omega)).trans f5 (fun _ _ h=>h) (fun k hk e=>by have e:k=g:=e;omega)
  have b2:=(f3.blk.keep f4 hne).keep f5 hne
  have b5':Blk w5 g [.int .i64 id,.slice XA xn xc,.bool ok]:=b5
  obtain ⟨r1,r2⟩:=fin3 (c0:=.int .i64 id) (c1:=.slice XA xn xc) (c2:=.bool ok) e5 b2 hg2
  refine ⟨_,b5'.cell rfl,_,_,_,b5'.cell rfl,_,b5'.cell rfl,r1,fun w6 hw6=>?_⟩
  obtain ⟨e6,b6⟩:=r2 w6 hw6
  exact ⟨_,b6.cell rfl,_,_,_,b6.cell rfl,_,b6.cell rfl,rfl,e6⟩
def MvR (Ω:Nat->Prop) (w:World) (id:Int) (x:Option (Key×Key)) (r:Value) (w':World):Prop:=∃ A n c ok,r=.tuple #[cuV id A n c ok,.bool x.isSome]/\KeyAt Ω w' (x.map fun p=>p.1) A n ok/\Ext w w'
theorem EnR.keyAt {x:Option (Key×Key)} {v:Value} (h:EnR Ω w x v) (hx:∀ p,x=some p->p.1.length<=1048576):∃ A1 n1 c1 A2 n2 c2,v=.tuple #[.agg #[.slice A1 n1 c1,.slice A2 n2 c2],.bool x.isSome]/\KeyAt Ω w (x.map fun p=>p.1) A1 n1 x.isSome:=by
  cases x with
  | none=>exact ⟨none,0,0,none,0,0,h,rfl⟩
  | some p=>obtain ⟨k,v'⟩:=p;obtain ⟨A1,c1,A2,c2,rfl,_,_,h3,_⟩:=h;exact ⟨A1,_,c1,A2,_,c2,rfl,rfl,rfl,hx _ rfl,h3⟩
theorem putAll3 {u:World} {g:Nat} {b0 b1 b2 c0 c1 c2:Value} (hb:Blk u g [b0,b1,b2]):∀ w',w'=setAll ⟨g,0,none⟩ 0 [c0,c1,c2] u->Fr (fun k=>k=g) u w':=fun w' hw=>by rw [hw];exact Fr.setAll _ _ _
theorem mvTail {u:World} {g2:Nat} {id:Int} {A:Option Addr} {n c:Nat} {ok0:Bool} {x:Option (Key×Key)} {v b0 b1 b2:Value} {S:World->Prop} (h:EnR (fun k=>Ω k\/k=g2) u x v) (hx:∀ p,x=some p->p.1.length<=1048576) (e:Ext w u) (hb:Blk u g2 [b0,b1,b2]) (hg2:w.heap.size<=g2) (hS:S u) :
    ∃ x1 x2 x3 x4 x5 x6 x7,v=.tuple #[.agg #[.slice x1 x2 x3,.slice x4 x5 x6],.bool x7]/\S u/\CallsV Tryz.prog 96 #[.agg #[.int .i64 id,.slice A n c,.bool ok0],.agg #[.slice x1 x2 x3,.slice x4 x5 x6],.bool x7] u fun v w' =>
      ∃ y1 y2 y3 y4 y5 y6,v=.tuple #[.agg #[.int .i64 y1,.slice y2 y3 y4,.bool y5],.bool y6]/\stOK ⟨g2,0,none⟩ 0 [.int .i64 y1,.slice y2 y3 y4,.bool y5] w'/\∀ w2,w2=setAll ⟨g2,0,none⟩ 0 [.int .i64 y1,.slice y2 y3 y4,.bool y5] w' ->
        ∃ z1,w2.cell? ((⟨g2,0,none⟩:Addr).add 0)=some (.int .i64 z1)/\∃ z2 z3 z4,w2.cell? ((⟨g2,0,none⟩:Addr).add 1)=some (.slice z2 z3 z4)/\∃ z5,w2.cell? ((⟨g2,0,none⟩:Addr).add 2)=some (.bool z5)/\MvR Ω w id x (.tuple #[.agg #[.int .i64 z1,.slice z2 z3 z4,.bool z5],.bool y6]) w2:=by
  obtain ⟨A1,n1,c1,A2,n2,c2,rfl,hk⟩:=h.keyAt hx
  refine ⟨_,_,_,_,_,_,_,rfl,hS,(to_spec id A n c ok0 A1 A2 n1 c1 n2 c2 x.isSome).mono ?_⟩
  rintro _ u2 ⟨rfl,e2⟩
  obtain ⟨r1,r2⟩:=fin3 (c0:=.int .i64 id) (c1:=.slice A1 n1 c1) (c2:=.bool x.isSome) (e.trans' e2) (hb.ext e2) hg2
  have p2:=putAll3 (c0:=.int .i64 id) (c1:=.slice A1 n1 c1) (c2:=.bool x.isSome) (hb.ext e2)
  refine ⟨_,_,_,_,_,_,rfl,r1,fun u3 hu3=>?_⟩
  obtain ⟨e3,b3⟩:=r2 u3 hu3
  have f3:=p2 u3 hu3
  refine ⟨_,b3.cell rfl,_,_,_,b3.cell rfl,_,b3.cell rfl,A1,n1,c1,_,rfl,?_,e3⟩
  have hk2:=hk.keep (e2.step _)
  exact hk2.keep (f3.step (fun k _ h=>.inr h) fun k _ h=>.inl h)
theorem mvStay {u:World} {g2:Nat} {id:Int} {A:Option Addr} {n c:Nat} {b0 b1 b2:Value} (e:Ext w u) (hb:Blk u g2 [b0,b1,b2]) (hg2:w.heap.size<=g2) :
    stOK ⟨g2,0,none⟩ 0 [.int .i64 id,.slice A n c,.bool false] u/\∀ w2,w2=setAll ⟨g2,0,none⟩ 0 [.int .i64 id,.slice A n c,.bool false] u ->
        ∃ z1,w2.cell? ((⟨g2,0,none⟩:Addr).add 0)=some (.int .i64 z1)/\∃ z2 z3 z4,w2.cell? ((⟨g2,0,none⟩:Addr).add 1)=some (.slice z2 z3 z4)/\∃ z5,w2.cell? ((⟨g2,0,none⟩:Addr).add 2)=some (.bool z5)/\MvR Ω w id none (.tuple #[.agg #[.int .i64 z1,.slice z2 z3 z4,.bool z5],.bool false]) w2:=by
  obtain ⟨r1,r2⟩:=fin3 (c0:=.int .i64 id) (c1:=.slice A n c) (c2:=.bool false) e hb hg2
  refine ⟨r1,fun u3 hu3=>?_⟩
  obtain ⟨e3,b3⟩:=r2 u3 hu3
  exact ⟨_,b3.cell rfl,_,_,_,b3.cell rfl,_,b3.cell rfl,A,n,c,false,rfl,rfl,e3⟩
def mvX (F:List (Int×Es)) (id:Int) (k:Option Key) (how:Int):Option (Key×Key):=if how=1 then (gF F id).bind (aftE [] true) else if how=2 then (gF F id).bind (fun es=>es.getLast?) else if how=3 then nextX F id k else prevX F id k
theorem bind_len {F:List (Int×Es)} {n:Nat} (hs:Sml F n) {id:Int} {f:Es->Option (Key×Key)} (hf:∀ es p,f es=some p->p∈es):∀ p,(gF F id).bind f=some p->p.1.length<=1048576:=by
  intro p hp
  cases hg:gF F id with
  | none=>rw [hg] at hp;cases hp
  | some es =>
    rw [hg] at hp
    obtain ⟨q,hq,rfl⟩:=gF_mem hg
    exact hs.keys q hq p (hf _ p hp)
variable {TA:Option Addr} {tc:Nat} {F:List (Int×Es)} {la:Int} {n:Nat} {id:Int} {k:Option Key} {A:Option Addr} {nn c:Nat} {ok:Bool}
set_option maxHeartbeats 1000000 in
theorem Move_spec (hT:TrR Ω w TA tc F) (hs:Sml F n) (hn:n<=100000) (hu:∀ es,gF F id=some es->UpE es) (hk:KeyAt Ω w k A nn ok) (how:Int) :
    CallsV Tryz.prog 70 #[cuV id A nn c ok,trV TA tc F la,.int .i64 how] w (MvR Ω w id (mvX F id k how)):=by
  refine cardindexref06_Cursor_Move.calls okay ?_
  unfold cardindexref06_Cursor_Move.W
  intro g w1 f1 g1 w2 f2 g2 w3 f3
  have e3:Ext w w3:=(f1.ext.trans' f2.ext).trans' f3.ext
  have bg:=(f1.blk.ext f2.ext).ext f3.ext
  have b1:=f2.blk.ext f3.ext
  have hg2:w.heap.size<=g2:=Nat.le_trans (f1.ext.trans' f2.ext).size f3.ge
  have stE:∀ {u:World},Ext w u->Step Ω w (fun k=>Ω k\/k=g2) u:=fun e=>⟨e.size,fun k hk _=>e.block k hk fun h=>h,fun k hk h=>h.elim (fun h=>h) fun h=>by omega⟩
  have hlen:∀ {es:Es},gF F id=some es->es.length<=n:=fun h=>by obtain ⟨q,hq,rfl⟩:=gF_mem h;exact hs.es q hq
  have hFl:=hs.len
  refine ⟨_,_,_,b1.cell rfl,_,b1.cell rfl,_,bg.cell rfl,(Find_spec (hT.ext e3).1 (by omega) la id).mono ?_⟩
  rintro _ w4 ⟨i,rfl,hf,e4⟩
  have e04:=e3.trans' e4
  have bg4:=bg.ext e4
  have b14:=b1.ext e4
  have b24:=f3.blk.ext e4
  refine ⟨_,rfl,fun x u=>x=((lenO (gF F id):Nat):Int)/\u=w4,?_,?_⟩
  · rintro _ u ⟨rfl,hu0⟩
    obtain rfl:w4=u:=hu0.symm
    have ed:Ext w4 w4.drew:=Fr.drew NoB w4
    have e0d:=e04.trans' ed
    have hT1:=hT.keep (stE e0d)
    have hlo:lenO (gF F id)<=n:=by
      cases hg:gF F id with
      | none=>exact Nat.zero_le _
      | some es=>exact hlen hg
    refine brd (fun h1=>?_) (fun h1=>brd (fun h2=>?_) (fun h2=>⟨_,bg4.cell rfl,brnb (fun h3=>?_) (fun h3=>?_)⟩))
    · subst h1
      refine ⟨fun z=>Ext w4 z,ed,_,fun z e=>(bg4.ext e).cell rfl,_,_,_,fun z e=>(bg4.ext e).cell rfl,_,fun z e=>(bg4.ext e).cell rfl,_,_,_,fun z e=>(b14.ext e).cell rfl,_,fun z e=>(b14.ext e).cell rfl,(rEntry hT1 hf la 0).mono ?_⟩
      rintro v u ⟨hv,e⟩
      have hx:((gF F id).bind fun es=>if (0:Int)<0 then none else es[(0:Int).toNat]?)=mvX F id k 1:=by
        show _=(gF F id).bind (aftE [] true)
        congr 1;funext es;rw [aft_first];rfl
      rw [hx] at hv
      exact mvTail hv (bind_len hs fun es p h=>aftE_in h) (e0d.trans' e) ((b24.ext ed).ext e) hg2 (ed.trans' e)
    · subst h2
      refine ⟨fun z=>Ext w4 z,ed,_,fun z e=>(bg4.ext e).cell rfl,_,_,_,fun z e=>(bg4.ext e).cell rfl,_,fun z e=>(bg4.ext e).cell rfl,_,_,_,fun z e=>(b14.ext e).cell rfl,_,fun z e=>(b14.ext e).cell rfl,(rEntry hT1 hf la _).mono ?_⟩
      rintro v u ⟨hv,e⟩
      rw [wi _ (by omega) (by omega)] at hv
      have hx:((gF F id).bind fun es=>if ((lenO (gF F id):Nat):Int)-1<0 then none else es[(((lenO (gF F id):Nat):Int)-1).toNat]?)=mvX F id k 2:=by
        show _=(gF F id).bind fun es=>es.getLast?
        cases hg:gF F id with
        | none=>rfl
        | some es =>
          show (if ((es.length:Nat):Int)-1<0 then none else es[(((es.length:Nat):Int)-1).toNat]?)=es.getLast?
          rw [List.getLast?_eq_getElem?]
          by_cases h0:es.length=0
          · rw [if_pos (by omega),List.getElem?_eq_none (by omega)]
          · rw [if_neg (by omega)];congr 1;omega
      rw [hx] at hv
      exact mvTail hv (bind_len hs fun es p h=>List.mem_of_getLast? h) (e0d.trans' e) ((b24.ext ed).ext e) hg2 (ed.trans' e)
    · have hkn:k=none:=by
        cases k with
        | none=>rfl
        | some key=>obtain ⟨h,_⟩:=hk;rw [h] at h3;cases h3
      subst hkn
      have hx:mvX F id none how=none:=by unfold mvX;rw [if_neg h1,if_neg h2];split<;>rfl
      rw [hx]
      subst h3
      exact ⟨_,bg4.cell rfl,_,_,_,bg4.cell rfl,_,bg4.cell rfl,mvStay e04 b24 hg2⟩
    · obtain ⟨key,rfl⟩:∃ key,k=some key:=by
        cases k with
        | none=>have hk:ok=false:=hk;rw [hk] at h3;cases h3
        | some key=>exact ⟨key,rfl⟩
      obtain ⟨rfl,rfl,hkl,iK⟩:=hk
      refine brd (fun h4=>?_) (fun h4=>?_)
      · subst h4
        refine ⟨fun z=>Ext w4 z,ed,_,fun z e=>(bg4.ext e).cell rfl,_,_,_,fun z e=>(bg4.ext e).cell rfl,_,fun z e=>(bg4.ext e).cell rfl,_,_,_,fun z e=>(b14.ext e).cell rfl,_,fun z e=>(b14.ext e).cell rfl,_,_,_,fun z e=>(bg4.ext e).cell rfl,(rAfter hT1 hs hn hf hu la (iK.ext KB_pos e0d) c false).mono ?_⟩
        rintro v u ⟨hv,e⟩
        exact mvTail (x:=mvX F id (some key) 3) hv (bind_len hs fun es p h=>aftE_in h) (e0d.trans' e) ((b24.ext ed).ext e) hg2 (ed.trans' e)
      · have hx:mvX F id (some key) how=(gF F id).bind (befE key false):=by unfold mvX;rw [if_neg h1,if_neg h2,if_neg h4];rfl
        rw [hx]
        refine ⟨fun z=>Ext w4 z,ed,_,fun z e=>(bg4.ext e).cell rfl,_,_,_,fun z e=>(bg4.ext e).cell rfl,_,fun z e=>(bg4.ext e).cell rfl,_,_,_,fun z e=>(b14.ext e).cell rfl,_,fun z e=>(b14.ext e).cell rfl,_,_,_,fun z e=>(bg4.ext e).cell rfl,(rBefore hT1 hs hn hf hu la (iK.ext KB_pos e0d) c false).mono ?_⟩
        rintro v u ⟨hv,e⟩
        exact mvTail hv (bind_len hs fun es p h=>befE_in h) (e0d.trans' e) ((b24.ext ed).ext e) hg2 (ed.trans' e)
  · rcases hf.cases with ⟨rfl,hgn,_⟩|⟨j,es,rfl,hFj,hgs⟩
    · exact brd (fun h=>absurd h (by decide)) fun _=>⟨by rw [hgn];rfl,rfl⟩
    · have hjl:=(List.getElem?_eq_some_iff.1 hFj).1
      obtain ⟨ad,B,cB,hA,_,c1,_,_⟩:=trCell (hT.ext e04).1 hFj
      exact brd (fun _=>⟨_,_,_,b14.cell rfl,ad,hA,⟨by omega,by omega⟩,_,_,_,by rw [Int.toNat_natCast];exact c1,by rw [hgs];rfl,rfl⟩) fun h=>absurd (by omega) h
set_option maxHeartbeats 1000000 in
theorem SeekR_spec (hT:TrR Ω w TA tc F) (hs:Sml F n) (hn:n<=100000) (hu:∀ es,gF F id=some es->UpE es) (how:Int) {Ω2:Nat->Prop} {KA:Option Addr} {key:Key} (iK:Imm KB Ω2 w KA key) (kc:Nat) :
    CallsV Tryz.prog 71 #[cuV id A nn c ok,trV TA tc F la,.int .u8 how,.slice KA key.length kc] w (MvR Ω w id (seekX F id how key)):=by
  refine cardindexref06_Cursor_Seek.calls okay ?_
  unfold cardindexref06_Cursor_Seek.W
  intro g w1 f1 g1 w2 f2 g2 w3 f3
  have e3:Ext w w3:=(f1.ext.trans' f2.ext).trans' f3.ext
  have bg:=(f1.blk.ext f2.ext).ext f3.ext
  have b1:=f2.blk.ext f3.ext
  have hg2:w.heap.size<=g2:=Nat.le_trans (f1.ext.trans' f2.ext).size f3.ge
  have stE:∀ {u:World},Ext w u->Step Ω w (fun k=>Ω k\/k=g2) u:=fun e=>⟨e.size,fun k hk _=>e.block k hk fun h=>h,fun k hk h=>h.elim (fun h=>h) fun h=>by omega⟩
  have hFl:=hs.len
  refine ⟨_,_,_,b1.cell rfl,_,b1.cell rfl,_,bg.cell rfl,(Find_spec (hT.ext e3).1 (by omega) la id).mono ?_⟩
  rintro _ w4 ⟨i,rfl,hf,e4⟩
  have e04:=e3.trans' e4
  have bg4:=bg.ext e4
  have b14:=b1.ext e4
  have b24:=f3.blk.ext e4
  have ed:Ext w4 w4.drew:=Fr.drew NoB w4
  have e0d:=e04.trans' ed
  have hT1:=hT.keep (stE e0d)
  have iKd:=iK.ext KB_pos e0d
  refine ⟨_,rfl,brd (fun h1=>?_) fun h1=>brd (fun h2=>?_) fun h2=>brd (fun h3=>?_) fun h3=>brd (fun h4=>?_) fun h4=>?_⟩
  · subst h1
    refine ⟨fun z=>Ext w4 z,ed,_,fun z e=>(bg4.ext e).cell rfl,_,_,_,fun z e=>(bg4.ext e).cell rfl,_,fun z e=>(bg4.ext e).cell rfl,_,_,_,fun z e=>(b14.ext e).cell rfl,_,fun z e=>(b14.ext e).cell rfl,(rAfter hT1 hs hn hf hu la iKd kc true).mono ?_⟩
    rintro v u ⟨hv,e⟩
    exact mvTail (x:=seekX F id 1 key) hv (bind_len hs fun es p h=>aftE_in h) (e0d.trans' e) ((b24.ext ed).ext e) hg2 (ed.trans' e)
  · subst h2
    refine ⟨fun z=>Ext w4 z,ed,_,fun z e=>(bg4.ext e).cell rfl,_,_,_,fun z e=>(bg4.ext e).cell rfl,_,fun z e=>(bg4.ext e).cell rfl,_,_,_,fun z e=>(b14.ext e).cell rfl,_,fun z e=>(b14.ext e).cell rfl,(rAfter hT1 hs hn hf hu la iKd kc false).mono ?_⟩
    rintro v u ⟨hv,e⟩
    exact mvTail (x:=seekX F id 2 key) hv (bind_len hs fun es p h=>aftE_in h) (e0d.trans' e) ((b24.ext ed).ext e) hg2 (ed.trans' e)
  · subst h3
    refine ⟨fun z=>Ext w4 z,ed,_,fun z e=>(bg4.ext e).cell rfl,_,_,_,fun z e=>(bg4.ext e).cell rfl,_,fun z e=>(bg4.ext e).cell rfl,_,_,_,fun z e=>(b14.ext e).cell rfl,_,fun z e=>(b14.ext e).cell rfl,(rBefore hT1 hs hn hf hu la iKd kc true).mono ?_⟩
    rintro v u ⟨hv,e⟩
    exact mvTail (x:=seekX F id 3 key) hv (bind_len hs fun es p h=>befE_in h) (e0d.trans' e) ((b24.ext ed).ext e) hg2 (ed.trans' e)
  · subst h4
    refine ⟨fun z=>Ext w4 z,ed,_,fun z e=>(bg4.ext e).cell rfl,_,_,_,fun z e=>(bg4.ext e).cell rfl,_,fun z e=>(bg4.ext e).cell rfl,_,_,_,fun z e=>(b14.ext e).cell rfl,_,fun z e=>(b14.ext e).cell rfl,(rBefore hT1 hs hn hf hu la iKd kc false).mono ?_⟩
    rintro v u ⟨hv,e⟩
    exact mvTail (x:=seekX F id 4 key) hv (bind_len hs fun es p h=>befE_in h) (e0d.trans' e) ((b24.ext ed).ext e) hg2 (ed.trans' e)
  · have hx:seekX F id how key=none:=by unfold seekX;rw [if_neg h1,if_neg h2,if_neg h3,if_neg h4]
    rw [hx]
    refine ⟨_,bg4.cell rfl,_,_,_,bg4.cell rfl,_,bg4.cell rfl,(to_spec id A nn c ok none none 0 0 0 0 false).mono ?_⟩
    rintro _ u ⟨rfl,e⟩
    exact ⟨_,_,_,_,_,_,rfl,mvStay (e04.trans' e) (b24.ext e) hg2⟩
end
end Go.Proofs.YthfagbfllheneaaGreat
set_option linter.unusedVariables false
set_option linter.unusedSimpArgs false
namespace Go.Proofs.YthfagbfllheneaaGreat
open Go Go.Sx T4
section
variable {w:World} {Ω:Nat->Prop}
variable {TA:Option Addr} {tc:Nat} {F:List (Int×Es)} {la:Int} {n:Nat} {id:Int} {k:Option Key} {A:Option Addr} {nn c:Nat} {ok:Bool}
theorem atX_none {F:List (Int×Es)} {id:Int} (h:gF F id=none) (k:Option Key):atX F id k=none:=by
  cases k with
  | none=>rfl
  | some key=>show ((gF F id).bind _).map _=none;rw [h];rfl
set_option maxHeartbeats 1000000 in
theorem Entry6_spec (hT:TrR Ω w TA tc F) (hs:Sml F n) (hn:n<=100000) (hu:∀ es,gF F id=some es->UpE es) (hk:KeyAt Ω w k A nn ok) :
    CallsV Tryz.prog 28 #[cuV id A nn c ok,trV TA tc F la] w fun r w'=>EnR Ω w' (atX F id k) r/\Ext w w':=by
  refine cardindexref06_Cursor_Entry.calls okay ?_
  unfold cardindexref06_Cursor_Entry.W
  intro g w1 f1 g1 w2 f2 g2 w3 f3
  have e3:Ext w w3:=(f1.ext.trans' f2.ext).trans' f3.ext
  have bg:=(f1.blk.ext f2.ext).ext f3.ext
  have b1:=f2.blk.ext f3.ext
  have hg2:w.heap.size<=g2:=Nat.le_trans (f1.ext.trans' f2.ext).size f3.ge
  have stE:∀ {u:World},Ext w u->Step Ω w (fun k=>Ω k\/k=g2) u:=fun e=>⟨e.size,fun k hk _=>e.block k hk fun h=>h,fun k hk h=>h.elim (fun h=>h) fun h=>by omega⟩
  have hFl:=hs.len
  refine ⟨_,_,_,b1.cell rfl,_,b1.cell rfl,_,bg.cell rfl,(Find_spec (hT.ext e3).1 (by omega) la id).mono ?_⟩
  rintro _ w4 ⟨i,rfl,hf,e4⟩
  have e04:=e3.trans' e4
  have bg4:=bg.ext e4
  have b14:=b1.ext e4
  have b24:=f3.blk.ext e4
  have no:∀ {u:World} {b0 b1:Value},Ext w u->Blk u g2 [b0,b1]->atX F id k=none->stOK ⟨g2,0,none⟩ 0 [.slice none 0 0,.slice none 0 0] u/\∀ w',w'=setAll ⟨g2,0,none⟩ 0 [.slice none 0 0,.slice none 0 0] u->∃ x x1 x2,w'.cell? ((⟨g2,0,none⟩:Addr).add 0)=some (.slice x x1 x2)/\∃ y y1 y2,w'.cell? ((⟨g2,0,none⟩:Addr).add 1)=some (.slice y y1 y2)/\(fun r w'=>EnR Ω w' (atX F id k) r/\Ext w w') (.tuple #[.agg #[.slice x x1 x2,.slice y y1 y2],.bool false]) w' :=
    fun e hb ha=>finE (b:=false) (K:=fun r w'=>EnR Ω w' (atX F id k) r/\Ext w w') e hb hg2 fun u' e' _=>⟨by rw [ha];rfl,e'⟩
  refine ⟨_,rfl,brd (fun hlt=>?_) (fun hge=>⟨_,bg4.cell rfl,brnb (fun hok=>?_) (fun hok=>?_)⟩)⟩
  · rcases hf.cases with ⟨rfl,hgn,_⟩|⟨j,es,rfl,_,_⟩
    · exact no e04 b24 (atX_none hgn k)
    · omega
  · have hkn:k=none:=by
      cases k with
      | none=>rfl
      | some key=>obtain ⟨h,_⟩:=hk;rw [h] at hok;cases hok
    exact no e04 b24 (by rw [hkn];rfl)
  · obtain ⟨key,rfl⟩:∃ key,k=some key:=by
      cases k with
      | none=>have hk:ok=false:=hk;rw [hk] at hok;cases hok
      | some key=>exact ⟨key,rfl⟩
    obtain ⟨rfl,rfl,hkl,iK⟩:=hk
    rcases hf.cases with ⟨rfl,hgn,_⟩|⟨j,es,rfl,hFj,hgs⟩
    · exact absurd (by decide) hge
    have hT1:=hT.keep (stE e04)
    refine ⟨_,_,_,b14.cell rfl,_,b14.cell rfl,_,_,_,bg4.cell rfl,(rAfter hT1 hs hn hf hu la (iK.ext KB_pos e04) c true).mono ?_⟩
    rintro v u ⟨hv,e⟩
    rw [hgs] at hv
    replace hv:EnR (fun k=>Ω k\/k=g2) u (aftE key true es) v:=hv
    have hget:=aft_get (hu es hgs) key
    have hat:atX F id (some key)=(getE key es).map fun v=>(key,v):=by show ((gF F id).bind _).map _=_;rw [hgs];rfl
    have e0u:=e04.trans' e
    have b2u:=b24.ext e
    have bgu:=bg4.ext e
    cases hx:aftE key true es with
    | none =>
      rw [hx] at hv hget
      have hv:v=.tuple #[.agg #[.slice none 0 0,.slice none 0 0],.bool false]:=hv
      have hget:getE key es=none:=hget
      subst hv
      refine ⟨_,_,_,_,_,_,_,rfl,?_⟩
      intro g3 u3 f3'
      obtain ⟨p1,p2⟩:stOK ⟨g3,0,none⟩ 0 [.slice none 0 0,.slice none 0 0] u3/\∀ w',w'=setAll ⟨g3,0,none⟩ 0 [.slice none 0 0,.slice none 0 0] u3->Ext u w':=⟨f3'.blk.stOK (o:=0) [_,_] 0 (by simp),fun w' hw=>by rw [hw];exact f3'.ext.setAll f3'.ge _ _⟩
      refine ⟨p1,fun u4 hu4=>?_⟩
      have e4':=p2 u4 hu4
      exact brnb (fun _=>no (e0u.trans' e4') (b2u.ext e4') (by rw [hat,hget];rfl)) fun h=>by cases h
    | some p =>
      obtain ⟨k',v'⟩:=p
      rw [hx] at hv hget
      obtain ⟨A1,c1,A2,c2,rfl,l1,l2,i1,i2⟩:=hv
      have hget:if k'=key then getE key es=some v' else getE key es=none:=hget
      refine ⟨_,_,_,_,_,_,_,rfl,?_⟩
      intro g3 u3 f3'
      obtain ⟨p1,p2⟩:stOK ⟨g3,0,none⟩ 0 [.slice A1 k'.length c1,.slice A2 v'.length c2] u3/\∀ w',w'=setAll ⟨g3,0,none⟩ 0 [.slice A1 k'.length c1,.slice A2 v'.length c2] u3->Ext u w'/\Blk w' g3 [.slice A1 k'.length c1,.slice A2 v'.length c2]:=⟨f3'.blk.stOK (o:=0) [_,_] 0 (by simp),fun w' hw=>by rw [hw];exact ⟨f3'.ext.setAll f3'.ge _ _,Blk.setAll (o:=0) [.slice A1 k'.length c1,.slice A2 v'.length c2] 0 f3'.blk⟩⟩
      refine ⟨p1,fun u4 hu4=>?_⟩
      obtain ⟨e4',b34⟩:=p2 u4 hu4
      have e04':=e0u.trans' e4'
      refine brnb (fun h=>by cases h) fun _=>⟨_,_,_,b34.cell rfl,_,_,_,(bgu.ext e4').cell rfl,(Cmp_spec (i1.ext KB_pos e4') (iK.ext KB_pos e04') (.inr (by omega)) _ _).mono ?_⟩
      rintro _ u5 ⟨rfl,e5⟩
      have e05:=e04'.trans' e5
      refine ⟨_,rfl,brn (fun hne=>?_) (fun heq=>?_)⟩
      · rw [if_neg (fun e=>hne (by rw [e];exact cmp_self _))] at hget
        exact no e05 ((b2u.ext e4').ext e5) (by rw [hat,hget];rfl)
      · have hkk:=cmp_zero _ _ heq
        rw [if_pos hkk] at hget
        subst hkk
        refine ⟨_,_,_,(b34.ext e5).cell rfl,_,_,_,(b34.ext e5).cell rfl,?_⟩
        refine finE (b:=true) (K:=fun r w'=>EnR Ω w' (atX F id (some k')) r/\Ext w w') e05 ((b2u.ext e4').ext e5) hg2 fun u' e' f'=>⟨?_,e'⟩
        rw [hat,hget]
        have st:Step (fun k=>Ω k\/k=g2) u5 Ω u':=f'.step (fun k _ h=>.inr h) fun k _ h=>.inl h
        exact ⟨A1,c1,A2,c2,rfl,l1,l2,(i1.ext KB_pos (e4'.trans' e5)).keep KB_pos st,(i2.ext KB_pos (e4'.trans' e5)).keep KB_pos st⟩
end
section
variable {T Ω:Nat->Prop} {u:World} {s g:Nat} {q:Ab} {id:Int} {k:Option Key}
theorem pKey (h:Sto T u s q) (hc:Cur Ω u g s id k):CallsV Tryz.prog 38 #[.pointer (some ⟨g,0,none⟩)] u fun r u'=>Ext u u'/\∃ B c,r=.slice B ((atX (foD q.D) id k).elim [] fun p=>p.1).length c/\Imm KB NoB u' B ((atX (foD q.D) id k).elim [] fun p=>p.1):=by
  refine (cKey h hc).mono ?_
  rintro r u' ⟨e,hr⟩
  refine ⟨e,?_⟩
  cases hx:atX (foD q.D) id k with
  | none=>rw [hx] at hr;have hr:r=.slice none 0 0:=hr;exact ⟨none,0,hr,Imm.nil KB NoB u' none⟩
  | some p=>obtain ⟨key,v⟩:=p;rw [hx] at hr;obtain ⟨B,c,h1,h2,_⟩:=hr;exact ⟨B,c,h1,h2.imm0⟩
theorem pValue (h:Sto T u s q) (hc:Cur Ω u g s id k):CallsV Tryz.prog 39 #[.pointer (some ⟨g,0,none⟩)] u fun r u'=>Ext u u'/\∃ B c,r=.slice B ((atX (foD q.D) id k).elim [] fun p=>p.2).length c/\Imm KB NoB u' B ((atX (foD q.D) id k).elim [] fun p=>p.2):=by
  refine (cValue h hc).mono ?_
  rintro r u' ⟨e,hr⟩
  refine ⟨e,?_⟩
  cases hx:atX (foD q.D) id k with
  | none=>rw [hx] at hr;obtain ⟨c,hr⟩:=hr;exact ⟨none,c,hr,Imm.nil KB NoB u' none⟩
  | some p=>obtain ⟨key,v⟩:=p;rw [hx] at hr;obtain ⟨B,c,h1,h2,_⟩:=hr;exact ⟨B,c,h1,h2.imm0⟩
end
end Go.Proofs.YthfagbfllheneaaGreat
set_option linter.unusedVariables false
set_option linter.unusedSimpArgs false
namespace Go.Proofs.YthfagbfllheneaaGreat
open Go Go.Sx T4
structure Op6 where
  kind:Int
  which:Int
  n:Int
  how:Int
  key:Key
  val:Key
def KOp6:Kd Op6:=⟨6,fun Ω w o cs=>∃ a b,cs=[.int .i64 o.kind,.int .i64 o.which,.int .i64 o.n,.int .u8 o.how,a,b]/\KBs.rep Ω w o.key [a]/\KBs.rep Ω w o.val [b],fun ⟨_,_,h,_⟩=>by simp [h],fun ⟨a,b,h,h1,h2⟩ st=>⟨a,b,h,KBs.keep h1 st,KBs.keep h2 st⟩⟩
structure OpC6 (w:World) (o:Op6) (ad:Addr) (KA:Option Addr) (kc:Nat) (VA:Option Addr) (vc:Nat):Prop where
  c0:w.cell? (ad.add 0)=some (.int .i64 o.kind)
  c1:w.cell? (ad.add 1)=some (.int .i64 o.which)
  c2:w.cell? (ad.add 2)=some (.int .i64 o.n)
  c3:w.cell? (ad.add 3)=some (.int .u8 o.how)
  c4:w.cell? (ad.add 4)=some (.slice KA o.key.length kc)
  c5:w.cell? (ad.add 5)=some (.slice VA o.val.length vc)
  k:Imm KB NoB w KA o.key
  v:Imm KB NoB w VA o.val
theorem OpC6.ext {w w':World} {o:Op6} {ad:Addr} {KA:Option Addr} {kc:Nat} {VA:Option Addr} {vc:Nat} (h:OpC6 w o ad KA kc VA vc) (e:Ext w w'):OpC6 w' o ad KA kc VA vc :=
  ⟨Ext.cell e h.c0,Ext.cell e h.c1,Ext.cell e h.c2,Ext.cell e h.c3,Ext.cell e h.c4,Ext.cell e h.c5,h.k.ext KB_pos e,h.v.ext KB_pos e⟩
theorem opC6 {Ω:Nat->Prop} {w:World} {A:Option Addr} {l:List Op6} (h:Imm KOp6 Ω w A l) {j:Nat} (hj:j<l.length):∃ ad KA kc VA vc,A=some ad/\OpC6 w l[j] (ad.add (j*6)) KA kc VA vc:=by
  obtain ⟨ad,hA,_,cs,⟨a,b,rfl,h1,h2⟩,hc⟩:=h j l[j] (List.getElem?_eq_getElem hj)
  obtain ⟨KA,kc,e1,l1,i1⟩:=h1
  obtain ⟨VA,vc,e2,l2,i2⟩:=h2
  simp at e1 e2
  subst e1;subst e2
  exact ⟨ad,KA,kc,VA,vc,hA,by rw [add_add];exact hc 0 _ rfl,by rw [add_add];exact hc 1 _ rfl,by rw [add_add];exact hc 2 _ rfl,by rw [add_add];exact hc 3 _ rfl,by rw [add_add];exact hc 4 _ rfl,by rw [add_add];exact hc 5 _ rfl,i1.sub KB_pos fun _ _ h=>h.elim,i2.sub KB_pos fun _ _ h=>h.elim⟩
end Go.Proofs.YthfagbfllheneaaGreat
set_option linter.unusedVariables false
set_option linter.unusedSimpArgs false
namespace Go.Proofs.YthfagbfllheneaaGreat
open Go Go.Sx T4
def MvJ (Ω:Nat->Prop) (w:World) (gc g g3 s:Nat) (id:Int) (x y:Bool) (u:World):Prop:=x=y/\∃ k' A' n' c' ok',Blk u g [.int .i64 id,.slice A' n' c',.bool ok']/\(∃ b0 b1 b2,Blk u g3 [b0,b1,b2])/\KeyAt Ω u k' A' n' ok'/\Cur Ω u gc s id k'/\Fr (fun k=>k=gc) w u
def MvP (Ω:Nat->Prop) (w:World) (gc s:Nat) (id:Int) (r:Value) (u:World):Prop:=∃ k' b A' n' c' ok',r=.tuple #[cuV id A' n' c' ok',.bool b,.bool b]/\KeyAt Ω u k' A' n' ok'/\Cur Ω u gc s id k'/\Fr (fun k=>k=gc) w u
section
variable {w:World} {Ω T:Nat->Prop} {s gc:Nat} {q:Ab}
variable {TA:Option Addr} {tc:Nat} {la:Int} {n:Nat} {id:Int} {k:Option Key} {A:Option Addr} {nn c:Nat} {ok:Bool}
set_option maxRecDepth 10000 in
set_option maxHeartbeats 1000000 in
theorem moves_spec (h:Sto T w s q) (hc:Cur Ω w gc s id k) (hΩ:∀ k,Ω k->k<w.heap.size) (hg:Ω gc) (hgT:¬ T gc) (hT:TrR Ω w TA tc (foD q.D)) (hs:Sml (foD q.D) n) (hn:n<=100000) (hk:KeyAt Ω w k A nn ok) (o:Op6) {KA VA:Option Addr} (iK:Imm KB Ω w KA o.key) (kc vc:Nat) :
    CallsV Tryz.prog 36 #[.pointer (some ⟨gc,0,none⟩),cuV id A nn c ok,trV TA tc (foD q.D) la,.agg #[.int .i64 o.kind,.int .i64 o.which,.int .i64 o.n,.int .u8 o.how,.slice KA o.key.length kc,.slice VA o.val.length vc]] w (MvP Ω w gc s id):=by
  refine cardindexlaw06_moves.calls okay ?_
  unfold cardindexlaw06_moves.W
  intro g w1 f1 g1 w2 f2 g2 w3 f3 g3 w4 f4
  have hu:∀ es,gF (foD q.D) id=some es->UpE es:=fun es h'=>h.inv.upD h'
  have hgcl:=hc.lt
  have e4:Ext w w4:=((f1.ext.trans' f2.ext).trans' f3.ext).trans' f4.ext
  have bg:Blk w4 g [.int .i64 id,.slice A nn c,.bool ok]:=((f1.blk.ext f2.ext).ext f3.ext).ext f4.ext
  have b1:=(f2.blk.ext f3.ext).ext f4.ext
  have b2:=f3.blk.ext f4.ext
  have b3:=f4.blk
  have z1:=f1.lt
  have z2:=f2.lt
  have z3:=f3.lt
  have z4:=f4.lt
  have y1:=f1.ge
  have y2:=f2.ge
  have y3:=f3.ge
  have y4:=f4.ge
  have x1:=f1.ext.size
  have x2:=f2.ext.size
  have x3:=f3.ext.size
  have x4:=f4.ext.size
  have hgw:w.heap.size<=g:=y1
  have hg3w:w.heap.size<=g3:=by omega
  have n1:g≠gc:=by omega
  have n2:g1≠gc:=by omega
  have n3:g2≠gc:=by omega
  have n4:g3≠gc:=by omega
  have n5:g≠g3:=by omega
  obtain ⟨Ω4,hΩ4⟩:∃ Ω4:Nat->Prop,Ω4=fun k=>Ω k\/k=g\/k=g3:=⟨_,rfl⟩
  have o1:∀ k,Ω k->Ω4 k:=fun k hk=>by rw [hΩ4];exact .inl hk
  have o2:Ω4 g:=by rw [hΩ4];exact .inr (.inl rfl)
  have o3:Ω4 g3:=by rw [hΩ4];exact .inr (.inr rfl)
  have o4:∀ k,k<w.heap.size->Ω4 k->Ω k:=fun k hk h=>by
    rw [hΩ4] at h
    rcases h with h|h|h
    · exact h
    · omega
    · omega
  have hΩl:∀ k,Ω4 k->k<w4.heap.size:=fun k h=>by
    rw [hΩ4] at h
    rcases h with h|h|h
    · have:=hΩ k h;omega
    · omega
    · omega
  have st4:Step Ω w Ω4 w4:=Fr.step (S:=NoB) e4 (fun _ _ h=>h.elim) o4
  have hc4:Cur Ω4 w4 gc s id k:=hc.fr e4 (fun h=>h) (fun _ _ h=>h.elim) o4
  have h4:=h.ext e4
  have hT4:=hT.keep st4
  have hk4:=hk.keep st4
  have iK4:=iK.keep KB_pos st4
  have hgc4:Ω4 gc:=o1 gc hg
  have tail:∀ {u1 u2:World} {x:Option (Key×Key)} {v:Value},Cur Ω4 u1 gc s id (x.map fun p=>p.1)->Fr (fun k=>k=gc) w4 u1->MvR Ω4 u1 id x v u2 ->
      ∃ y1 y2 y3 y4 y5 y6,v=.tuple #[.agg #[.int .i64 y1,.slice y2 y3 y4,.bool y5],.bool y6]/\stOK ⟨g,0,none⟩ 0 [.int .i64 y1,.slice y2 y3 y4,.bool y5] u2/\∀ w3,w3=setAll ⟨g,0,none⟩ 0 [.int .i64 y1,.slice y2 y3 y4,.bool y5] u2->MvJ Ω4 w gc g g3 s id x.isSome y6 w3:=by
    rintro u1 u2 x _ hC f ⟨A',n',c',ok',rfl,hK,e⟩
    have bg2:Blk u2 g [.int .i64 id,.slice A nn c,.bool ok]:=(bg.keep f n1).ext e
    have b32:=(b3.keep f n4).ext e
    refine ⟨_,_,_,_,_,_,rfl,bg2.stOK (o:=0) [_,_,_] 0 (by simp),fun w5 hw5=>?_⟩
    have b5:Blk w5 g [.int .i64 id,.slice A' n' c',.bool ok']:=by rw [hw5];exact Blk.setAll (o:=0) [.int .i64 id,.slice A' n' c',.bool ok'] 0 bg2
    have f5:=putAll3 bg2 w5 hw5
    have st5:Step Ω4 u2 Ω4 w5:=f5.step (fun k _ e=>by have e:k=g:=e;exact e▸o2) fun _ _ h=>h
    refine ⟨rfl,_,A',n',c',ok',b5,⟨_,_,_,b32.keep f5 n5.symm⟩,hK.keep st5,(hC.ext e).fr f5 (fun e=>n1 e.symm) (fun k _ e=>by have e:k=g:=e;exact e▸o2) (fun _ _ h=>h),?_⟩
    exact ((e4.trans f (S'':=fun k=>k=gc) (fun _ _ h=>h.elim) (fun _ _ h=>h)).trans e (fun _ _ h=>h) (fun _ _ h=>h.elim)).trans f5 (fun _ _ h=>h) (fun k hk e=>by have e:k=g:=e;omega)
  have rd:∀ {u1:World},Fr (fun k=>k=gc) w4 u1->Blk u1 g [.int .i64 id,.slice A nn c,.bool ok]/\Blk u1 g1 [.slice TA (foD q.D).length tc,.int .i64 la]/\Blk u1 g2 [.int .i64 o.kind,.int .i64 o.which,.int .i64 o.n,.int .u8 o.how,.slice KA o.key.length kc,.slice VA o.val.length vc]/\TrR Ω4 u1 TA tc (foD q.D)/\KeyAt Ω4 u1 k A nn ok:=fun f =>
    have st:=f.step (Ω:=Ω4) (Ω':=Ω4) (fun k _ e=>by have e:k=gc:=e;exact e▸hgc4) (fun _ _ h=>h)
    ⟨bg.keep f n1,b1.keep f n2,b2.keep f n3,hT4.keep st,hk4.keep st⟩
  refine ⟨MvJ Ω4 w gc g g3 s id,?_,_,b2.cell rfl,brd (fun _=>?_) fun _=>brd (fun _=>?_) fun _=>⟨fun _ u=>u=w4,?_,brd (fun _=>rfl) fun _=>rfl⟩⟩
  · rintro x _ u ⟨rfl,k',A',n',c',ok',hb,⟨b0,bb1,bb2,hb3⟩,hK,hC,hF⟩
    have f6:=putAll3 (c0:=.int .i64 id) (c1:=.slice A' n' c') (c2:=.bool ok') hb3
    refine ⟨_,hb.cell rfl,_,_,_,hb.cell rfl,_,hb.cell rfl,hb3.stOK (o:=0) [_,_,_] 0 (by simp),fun w6 hw6=>?_⟩
    have b6:Blk w6 g3 [.int .i64 id,.slice A' n' c',.bool ok']:=by rw [hw6];exact Blk.setAll (o:=0) [.int .i64 id,.slice A' n' c',.bool ok'] 0 hb3
    have f6:=f6 w6 hw6
    have st6:Step Ω4 u Ω w6:=f6.step (fun k _ e=>by have e:k=g3:=e;exact e▸o3) fun k _ h=>o1 k h
    exact ⟨_,b6.cell rfl,_,_,_,b6.cell rfl,_,b6.cell rfl,k',x,A',n',c',ok',rfl,hK.keep st6,hC.fr f6 (fun e=>n4 e.symm) (fun k _ e=>by have e:k=g3:=e;exact e▸o3) (fun k _ h=>o1 k h),hF.trans f6 (fun _ _ h=>h) (fun k hk e=>by have e:k=g3:=e;omega)⟩
  · refine (cRewind h4 hc4 hΩl hgc4 hgT).mono ?_
    rintro r u1 ⟨x,hx,rfl,hC,f⟩
    obtain ⟨r1,r2,r3,r4,r5⟩:=rd f
    refine ⟨_,rfl,_,r1.cell rfl,_,_,_,r1.cell rfl,_,r1.cell rfl,_,_,_,r2.cell rfl,_,r2.cell rfl,(Move_spec r4 hs hn hu r5 1).mono ?_⟩
    intro v u2 hM
    exact tail (x:=x) hC f (by rw [hx];exact hM)
  · refine (cLast h4 hc4 hΩl hgc4 hgT).mono ?_
    rintro r u1 ⟨x,hx,rfl,hC,f⟩
    obtain ⟨r1,r2,r3,r4,r5⟩:=rd f
    refine ⟨_,rfl,_,r1.cell rfl,_,_,_,r1.cell rfl,_,r1.cell rfl,_,_,_,r2.cell rfl,_,r2.cell rfl,(Move_spec r4 hs hn hu r5 2).mono ?_⟩
    intro v u2 hM
    exact tail (x:=x) hC f (by rw [hx];exact hM)
  · rintro x u0 hu0
    obtain rfl:w4=u0:=hu0.symm
    refine br (fun _=>?_) fun _=>⟨fun _ u=>u=w4,?_,brd (fun _=>rfl) fun _=>rfl⟩
    · refine (cNext h4 hc4 hΩl hgc4).mono ?_
      rintro r u1 ⟨rfl,hC,f⟩
      obtain ⟨r1,r2,r3,r4,r5⟩:=rd f
      refine ⟨_,rfl,_,r1.cell rfl,_,_,_,r1.cell rfl,_,r1.cell rfl,_,_,_,r2.cell rfl,_,r2.cell rfl,(Move_spec r4 hs hn hu r5 3).mono ?_⟩
      intro v u2 hM
      exact tail (x:=nextX (foD q.D) id k) hC f hM
    rintro x u0 hu0
    obtain rfl:w4=u0:=hu0.symm
    refine br (fun _=>?_) fun _=>⟨fun _ u=>u=w4,?_,brd (fun _=>rfl) fun _=>rfl⟩
    · refine (cPrev h4 hc4 hΩl hgc4).mono ?_
      rintro r u1 ⟨rfl,hC,f⟩
      obtain ⟨r1,r2,r3,r4,r5⟩:=rd f
      refine ⟨_,rfl,_,r1.cell rfl,_,_,_,r1.cell rfl,_,r1.cell rfl,_,_,_,r2.cell rfl,_,r2.cell rfl,(Move_spec r4 hs hn hu r5 4).mono ?_⟩
      intro v u2 hM
      exact tail (x:=prevX (foD q.D) id k) hC f hM
    rintro x u0 hu0
    obtain rfl:w4=u0:=hu0.symm
    refine br (fun _=>?_) fun _=>⟨rfl,k,A,nn,c,ok,bg,⟨_,_,_,b3⟩,hk4,hc4,Fr.mono e4 fun _ _ h=>h.elim⟩
    refine ⟨_,b2.cell rfl,_,_,_,b2.cell rfl,(cSeek h4 hc4 hΩl hgc4 iK4 kc o.how).mono ?_⟩
    rintro r u1 ⟨rfl,hC,f⟩
    obtain ⟨r1,r2,r3,r4,r5⟩:=rd f
    refine ⟨_,rfl,_,r1.cell rfl,_,_,_,r1.cell rfl,_,r1.cell rfl,_,_,_,r2.cell rfl,_,r2.cell rfl,_,r3.cell rfl,_,_,_,r3.cell rfl,(SeekR_spec r4 hs hn hu o.how (iK4.keep KB_pos (f.step (Ω:=Ω4) (Ω':=Ω4) (fun k _ e=>by have e:k=gc:=e;exact e▸hgc4) fun _ _ h=>h)) kc).mono ?_⟩
    intro v u2 hM
    exact tail (x:=seekX (foD q.D) id o.how o.key) hC f hM
end
end Go.Proofs.YthfagbfllheneaaGreat
set_option linter.unusedVariables false
set_option maxRecDepth 100000
namespace Go.Proofs.YthfagbfllheneaaGreat
open Go Go.Sx Value IntKind World Addr Builtin
noncomputable def cardindexlaw06_b.W:ByteArray->World->(Value->World->Prop)->Prop:=fun s w K=>∃ x x_1 x_2 w',RunsTo Tryz.prog (convert 9 30 (string s)) w (slice x x_1 x_2) w'/\K (slice x
 x_1 x_2) w'
theorem cardindexlaw06_b.calls (ok:Okay Tryz.prog) {s w K} (h:cardindexlaw06_b.W s w K):CallsV Tryz.prog 7 #[.string s] w K :=
  fnW_calls ok Tryz.func7 (an:=(.named .auto)) (args:=[.string s]) (Eq.mp (by kernel_rfl) h)
noncomputable def cardindexlaw06_at.W:Option Addr->ByteArray->World->(Value->World->Prop)->Prop:=fun c key w K=>CallsV Tryz.prog 17 #[pointer c] w fun v w'=>∃ x,v=bool x/\bif
 decide (x=!ByteArray.toList key == ByteArray.toList (ByteArray.mk #[])) then CallsV Tryz.prog 38 #[pointer c] w' fun v w'=>∃ x x_1 x_2,v=slice x x_1 x_2/\∃ (x_3:ByteArray) (w'_1 :
 World),RunsTo Tryz.prog (convert 30 9 (slice x x_1 x_2)) w' (string x_3) w'_1/\K (bool (ByteArray.toList x_3 == ByteArray.toList key)) w'_1 else K (bool false) w'
theorem cardindexlaw06_at.calls (ok:Okay Tryz.prog) {c key w K} (h:cardindexlaw06_at.W c key w K):CallsV Tryz.prog 8 #[.pointer c,.string key] w K :=
  fnW_calls ok Tryz.func8 (an:=(.named .auto)) (args:=[.pointer c,.string key]) (Eq.mp (by kernel_rfl) h)
noncomputable def cardindexlaw06_store.W:Option Addr->Nat->Nat->World->(Value->World->Prop)->Prop:=fun keys_A keys_n keys_c w K=>CallsV Tryz.prog 19 #[int i64 4,int i64 100] w fun v w' =>
 ∃ x x_1,v=tuple #[pointer x,int i64 x_1]/\CallsV Tryz.prog 20 #[pointer x] w' fun v w'=>∃ x_2 x_3,v=tuple #[int i64 x_2,int i64 x_3]/\∃ (I:Int->World->Prop) (μ:Int->World->Nat),I 0
 w'/\∀ x_4 w,I x_4 w->bif decide (x_4<(keys_n:Int)) then ∃ ad,keys_A=some ad/\(0<=x_4/\x_4<(keys_n:Int))/\∃ (x_5:ByteArray),cell? w (add ad (Int.toNat x_4*1)) =
 some (string x_5)/\CallsV Tryz.prog 7 #[string x_5] w fun v w'=>∃ x_6 x_7 x_8,v=slice x_6 x_7 x_8/\CallsV Tryz.prog 7 #[string x_5] w' fun v w'=>∃ x_9 x_10 x_11,v=slice x_9 x_10 x_11
 /\ CallsV Tryz.prog 22 #[pointer x,int i64 x_2,slice x_6 x_7 x_8,slice x_9 x_10 x_11] w' fun v w'=>∃ x x_12,v=tuple #[bool x,int i64 x_12]/\I (wrap i64 (x_4+1)) w'/\μ (wrap i64 (x_4+1))
 w'<μ x_4 w else CallsV Tryz.prog 14 #[pointer x,int i64 x_2] w fun v w'=>∃ x_5 x_6,v=tuple #[pointer x_5,int i64 x_6]/\bif decide (x_1=0) then bif decide (x_3=0) then
 bif decide (x_6=0) then K (tuple #[pointer x,pointer x_5,bool (decide (x_2=1))]) w' else K (tuple #[pointer x,pointer x_5,bool false]) w' else K (tuple #[pointer x,
 pointer x_5,bool false]) w' else K (tuple #[pointer x,pointer x_5,bool false]) w'
theorem cardindexlaw06_store.calls (ok:Okay Tryz.prog) {keys_A keys_n keys_c w K} (h:cardindexlaw06_store.W keys_A keys_n keys_c w K):CallsV Tryz.prog 5 #[.slice keys_A keys_n keys_c] w K :=
  fnW_calls ok Tryz.func5 (an:=(.named (.seq .auto (.seq .auto (.seq .auto (.seq (.seq .auto (.block (.loop [(24,.one (.int .i64))] .auto))) .auto)))))) (args:=[.slice keys_A keys_n keys_c]) (Eq.mp (by kernel_rfl) h)
noncomputable def cardindexlaw06_awake.W:World->(Value->World->Prop)->Prop:=fun w K=>∀ g w',Fresh w g w' [string (ByteArray.mk #[(97:UInt8)]),string (ByteArray.mk #[(99:UInt8)])] 9 ->
 CallsV Tryz.prog 5 #[slice (some (mk g 0 none)) 2 2] w' fun v w'=>∃ x x_1 x_2,v=tuple #[pointer x,pointer x_1,bool x_2]/\bif !x_2 then K (bool false) w' else CallsV Tryz.prog
 7 #[string (ByteArray.mk #[(98:UInt8)])] w' fun v w'=>∃ x x_3 x_4,v=slice x x_3 x_4/\CallsV Tryz.prog 6 #[pointer x_1,int u8 1,slice x x_3 x_4] w' fun v w'=>∃ x,v=bool x/\bif !x then K
 (bool false) w' else CallsV Tryz.prog 8 #[pointer x_1,string (ByteArray.mk #[(99:UInt8)])] w' fun v w'=>∃ x,v=bool x/\bif !x then K (bool false) w' else CallsV Tryz.prog 10 #[pointer
 x_1] w' fun v w'=>∃ x,v=bool x/\bif !x then K (bool false) w' else CallsV Tryz.prog 8 #[pointer x_1,string (ByteArray.mk #[(97:UInt8)])] w' fun v w'=>∃ x,v=bool x/\bif !x then K
 (bool false) w' else CallsV Tryz.prog 11 #[pointer x_1] w' fun v w'=>∃ x,v=int i64 x/\bif !decide (x=0) then K (bool false) w' else CallsV Tryz.prog 8 #[pointer x_1,string
 (ByteArray.mk #[])] w' fun v w'=>∃ x,v=bool x/\bif !x then K (bool false) w' else CallsV Tryz.prog 9 #[pointer x_1] w' fun v w'=>∃ x,v=bool x/\bif !x then K (bool false) w' else
 CallsV Tryz.prog 8 #[pointer x_1,string (ByteArray.mk #[(99:UInt8)])] w' fun v w'=>∃ x,v=bool x/\bif !x then K (bool false) w' else CallsV Tryz.prog 7 #[string (ByteArray.mk #[(98 :
 UInt8)])] w' fun v w'=>∃ x x_5 x_6,v=slice x x_5 x_6/\CallsV Tryz.prog 7 #[string (ByteArray.mk #[(49:UInt8)])] w' fun v w'=>∃ x_7 x_8 x_9,v=slice x_7 x_8 x_9/\CallsV Tryz.prog 16
 #[pointer x_1,slice x x_5 x_6,slice x_7 x_8 x_9] w' fun v w'=>∃ x x_10,v=tuple #[bool x,int i64 x_10]/\bif x then K (bool false) w' else bif !decide (x_10=0) then K (bool
 false) w' else CallsV Tryz.prog 8 #[pointer x_1,string (ByteArray.mk #[(98:UInt8)])] w' fun v w'=>∃ x,v=bool x/\bif !x then K (bool false) w' else CallsV Tryz.prog 39 #[pointer x_1]
 w' fun v w'=>∃ x x_11 x_12,v=slice x x_11 x_12/\∃ (x_13:ByteArray) (w'_1:World),RunsTo Tryz.prog (convert 30 9 (slice x x_11 x_12)) w' (string x_13) w'_1/\bif !ByteArray.toList x_13 ==
 ByteArray.toList (ByteArray.mk #[(49:UInt8)]) then K (bool false) w'_1 else CallsV Tryz.prog 9 #[pointer x_1] w'_1 fun v w'=>∃ x,v=bool x/\bif !x then K (bool false) w' else CallsV
 Tryz.prog 8 #[pointer x_1,string (ByteArray.mk #[(99:UInt8)])] w' fun v w'=>∃ x,v=bool x/\bif !x then K (bool false) w' else CallsV Tryz.prog 9 #[pointer x_1] w' fun v w'=>∃ x,v=bool
 x/\bif x then K (bool false) w' else CallsV Tryz.prog 9 #[pointer x_1] w' fun v w'=>∃ x,v=bool x/\bif x then K (bool false) w' else CallsV Tryz.prog 17 #[pointer x_1] w' fun v w'=>∃
 x,v=bool x/\bif x then K (bool false) w' else ∀ g w'_2,Fresh w' g w'_2 [string (ByteArray.mk #[(98:UInt8)])] 9->CallsV Tryz.prog 5 #[slice (some (mk g 0 none)) 1 1] w'_2 fun
 v w'=>∃ x x_14 x_15,v=tuple #[pointer x,pointer x_14,bool x_15]/\CallsV Tryz.prog 31 #[pointer x] w' fun v w'=>∃ x_16 x_17,v=tuple #[int i64 x_16,int i64 x_17]/\CallsV Tryz.prog 7
 #[string (ByteArray.mk #[(98:UInt8)])] w' fun v w'=>∃ x_18 x_19 x_20,v=slice x_18 x_19 x_20/\CallsV Tryz.prog 30 #[pointer x,int i64 1,slice x_18 x_19 x_20] w' fun v w'=>∃ x_21 x_22,v =
 tuple #[bool x_21,int i64 x_22]/\CallsV Tryz.prog 7 #[string (ByteArray.mk #[(97:UInt8)])] w' fun v w'=>∃ x_23 x_24 x_25,v=slice x_23 x_24 x_25/\CallsV Tryz.prog 22 #[pointer x,int i64 1,
 slice x_23 x_24 x_25,slice none 0 0] w' fun v w'=>∃ x_26 x_27,v=tuple #[bool x_26,int i64 x_27]/\bif x_15 then CallsV Tryz.prog 13 #[pointer x_14] w' fun v w'=>∃ x_28,v=bool x_28 /\
 bif x_28 then CallsV Tryz.prog 8 #[pointer x_14,string (ByteArray.mk #[(97:UInt8)])] w' fun v w'=>∃ x_29,v=bool x_29/\bif x_29 then CallsV Tryz.prog 33 #[pointer x,int i64 1] w' fun v w'=>∃
 x,v=int i64 x/\bif decide (x=0) then CallsV Tryz.prog 8 #[pointer x_14,string (ByteArray.mk #[])] w' fun v w'=>∃ x,v=bool x/\bif x then CallsV Tryz.prog 9 #[pointer x_14] w' fun
 v w'=>∃ x,v=bool x/\bif x then CallsV Tryz.prog 8 #[pointer x_14,string (ByteArray.mk #[(98:UInt8)])] w' fun v w'=>∃ x,v=bool x/\K (bool x) w' else K (bool false) w' else K (bool
 false) w' else K (bool false) w' else K (bool false) w' else K (bool false) w' else K (bool false) w'
theorem cardindexlaw06_awake.calls (ok:Okay Tryz.prog)  {w:World} {K:Value->World->Prop} (h:cardindexlaw06_awake.W  w K):CallsV Tryz.prog 18 #[] w K :=
  fnW_calls ok Tryz.func18 (an:=(.named .auto)) (args:=[]) (Eq.mp (by kernel_rfl) h)
end Go.Proofs.YthfagbfllheneaaGreat
set_option linter.unusedVariables false
set_option linter.unusedSimpArgs false
namespace Go.Proofs.YthfagbfllheneaaGreat
open Go Go.Sx T4
theorem b6 (w:World) (l:List UInt8) (hl:l.length<=1048576):CallsV Tryz.prog 7 #[.string ⟨l.toArray⟩] w fun r w'=>∃ A c,r=.slice A l.length c/\OwnB w' A c l/\Ext w w'/\New w A:=by
  refine cardindexlaw06_b.calls okay ?_
  unfold cardindexlaw06_b.W
  obtain ⟨A,c,w',h1,h2,h3,h4,_⟩:=to_bytes bt w ⟨l.toArray⟩ (by show l.toArray.size<=maxLen;simp [maxLen];omega)
  have e:sb ⟨l.toArray⟩=l:=rfl
  rw [e] at h1 h2
  exact ⟨_,_,_,_,h1,A,c,rfl,h2,h3,h4⟩
structure Cu (w u:World) (T:Nat->Prop) (s g:Nat) (A:Ar) (D:List Tr) (ms:List (Ar×List Tr)) (k:Option Key) (F:List (Int×Es)):Prop where
  sto:Sto T u s ⟨A,D,ms⟩
  cur:Cur (OC T fun k=>k=g) u g s 1 k
  gT:¬ T g
  e:Ext w u
  n:∀ k,T k->w.heap.size<=k
  gw:w.heap.size<=g
  fo:foD D=F
  m:A.most=100
section
variable {w u:World} {T:Nat->Prop} {s g:Nat} {A:Ar} {D:List Tr} {ms:List (Ar×List Tr)} {k:Option Key} {F:List (Int×Es)}
theorem Cu.lt (H:Cu w u T s g A D ms k F):∀ k,OC T (fun k=>k=g) k->k<u.heap.size:=by
  rintro k (hk|rfl)
  · exact H.sto.lt k hk
  · exact H.cur.lt
theorem Cu.ext (H:Cu w u T s g A D ms k F) {u':World} (e:Ext u u'):Cu w u' T s g A D ms k F:=⟨H.sto.ext e,H.cur.ext e,H.gT,H.e.trans' e,H.n,H.gw,H.fo,H.m⟩
theorem Cu.moved (H:Cu w u T s g A D ms k F) {u':World} {k':Option Key} (hc:Cur (OC T fun k=>k=g) u' g s 1 k') (f:Fr (fun k=>k=g) u u'):Cu w u' T s g A D ms k' F :=
  ⟨H.sto.frame f fun k _ e ht=>H.gT (by have e:k=g:=e;exact e▸ht),hc,H.gT,H.e.trans f (fun _ _ h=>h) (fun k hk e=>by have e:k=g:=e;have:=H.gw;omega),H.n,H.gw,H.fo,H.m⟩
theorem Cu.tch (H:Cu w u T s g A D ms k F) {u':World} {T':Nat->Prop} {A':Ar} {D':List Tr} {ms':List (Ar×List Tr)} {F':List (Int×Es)} (h':Sto T' u' s ⟨A',D',ms'⟩) (c:Tch T u T' u') (hF:foD D'=F') (hm:A'.most=100):Cu w u' T' s g A' D' ms' k F':=by
  obtain ⟨e',n'⟩:=c.keepExt H.e H.n
  obtain ⟨_,_,_,_,hb,_⟩:=H.cur
  exact ⟨h',H.cur.tch c H.gT,(c.blk hb H.gT).2,e',n',H.gw,hF,hm⟩
theorem aT (H:Cu w u T s g A D ms k F) {key v:Key} (hx:atX F 1 k=some (key,v)) (hn:key≠[]):CallsV Tryz.prog 8 #[.pointer (some ⟨g,0,none⟩),.string ⟨key.toArray⟩] u fun r u'=>r=.bool true/\Ext u u':=by
  refine cardindexlaw06_at.calls okay ?_
  unfold cardindexlaw06_at.W
  have hX:atX (foD D) 1 k=some (key,v):=by rw [H.fo];exact hx
  have e0:(ByteArray.toList ⟨key.toArray⟩ == ByteArray.toList (ByteArray.mk #[]))=decide (key=[]):=eq_str key []
  refine (cValid H.sto H.cur).mono ?_
  rintro _ u1 ⟨rfl,e1⟩
  have H1:=H.ext e1
  refine ⟨_,rfl,brd (fun _=>(cKey H1.sto H1.cur).mono ?_) fun h=>absurd ?_ h⟩
  · rintro r u2 ⟨e2,hr⟩
    replace hr:match atX (foD D) 1 k with
      | none=>r=.slice none 0 0
      | some (key,_)=>∃ A c,r=.slice A key.length c/\OwnB u2 A c key/\New u1 A:=hr
    rw [hX] at hr
    obtain ⟨B,d,rfl,o2,_⟩:=hr
    exact ⟨_,_,_,rfl,_,_,to_str bt o2.imm0 d,by rw [eq_str,decide_eq_true rfl],e1.trans' e2⟩
  · show (atX (foD D) 1 k).isSome=_
    rw [hX,e0,decide_eq_false hn];rfl
theorem aN (H:Cu w u T s g A D ms k F) (hx:atX F 1 k=none):CallsV Tryz.prog 8 #[.pointer (some ⟨g,0,none⟩),.string ⟨([]:Key).toArray⟩] u fun r u'=>r=.bool true/\Ext u u':=by
  refine cardindexlaw06_at.calls okay ?_
  unfold cardindexlaw06_at.W
  have hX:atX (foD D) 1 k=none:=by rw [H.fo];exact hx
  have e0:(ByteArray.toList ⟨([]:Key).toArray⟩ == ByteArray.toList (ByteArray.mk #[]))=decide (([]:Key)=[]):=eq_str [] []
  refine (cValid H.sto H.cur).mono ?_
  rintro _ u1 ⟨rfl,e1⟩
  have H1:=H.ext e1
  refine ⟨_,rfl,brd (fun _=>(cKey H1.sto H1.cur).mono ?_) fun h=>absurd ?_ h⟩
  · rintro r u2 ⟨e2,hr⟩
    replace hr:match atX (foD D) 1 k with
      | none=>r=.slice none 0 0
      | some (key,_)=>∃ A c,r=.slice A key.length c/\OwnB u2 A c key/\New u1 A:=hr
    rw [hX] at hr
    obtain rfl:r=.slice none 0 0:=hr
    exact ⟨_,_,_,rfl,_,_,to_str bt (l:=[]) (Imm.nil KB NoB u2 none) 0,by rw [eq_str,decide_eq_true rfl],e1.trans' e2⟩
  · show (atX (foD D) 1 k).isSome=_
    rw [hX,e0];rfl
end
def putsE (l:List Key):Es:=l.foldl (fun es k=>insE k k es) []
theorem putsE_len (l:List Key):(putsE l).length<=l.length:=by
  have:∀ (l:List Key) (es:Es),(l.foldl (fun es k=>insE k k es) es).length<=es.length+l.length:=by
    intro l
    induction l with
    | nil=>intro es;simp
    | cons a l ih =>
      intro es
      have h1:=ih (insE a a es)
      have h2:(insE a a es).length<=es.length+1:=by rw [len_insE];split<;>omega
      simp only [List.foldl_cons,List.length_cons]
      omega
  simpa [putsE] using this l []
theorem store_spec {w:World} {B:Option Addr} {c:Nat} {l:List Key} (h:∀ i k,l[i]?=some k->∃ ad,B=some ad/\w.cell? (ad.add (i*1))=some (.string ⟨k.toArray⟩)) (hl:l.length<=10) (hk:∀ k∈l,k.length<=100) :
    CallsV Tryz.prog 5 #[.slice B l.length c] w fun r w'=>∃ s g T A D,r=.tuple #[.pointer (some ⟨s,0,none⟩),.pointer (some ⟨g,0,none⟩),.bool true]/\Cu w w' T s g A D [] none [(1,putsE l)]:=by
  refine cardindexlaw06_store.calls okay ?_
  unfold cardindexlaw06_store.W
  refine (aNew w 4 100 (by decide) (by decide) (by decide) (by decide)).mono ?_
  rintro _ u0 ⟨s,T0,rfl,h0,e0,t0⟩
  refine ⟨_,_,rfl,(kCreate h0 (by decide) (by decide) (by decide)).mono ?_⟩
  rintro _ u1 ⟨rfl,A1,D1,T1,h1,c1,f1,m1,l1,F1⟩
  obtain ⟨x1,t1⟩:=c1.keepExt e0 t0
  replace F1:foD D1=[(1,[])]:=F1
  replace m1:A1.most=100:=m1
  refine ⟨_,_,rfl,fun x v=>∃ j:Nat,x=(j:Int)/\j<=l.length/\∃ T A D,Sto T v s ⟨A,D,[]⟩/\Ext w v/\(∀ k,T k->w.heap.size<=k)/\foD D=[(1,putsE (l.take j))]/\A.most=100,fun x _=>(l.length-x).toNat,⟨0,rfl,Nat.zero_le _,T1,A1,D1,h1,x1,t1,F1,m1⟩,?_⟩
  clear h0 e0 t0 h1 c1 f1 m1 l1 F1 x1 t1
  rintro _ v ⟨j,rfl,hj,T,A,D,hs,e,n,hF,hm⟩
  refine brd (fun hlt=>?_) (fun hge=>?_)
  · have hjl:j<l.length:=by omega
    have hx:l[j]?=some l[j]:=List.getElem?_eq_getElem hjl
    obtain ⟨ad,hB,hc⟩:=h j _ hx
    have hkl:=hk l[j] (List.getElem_mem hjl)
    have htk:l.take (j+1)=l.take j++[l[j]]:=by rw [List.take_add_one,hx];rfl
    generalize l[j]=key at *
    refine ⟨ad,hB,⟨by omega,by omega⟩,_,by rw [Int.toNat_natCast];exact Ext.cell e hc,(b6 v key (by omega)).mono ?_⟩
    rintro _ v1 ⟨KA,kc,rfl,o1,e1,_⟩
    refine ⟨_,_,_,rfl,(b6 v1 key (by omega)).mono ?_⟩
    rintro _ v2 ⟨VA,vc,rfl,o2,e2,_⟩
    have e12:=e1.trans' e2
    have hlen:=putsE_len (l.take j)
    rw [List.length_take] at hlen
    refine ⟨_,_,_,rfl,(kPut (hs.ext e12) (id:=1) (es:=putsE (l.take j)) (by rw [hF];rfl) (by rw [hF,hm];simp [sizeF];omega) (by omega) (by omega) (o1.ext e2).imm0 o2.imm0 kc vc).mono ?_⟩
    rintro _ v3 ⟨rfl,A',D',T',h',c',hs',hF'⟩
    obtain ⟨e3,n3⟩:=((Tch.ext e12).trans c').keepExt e n
    rw [wi _ (by omega) (by omega)]
    refine ⟨_,_,rfl,⟨j+1,by omega,by omega,T',A',D',h',e3,n3,?_,hs'.most.trans hm⟩,by dsimp only;omega⟩
    rw [hF',hF,htk]
    simp [upF,putsE,List.foldl_append]
  · obtain rfl:j=l.length:=by omega
    rw [List.take_of_length_le (Nat.le_refl _)] at hF
    refine (cNew hs 1).mono ?_
    have hid:idsD D=[1]:=by
      have:(foD D).map (fun p=>p.1)=[1]:=by rw [hF];rfl
      rw [<- this];simp [foD,fo,idsD]
    rintro r v1 ⟨e1,⟨_,g,rfl,hg,hc⟩|⟨hno,_⟩⟩
    · refine ⟨_,_,rfl,brd (fun _=>brd (fun _=>brd (fun _=>⟨s,g,T,A,D,rfl,⟨hs.ext e1,hc _,fun ht=>?_,e.trans' e1,n,Nat.le_trans e.size hg,hF,hm⟩⟩) fun h=>absurd rfl h) fun h=>absurd rfl h) fun h=>absurd rfl h⟩
      have:=hs.lt g ht;omega
    · exact absurd (by show (1:Int)∈idsD D;rw [hid];simp) hno
end Go.Proofs.YthfagbfllheneaaGreat
set_option linter.unusedVariables false
set_option linter.unusedSimpArgs false
namespace Go.Proofs.YthfagbfllheneaaGreat
open Go Go.Sx T4
theorem PutRel.room {A A':Ar} {D D':List Tr} {id:Int} {key val:Key} {was:Bool} {e:Int} (rel:PutRel A D id key val A' D' was e) (hI:Inv A D) {es:Es} (hg:gF (foD D) id=some es) (hroom:2*sizeF (foD D)+1<=A.most):was=inE key es/\e=0/\foD D'=upF (foD D) id (insE key val es):=by
  rcases rel.rel with ⟨h1,_⟩|⟨D1,d,D2,d',full,hD,hr,rfl,hr',rfl,rfl,hfu,hno⟩
  · rw [hg] at h1;cases h1
  · rw [hD] at hI
    have hes:d.es=es:=by
      have:gF (foD D) id=some d.es:=by
        rw [hD,<- hr]
        exact gF_nd hI.ndF (k:=D1.length) (by simp [foD,fo])
      rw [hg] at this;exact (Option.some.inj this).symm
    have:full=false:=by
      cases full with
      | false=>rfl
      | true=>have h1:=(hfu rfl).2.2.2;have:=nodes_size hI;have:=tree_low hI;rw [<- hD] at *;omega
    subst this
    refine ⟨by rw [hes];simp,rfl,?_⟩
    rw [fo_up hI.nd hr',hno rfl,hr,hes,<- hD]
theorem DelRel.look {A A':Ar} {D D':List Tr} {id:Int} {key:Key} {was:Bool} {e:Int} (rel:DelRel A D id key A' D' was e) (hI:Inv A D) {es:Es} (hg:gF (foD D) id=some es):was=inE key es/\e=0/\foD D'=upF (foD D) id (delE key es):=by
  rcases rel.rel with ⟨h1,_⟩|⟨D1,d,D2,d',hD,hr,rfl,hr',rfl,rfl,he⟩
  · rw [hg] at h1;cases h1
  · rw [hD] at hI
    have hes:d.es=es:=by
      have:gF (foD D) id=some d.es:=by
        rw [hD,<- hr]
        exact gF_nd hI.ndF (k:=D1.length) (by simp [foD,fo])
      rw [hg] at this;exact (Option.some.inj this).symm
    refine ⟨by rw [hes],rfl,?_⟩
    rw [fo_up hI.nd hr',he,hr,hes,<- hD]
section
variable {w u:World} {T:Nat->Prop} {s g:Nat} {A:Ar} {D:List Tr} {ms:List (Ar×List Tr)} {k:Option Key} {F:List (Int×Es)}
theorem uNext (H:Cu w u T s g A D ms k F) {x:Option (Key×Key)} (hx:nextX F 1 k=x):CallsV Tryz.prog 9 #[.pointer (some ⟨g,0,none⟩)] u fun r u'=>r=.bool x.isSome/\Cu w u' T s g A D ms (x.map fun p=>p.1) F:=by
  refine (cNext H.sto H.cur H.lt (.inr rfl)).mono ?_
  rintro r u' ⟨hr,hc,f⟩
  have e:nextX (foD D) 1 k=x:=by rw [H.fo];exact hx
  replace hr:r=.bool (nextX (foD D) 1 k).isSome:=hr
  replace hc:Cur (OC T fun k=>k=g) u' g s 1 ((nextX (foD D) 1 k).map fun p=>p.1):=hc
  rw [e] at hr hc
  exact ⟨hr,H.moved hc f⟩
theorem uPrev (H:Cu w u T s g A D ms k F) {x:Option (Key×Key)} (hx:prevX F 1 k=x):CallsV Tryz.prog 10 #[.pointer (some ⟨g,0,none⟩)] u fun r u'=>r=.bool x.isSome/\Cu w u' T s g A D ms (x.map fun p=>p.1) F:=by
  refine (cPrev H.sto H.cur H.lt (.inr rfl)).mono ?_
  rintro r u' ⟨hr,hc,f⟩
  have e:prevX (foD D) 1 k=x:=by rw [H.fo];exact hx
  replace hr:r=.bool (prevX (foD D) 1 k).isSome:=hr
  replace hc:Cur (OC T fun k=>k=g) u' g s 1 ((prevX (foD D) 1 k).map fun p=>p.1):=hc
  rw [e] at hr hc
  exact ⟨hr,H.moved hc f⟩
theorem uSeek (H:Cu w u T s g A D ms k F) {x:Option (Key×Key)} {how:Int} {key:Key} (hx:seekX F 1 how key=x) {Ω1:Nat->Prop} {KA:Option Addr} (iK:Imm KB Ω1 u KA key) (kc:Nat):CallsV Tryz.prog 6 #[.pointer (some ⟨g,0,none⟩),.int .u8 how,.slice KA key.length kc] u fun r u'=>r=.bool x.isSome/\Cu w u' T s g A D ms (x.map fun p=>p.1) F:=by
  refine (cSeek H.sto H.cur H.lt (.inr rfl) iK kc how).mono ?_
  rintro r u' ⟨hr,hc,f⟩
  have e:seekX (foD D) 1 how key=x:=by rw [H.fo];exact hx
  replace hr:r=.bool (seekX (foD D) 1 how key).isSome:=hr
  replace hc:Cur (OC T fun k=>k=g) u' g s 1 ((seekX (foD D) 1 how key).map fun p=>p.1):=hc
  rw [e] at hr hc
  exact ⟨hr,H.moved hc f⟩
theorem uRewind (H:Cu w u T s g A D ms k F) {x:Option (Key×Key)} (hx:(gF F 1).bind (aftE [] true)=x):CallsV Tryz.prog 13 #[.pointer (some ⟨g,0,none⟩)] u fun r u'=>r=.bool x.isSome/\Cu w u' T s g A D ms (x.map fun p=>p.1) F:=by
  refine (cRewind H.sto H.cur H.lt (.inr rfl) H.gT).mono ?_
  rintro r u' ⟨y,hy,hr,hc,f⟩
  have e:y=x:=by rw [hy];show (gF (foD D) 1).bind _=x;rw [H.fo];exact hx
  subst e
  exact ⟨hr,H.moved hc f⟩
theorem uDelete (H:Cu w u T s g A D ms k F) {key v:Key} {es:Es} (hk:atX F 1 k=some (key,v)) (hg:gF F 1=some es) (hid:1∈idsD D):CallsV Tryz.prog 11 #[.pointer (some ⟨g,0,none⟩)] u fun r u'=>r=.int .i64 0/\∃ T' A' D',Cu w u' T' s g A' D' ms k (upF F 1 (delE key es))/\idsD D'=idsD D:=by
  refine (cDelete H.sto H.cur).mono ?_
  rintro r u' (⟨h1,_⟩|⟨_,h1,_⟩|⟨_,key',v',A',D',was,e,T',hk1,hat,rel,hr,h',c⟩)
  · exact absurd hid h1
  · rw [H.fo,hk] at h1;cases h1
  · rw [H.fo,hk] at hat
    obtain ⟨rfl,rfl⟩:key=key'/\v=v':=by have:=Option.some.inj hat;exact ⟨(Prod.mk.inj this).1,(Prod.mk.inj this).2⟩
    obtain ⟨_,rfl,hF⟩:=rel.look H.sto.inv (es:=es) (by rw [H.fo];exact hg)
    exact ⟨hr,T',A',D',H.tch h' c (by rw [hF,H.fo]) (rel.same.most.trans H.m),rel.ids⟩
theorem uInsert (H:Cu w u T s g A D ms k F) {key val:Key} {es:Es} (hg:gF F 1=some es) (hroom:2*sizeF F+1<=100) (hk:key.length<=1048576) (hv:val.length<=1048576) {KA VA:Option Addr} (iK:Imm KB T u KA key) (iV:Imm KB NoB u VA val) (kc vc:Nat):CallsV Tryz.prog 16 #[.pointer (some ⟨g,0,none⟩),.slice KA key.length kc,.slice VA val.length vc] u fun r u'=>r=.tuple #[.bool (inE key es),.int .i64 0]/\∃ T' A' D',Cu w u' T' s g A' D' ms (some key) (upF F 1 (insE key val es))/\idsD D'=idsD D:=by
  obtain ⟨A',D',was,e,rel,hP⟩:=cInsert (A:=A) (D:=D) H.sto.inv 1 (key:=key) (val:=val) hk hv
  refine (hP H.sto H.cur H.gT rfl (fun k e=>by have e:k=g:=e;rw [e];exact H.cur.lt) iK iV (fun _ h=>h) kc vc).mono ?_
  rintro r u' ⟨hr,T',v,h',c,f,hc⟩
  obtain ⟨rfl,rfl,hF⟩:=rel.room H.sto.inv (es:=es) (by rw [H.fo];exact hg) (by rw [H.fo,H.m];exact hroom)
  obtain ⟨e1,n1⟩:=c.keepExt H.e H.n
  obtain ⟨_,_,_,_,hb,_⟩:=H.cur
  exact ⟨hr,T',A',D',⟨h',hc,(c.blk hb H.gT).2,e1.trans f (fun _ _ h=>h) (fun k hk e=>by have e:k=g:=e;have:=H.gw;omega),n1,H.gw,by rw [hF,H.fo],rel.same.most.trans H.m⟩,rel.ids⟩
end
end Go.Proofs.YthfagbfllheneaaGreat
set_option linter.unusedVariables false
set_option linter.unusedSimpArgs false
namespace Go.Proofs.YthfagbfllheneaaGreat
open Go Go.Sx T4
def msR6 (ms:List (Ar×List Tr)):List (List (Int×Es)×Int):=ms.map fun p=>(foD p.2,(p.1.last:Int))
theorem msR6_len (ms:List (Ar×List Tr)):(msR6 ms).length=ms.length:=by simp [msR6]
theorem msR6_take (ms:List (Ar×List Tr)) (k:Nat):msR6 (ms.take k)=(msR6 ms).take k:=by simp [msR6,List.map_take]
structure S6 (w u:World) (T X:Nat->Prop) (s gt:Nat) (A:Ar) (D:List Tr) (ms:List (Ar×List Tr)) (TA:Option Addr) (tc:Nat) (F:List (Int×Es)) (la:Int) (MA:Option Addr) (mc:Nat) (Ms:List (List (Int×Es)×Int)) (n:Nat):Prop where
  sto:Sto T u s ⟨A,D,ms⟩
  e:Ext w u
  new:∀ k,T k->w.heap.size<=k
  bt:Blk u gt [.slice TA F.length tc,.int .i64 la,.slice MA Ms.length mc]
  xt:X gt
  xT:∀ k,X k->¬ T k
  xw:∀ k,X k->w.heap.size<=k
  xl:∀ k,X k->k<u.heap.size
  tr:StR (OC T X) u TA tc F MA mc Ms
  sml:Sml F n
  last:A.last<=n
  msm:∀ p∈ms,Sml (foD p.2) n/\p.1.last<=n
  most:A.most=65536
section
variable {w u:World} {T X:Nat->Prop} {s gt:Nat} {A:Ar} {D:List Tr} {ms:List (Ar×List Tr)} {TA:Option Addr} {tc:Nat} {F:List (Int×Es)} {la:Int} {MA:Option Addr} {mc:Nat} {Ms:List (List (Int×Es)×Int)} {n:Nat}
theorem S6.lt (h:S6 w u T X s gt A D ms TA tc F la MA mc Ms n):∀ k,OC T X k->k<u.heap.size:=fun k hk=>hk.elim (h.sto.lt k) (h.xl k)
theorem S6.ge (h:S6 w u T X s gt A D ms TA tc F la MA mc Ms n):∀ k,OC T X k->w.heap.size<=k:=fun k hk=>hk.elim (h.new k) (h.xw k)
theorem S6.ext (h:S6 w u T X s gt A D ms TA tc F la MA mc Ms n) {u':World} (e:Ext u u'):S6 w u' T X s gt A D ms TA tc F la MA mc Ms n :=
  ⟨h.sto.ext e,h.e.trans' e,h.new,h.bt.ext e,h.xt,h.xT,h.xw,fun k hk=>Nat.lt_of_lt_of_le (h.xl k hk) e.size,h.tr.ext e,h.sml,h.last,h.msm,h.most⟩
theorem S6.mono (h:S6 w u T X s gt A D ms TA tc F la MA mc Ms n) {m:Nat} (hm:n<=m):S6 w u T X s gt A D ms TA tc F la MA mc Ms m :=
  ⟨h.sto,h.e,h.new,h.bt,h.xt,h.xT,h.xw,h.xl,h.tr,h.sml.mono hm,Nat.le_trans h.last hm,fun p hp=>⟨(h.msm p hp).1.mono hm,Nat.le_trans (h.msm p hp).2 hm⟩,h.most⟩
theorem S6.add (h:S6 w u T X s gt A D ms TA tc F la MA mc Ms n) {u':World} (e:Ext u u') {g:Nat} (hg:u.heap.size<=g) (hl:g<u'.heap.size):S6 w u' T (fun k=>X k\/k=g) s gt A D ms TA tc F la MA mc Ms n:=by
  have he:=h.e.size
  have st:Step (OC T X) u (OC T fun k=>X k\/k=g) u':=Fr.step (S:=NoB) e (fun _ _ h=>h.elim) fun k hk h=>h.elim .inl fun h=>h.elim .inr fun h=>by omega
  exact ⟨h.sto.ext e,h.e.trans' e,h.new,h.bt.ext e,.inl h.xt,fun k hk=>hk.elim (h.xT k) fun e ht=>by have:=h.sto.lt k ht;omega,fun k hk=>hk.elim (h.xw k) fun e=>by omega,fun k hk=>hk.elim (fun hk=>Nat.lt_of_lt_of_le (h.xl k hk) e.size) fun e=>by omega,⟨h.tr.t.keep st,h.tr.m.keep KTs_pos st,h.tr.c⟩,h.sml,h.last,h.msm,h.most⟩
theorem S6.wr (h:S6 w u T X s gt A D ms TA tc F la MA mc Ms n) {u':World} {g:Nat} (f:Fr (fun k=>k=g) u u') (hg:X g) (hne:gt≠g):S6 w u' T X s gt A D ms TA tc F la MA mc Ms n:=by
  have st:Step (OC T X) u (OC T X) u':=f.step (fun k _ e=>by have e:k=g:=e;exact .inr (e▸hg)) fun _ _ h=>h
  exact ⟨h.sto.frame f fun k _ e ht=>h.xT g hg (by have e:k=g:=e;exact e▸ht),h.e.trans f (fun _ _ h=>h) (fun k hk e=>by have e:k=g:=e;have:=h.xw g hg;omega),h.new,h.bt.keep f hne,h.xt,h.xT,h.xw,fun k hk=>Nat.lt_of_lt_of_le (h.xl k hk) f.size,⟨h.tr.t.keep st,h.tr.m.keep KTs_pos st,h.tr.c⟩,h.sml,h.last,h.msm,h.most⟩
theorem S6.chg (h:S6 w u T X s gt A D ms TA tc F la MA mc Ms n) {u':World} {T':Nat->Prop} {A':Ar} {D':List Tr} {ms':List (Ar×List Tr)} (h':Sto T' u' s ⟨A',D',ms'⟩) (c:Tch T u T' u') (h3:A'.last<=n) (h4:∀ p∈ms',Sml (foD p.2) n/\p.1.last<=n) (h5:A'.most=65536):S6 w u' T' X s gt A' D' ms' TA tc F la MA mc Ms n:=by
  obtain ⟨e',n'⟩:=c.keepExt h.e h.new
  obtain ⟨b',g'⟩:=c.blk h.bt (h.xT gt h.xt)
  have st:Step (OC T X) u (OC T' X) u':=c.fr.step (fun _ _ h=>.inl h) fun k hk h=>h.elim (fun h=>.inl ((c.sub k h).resolve_right (by omega))) .inr
  exact ⟨h',e',n',b',h.xt,fun k hk ht=>(c.sub k ht).elim (h.xT k hk) fun h2=>by have:=h.xl k hk;omega,h.xw,fun k hk=>Nat.lt_of_lt_of_le (h.xl k hk) c.fr.size,⟨h.tr.t.keep st,h.tr.m.keep KTs_pos st,h.tr.c⟩,h.sml,h3,h4,h5⟩
theorem S6.chgG (h:S6 w u T X s gt A D ms TA tc F la MA mc Ms n) {u' v:World} {T':Nat->Prop} {A':Ar} {D':List Tr} {ms':List (Ar×List Tr)} {g:Nat} (h':Sto T' u' s ⟨A',D',ms'⟩) (c:Tch T u T' v) (f:Fr (fun k=>k=g) v u') (hg:X g) (hne:gt≠g) (h3:A'.last<=n) (h4:∀ p∈ms',Sml (foD p.2) n/\p.1.last<=n) (h5:A'.most=65536):S6 w u' T' X s gt A' D' ms' TA tc F la MA mc Ms n:=by
  obtain ⟨e',n'⟩:=c.keepExt h.e h.new
  obtain ⟨b',g'⟩:=c.blk h.bt (h.xT gt h.xt)
  have hgw:=h.xw g hg
  have st:Step (OC T X) u (OC T' X) v:=c.fr.step (fun _ _ h=>.inl h) fun k hk h=>h.elim (fun h=>.inl ((c.sub k h).resolve_right (by omega))) .inr
  have st2:Step (OC T' X) v (OC T' X) u':=f.step (fun k _ e=>by have e:k=g:=e;exact .inr (e▸hg)) fun _ _ h=>h
  exact ⟨h',e'.trans f (fun _ _ h=>h) (fun k hk e=>by have e:k=g:=e;omega),n',b'.keep f hne,h.xt,fun k hk ht=>(c.sub k ht).elim (h.xT k hk) fun h2=>by have:=h.xl k hk;omega,h.xw,fun k hk=>Nat.lt_of_lt_of_le (Nat.lt_of_lt_of_le (h.xl k hk) c.fr.size) f.size,⟨(h.tr.t.keep st).keep st2,(h.tr.m.keep KTs_pos st).keep KTs_pos st2,h.tr.c⟩,h.sml,h3,h4,h5⟩
theorem S6.setT (h:S6 w u T X s gt A D ms TA tc F la MA mc Ms n) {TA':Option Addr} {tc':Nat} {F':List (Int×Es)} {la':Int} (hT:TrR (OC T X) u TA' tc' F') (hs:Sml F' n):stOK ((⟨gt,0,none⟩:Addr).add 0) 0 [.slice TA' F'.length tc',.int .i64 la'] u/\∀ u',u'=setAll ((⟨gt,0,none⟩:Addr).add 0) 0 [.slice TA' F'.length tc',.int .i64 la'] u->S6 w u' T X s gt A D ms TA' tc' F' la' MA mc Ms n/\Fr (fun k=>k=gt) u u':=by
  rw [add_new]
  refine ⟨h.bt.stOK (o:=0) [_,_] 0 (by simp),fun u' hu=>?_⟩
  have b':Blk u' gt [.slice TA' F'.length tc',.int .i64 la',.slice MA Ms.length mc]:=by rw [hu];exact Blk.setAll (o:=0) [.slice TA' F'.length tc',.int .i64 la'] 0 h.bt
  have f:Fr (fun k=>k=gt) u u':=by rw [hu];exact Fr.setAll _ _ _
  have st:Step (OC T X) u (OC T X) u':=f.step (fun k _ e=>by have e:k=gt:=e;exact .inr (e▸h.xt)) (fun _ _ h=>h)
  exact ⟨⟨h.sto.frame f fun k _ e ht=>h.xT gt h.xt (by have e:k=gt:=e;exact e▸ht),h.e.trans f (fun _ _ h=>h) (fun k hk e=>by have e:k=gt:=e;have:=h.xw gt h.xt;omega),h.new,b',h.xt,h.xT,h.xw,fun k hk=>Nat.lt_of_lt_of_le (h.xl k hk) f.size,⟨hT.keep st,h.tr.m.keep KTs_pos st,h.tr.c⟩,hs,h.last,h.msm,h.most⟩,f⟩
theorem S6.setS (h:S6 w u T X s gt A D ms TA tc F la MA mc Ms n) {TA':Option Addr} {tc':Nat} {F':List (Int×Es)} {la':Int} {MA':Option Addr} {mc':Nat} {Ms':List (List (Int×Es)×Int)} (hT:StR (OC T X) u TA' tc' F' MA' mc' Ms') (hs:Sml F' n):stOK ⟨gt,0,none⟩ 0 [.slice TA' F'.length tc',.int .i64 la',.slice MA' Ms'.length mc'] u/\∀ u',u'=setAll ⟨gt,0,none⟩ 0 [.slice TA' F'.length tc',.int .i64 la',.slice MA' Ms'.length mc'] u->S6 w u' T X s gt A D ms TA' tc' F' la' MA' mc' Ms' n/\Fr (fun k=>k=gt) u u':=by
  refine ⟨h.bt.stOK (o:=0) [_,_,_] 0 (by simp),fun u' hu=>?_⟩
  have b':Blk u' gt [.slice TA' F'.length tc',.int .i64 la',.slice MA' Ms'.length mc']:=by rw [hu];exact Blk.setAll (o:=0) [.slice TA' F'.length tc',.int .i64 la',.slice MA' Ms'.length mc'] 0 h.bt
  have f:Fr (fun k=>k=gt) u u':=by rw [hu];exact Fr.setAll _ _ _
  have st:Step (OC T X) u (OC T X) u':=f.step (fun k _ e=>by have e:k=gt:=e;exact .inr (e▸h.xt)) (fun _ _ h=>h)
  exact ⟨⟨h.sto.frame f fun k _ e ht=>h.xT gt h.xt (by have e:k=gt:=e;exact e▸ht),h.e.trans f (fun _ _ h=>h) (fun k hk e=>by have e:k=gt:=e;have:=h.xw gt h.xt;omega),h.new,b',h.xt,h.xT,h.xw,fun k hk=>Nat.lt_of_lt_of_le (h.xl k hk) f.size,hT.keep st,hs,h.last,h.msm,h.most⟩,f⟩
theorem sum_le {l:List Nat} {m:Nat} (h:∀ x∈l,x<=m):l.sum<=l.length*m:=by
  induction l with
  | nil=>simp
  | cons a l ih =>
    have h1:=h a (by simp)
    have h2:=ih fun x hx=>h x (by simp [hx])
    rw [List.sum_cons,List.length_cons,Nat.add_mul];omega
theorem Sml.room {F:List (Int×Es)} {n:Nat} (h:Sml F n) (hn:n<=150):2*sizeF F+1<=65536:=by
  have h1:sizeF F<=F.length*(1+n):=by
    have:=sum_le (l:=F.map fun p=>1+p.2.length) (m:=1+n) fun x hx=>by
      obtain ⟨p,hp,rfl⟩:=List.mem_map.1 hx
      have:=h.es p hp;omega
    rwa [List.length_map] at this
  have h2:F.length*(1+n)<=150*151:=Nat.mul_le_mul (Nat.le_trans h.len hn) (by omega)
  omega
end
/-! ## the cursors -/
structure VC where
  id:Int
  A:Option Addr
  n:Nat
  c:Nat
  ok:Bool
def vcC (x:VC):List Value:=[.int .i64 x.id,.slice x.A x.n x.c,.bool x.ok]
def cellsV:List VC->List Value
  | []=>[]
  | x::l=>.int .i64 x.id::.slice x.A x.n x.c::.bool x.ok::cellsV l
theorem cellsV_len:∀ L:List VC,(cellsV L).length=L.length*3
  | []=>rfl
  | x::l=>by have:=cellsV_len l;show (cellsV l).length+3=(l.length+1)*3;omega
theorem cellsV_get:∀ {L:List VC} {j:Nat} {x:VC},L[j]?=some x->(cellsV L)[j*3+0]?=some (.int .i64 x.id)/\(cellsV L)[j*3+1]?=some (.slice x.A x.n x.c)/\(cellsV L)[j*3+2]?=some (.bool x.ok)
  | x::l,0,y,h=>by simp at h;subst h;exact ⟨rfl,rfl,rfl⟩
  | x::l,j+1,y,h=>by
    obtain ⟨h1,h2,h3⟩:=cellsV_get (L:=l) (j:=j) (by simpa using h)
    have e:∀ i,(j+1)*3+i=(j*3+i)+3:=fun i=>by omega
    exact ⟨by rw [e];exact h1,by rw [e];exact h2,by rw [e];exact h3⟩
theorem cellsV_set1:∀ {L:List VC} {j:Nat} {x:VC} (A:Option Addr) (n c:Nat),L[j]?=some x->(cellsV L).set (j*3+1) (.slice A n c)=cellsV (L.set j ⟨x.id,A,n,c,x.ok⟩)
  | x::l,0,y,A,n,c,h=>by simp at h;subst h;rfl
  | x::l,j+1,y,A,n,c,h=>by
    have:=cellsV_set1 (L:=l) (j:=j) (x:=y) A n c (by simpa using h)
    have e:(j+1)*3+1=(j*3+1)+3:=by omega
    rw [e]
    show Value.int .i64 x.id::Value.slice x.A x.n x.c::Value.bool x.ok::(cellsV l).set (j*3+1) (.slice A n c)=_
    rw [this];rfl
theorem cellsV_set2:∀ {L:List VC} {j:Nat} {x:VC} (b:Bool),L[j]?=some x->(cellsV L).set (j*3+2) (.bool b)=cellsV (L.set j ⟨x.id,x.A,x.n,x.c,b⟩)
  | x::l,0,y,b,h=>by simp at h;subst h;rfl
  | x::l,j+1,y,b,h=>by
    have:=cellsV_set2 (L:=l) (j:=j) (x:=y) b (by simpa using h)
    have e:(j+1)*3+2=(j*3+2)+3:=by omega
    rw [e]
    show Value.int .i64 x.id::Value.slice x.A x.n x.c::Value.bool x.ok::(cellsV l).set (j*3+2) (.bool b)=_
    rw [this];rfl
theorem cellsV_set:∀ {L:List VC} {j:Nat} (y:VC),j<L.length->setL (cellsV L) (j*3) (vcC y)=cellsV (L.set j y)
  | x::l,0,y,h=>rfl
  | x::l,j+1,y,h=>by
    have:=cellsV_set (L:=l) (j:=j) y (by simpa using h)
    have e:(j+1)*3=(j*3)+3:=by omega
    rw [e]
    show Value.int .i64 x.id::Value.slice x.A x.n x.c::Value.bool x.ok::setL (cellsV l) (j*3) (vcC y)=_
    rw [this];rfl
def Two6 (Ω:Nat->Prop) (u:World) (s g:Nat) (x:VC):Prop:=∃ k,Cur Ω u g s x.id k/\KeyAt Ω u k x.A x.n x.ok
structure Cs (Ω:Nat->Prop) (u:World) (s gc gv:Nat) (gs:List Nat) (L:List VC):Prop where
  bc:Blk u gc (gs.map fun g=>.pointer (some ⟨g,0,none⟩))
  bv:Blk u gv (cellsV L)
  len:L.length=gs.length
  two:∀ (j g:Nat) (x:VC),gs[j]?=some g->L[j]?=some x->Two6 Ω u s g x
section
variable {Ω:Nat->Prop} {u:World} {s gc gv:Nat} {gs:List Nat} {L:List VC}
theorem Cs.ext (h:Cs Ω u s gc gv gs L) {u':World} (e:Ext u u'):Cs Ω u' s gc gv gs L :=
  ⟨h.bc.ext e,h.bv.ext e,h.len,fun j g x h1 h2=>by obtain ⟨k,a,b⟩:=h.two j g x h1 h2;exact ⟨k,a.ext e,b.keep (e.step Ω)⟩⟩
theorem Cs.fr (h:Cs Ω u s gc gv gs L) {S Ω':Nat->Prop} {u':World} (f:Fr S u u') (h1:¬ S gc) (h2:¬ S gv) (h3:∀ g∈gs,¬ S g) (hS:∀ k,k<u.heap.size->S k->Ω k) (hΩ:∀ k,k<u.heap.size->Ω' k->Ω k):Cs Ω' u' s gc gv gs L :=
  ⟨h.bc.keep f h1,h.bv.keep f h2,h.len,fun j g x a b=>by obtain ⟨k,c,d⟩:=h.two j g x a b;exact ⟨k,c.fr f (h3 g (List.mem_of_getElem? a)) hS hΩ,d.keep (f.step hS hΩ)⟩⟩
theorem Cs.ptr (h:Cs Ω u s gc gv gs L) {j g:Nat} (hj:gs[j]?=some g):u.cell? ((⟨gc,0,none⟩:Addr).add (j*1))=some (.pointer (some ⟨g,0,none⟩)):=by
  rw [Nat.mul_one]
  exact h.bc.cell (by rw [Nat.zero_add,List.getElem?_map,hj];rfl)
theorem Cs.rd (h:Cs Ω u s gc gv gs L) {j:Nat} {x:VC} (hj:L[j]?=some x):u.cell? (((⟨gv,0,none⟩:Addr).add (j*3)).add 0)=some (.int .i64 x.id)/\u.cell? (((⟨gv,0,none⟩:Addr).add (j*3)).add 1)=some (.slice x.A x.n x.c)/\u.cell? (((⟨gv,0,none⟩:Addr).add (j*3)).add 2)=some (.bool x.ok):=by
  obtain ⟨a,b,c⟩:=cellsV_get hj
  exact ⟨h.bv.cell' (by rw [Nat.zero_add];exact a),h.bv.cell' (by rw [Nat.zero_add];exact b),h.bv.cell' (by rw [Nat.zero_add];exact c)⟩
def Oth (Ω:Nat->Prop) (u:World) (s:Nat) (gs:List Nat) (L:List VC) (j:Nat):Prop:=∀ (i g:Nat) (x:VC),i≠j->gs[i]?=some g->L[i]?=some x->Two6 Ω u s g x
theorem Cs.oth (h:Cs Ω u s gc gv gs L) (j:Nat):Oth Ω u s gs L j:=fun i g x _ a b=>h.two i g x a b
theorem Oth.fr {j:Nat} (h:Oth Ω u s gs L j) {S Ω':Nat->Prop} {u':World} (f:Fr S u u') (h3:∀ (i g:Nat),i≠j->gs[i]?=some g->¬ S g) (hS:∀ k,k<u.heap.size->S k->Ω k) (hΩ:∀ k,k<u.heap.size->Ω' k->Ω k):Oth Ω' u' s gs L j :=
  fun i g x hi a b=>by obtain ⟨k,c,d⟩:=h i g x hi a b;exact ⟨k,c.fr f (h3 i g hi a) hS hΩ,d.keep (f.step hS hΩ)⟩
theorem Oth.ext {j:Nat} (h:Oth Ω u s gs L j) {u':World} (e:Ext u u'):Oth Ω u' s gs L j:=h.fr e (fun _ _ _ _ h=>h) (fun _ _ h=>h.elim) fun _ _ h=>h
theorem Oth.all {j g:Nat} (h:Oth Ω u s gs L j) (hj:gs[j]?=some g) (hjl:j<L.length) {y:VC} (hy:Two6 Ω u s g y):∀ (i g':Nat) (x:VC),gs[i]?=some g'->(L.set j y)[i]?=some x->Two6 Ω u s g' x:=by
  intro i g' x a b
  by_cases hij:i=j
  · subst hij
    rw [hj] at a
    obtain rfl:=Option.some.inj a
    rw [List.getElem?_set_self hjl] at b
    obtain rfl:=Option.some.inj b
    exact hy
  · rw [List.getElem?_set_ne (fun e=>hij e.symm)] at b
    exact h i g' x hij a b
theorem gs_ne {gs:List Nat} (hnd:gs.Nodup) {i j g g':Nat} (hi:gs[i]?=some g') (hj:gs[j]?=some g) (hne:i≠j):g'≠g:=fun e=>by
  subst e
  exact hne ((List.getElem?_inj (List.getElem?_eq_some_iff.1 hi).1 hnd).1 (hi.trans hj.symm))
theorem putV {gv:Nat} (bv:Blk u gv (cellsV L)) {j:Nat} (hjl:j<L.length) (y:VC) :
    stOK ((⟨gv,0,none⟩:Addr).add (j*3)) 0 [.int .i64 y.id,.slice y.A y.n y.c,.bool y.ok] u/\∀ u',u'=setAll ((⟨gv,0,none⟩:Addr).add (j*3)) 0 [.int .i64 y.id,.slice y.A y.n y.c,.bool y.ok] u->Blk u' gv (cellsV (L.set j y))/\Fr (fun k=>k=gv) u u':=by
  rw [add_new,Nat.zero_add]
  refine ⟨bv.stOK (o:=j*3) [_,_,_] 0 (by rw [cellsV_len];simp;omega),fun u' hu=>⟨?_,by rw [hu];exact Fr.setAll _ _ _⟩⟩
  have:=Blk.setAll (o:=j*3) [.int .i64 y.id,.slice y.A y.n y.c,.bool y.ok] 0 bv
  rw [hu,<- cellsV_set y hjl]
  exact this
theorem putV1 {gv:Nat} (bv:Blk u gv (cellsV L)) {j:Nat} {x:VC} (hx:L[j]?=some x) (A:Option Addr) (n c:Nat) :
    stOK (((⟨gv,0,none⟩:Addr).add (j*3)).add 1) 0 [.slice A n c] u/\∀ u',u'=setAll (((⟨gv,0,none⟩:Addr).add (j*3)).add 1) 0 [.slice A n c] u->Blk u' gv (cellsV (L.set j ⟨x.id,A,n,c,x.ok⟩))/\Fr (fun k=>k=gv) u u':=by
  have hjl:=(List.getElem?_eq_some_iff.1 hx).1
  rw [add_add]
  obtain ⟨p1,p2⟩:=setF bv (o:=j*3+1) (by rw [cellsV_len];omega) (.slice A n c)
  exact ⟨p1,fun u' hu=>by have:=p2 u' hu;rw [cellsV_set1 A n c hx] at this;exact this⟩
theorem putV2 {gv:Nat} (bv:Blk u gv (cellsV L)) {j:Nat} {x:VC} (hx:L[j]?=some x) (b:Bool) :
    stOK (((⟨gv,0,none⟩:Addr).add (j*3)).add 2) 0 [.bool b] u/\∀ u',u'=setAll (((⟨gv,0,none⟩:Addr).add (j*3)).add 2) 0 [.bool b] u->Blk u' gv (cellsV (L.set j ⟨x.id,x.A,x.n,x.c,b⟩))/\Fr (fun k=>k=gv) u u':=by
  have hjl:=(List.getElem?_eq_some_iff.1 hx).1
  rw [add_add]
  obtain ⟨p1,p2⟩:=setF bv (o:=j*3+2) (by rw [cellsV_len];omega) (.bool b)
  exact ⟨p1,fun u' hu=>by have:=p2 u' hu;rw [cellsV_set2 b hx] at this;exact this⟩
end
end Go.Proofs.YthfagbfllheneaaGreat
set_option linter.unusedVariables false
set_option linter.unusedSimpArgs false
namespace Go.Proofs.YthfagbfllheneaaGreat
open Go Go.Sx T4
theorem upF_out6 {id:Int} {es:Es}:∀ {F:List (Int×Es)},(∀ p∈F,p.1≠id)->upF F id es=F
  | [],_=>rfl
  | p::F,h=>by
    show (if p.1=id then (p.1,es) else p)::upF F id es=_
    rw [if_neg (h p (List.mem_cons_self ..)),upF_out6 fun q hq=>h q (List.mem_cons_of_mem _ hq)]
theorem upF_set6 {id:Int} {es:Es}:∀ {F:List (Int×Es)} {k:Nat} {es0:Es},(F.map fun p=>p.1).Nodup->F[k]?=some (id,es0)->upF F id es=F.set k (id,es)
  | [],k,es0,_,h=>by simp at h
  | p::F,0,es0,hn,h=>by
    simp at h
    subst h
    rw [List.map_cons,List.nodup_cons] at hn
    have hx:upF F id es=F:=upF_out6 fun q hq e=>hn.1 (List.mem_map.2 ⟨q,hq,e⟩)
    show (if (id,es0).1=id then ((id,es0).1,es) else (id,es0))::upF F id es=_
    rw [if_pos rfl,hx];rfl
  | p::F,k+1,es0,hn,h=>by
    rw [List.map_cons,List.nodup_cons] at hn
    have h:F[k]?=some (id,es0):=h
    have hne:p.1≠id:=fun e=>hn.1 (List.mem_map.2 ⟨(id,es0),List.mem_of_getElem? h,e.symm⟩)
    show (if p.1=id then (p.1,es) else p)::upF F id es=_
    rw [if_neg hne,upF_set6 hn.2 h];rfl
theorem gF_up {F:List (Int×Es)} {id:Int} {es:Es}:∀ (i:Int),(∃ e,gF F i=some e)->∃ e,gF (upF F id es) i=some e:=by
  intro i
  induction F with
  | nil=>exact fun h=>h
  | cons p F ih =>
    obtain ⟨x,e0⟩:=p
    rintro ⟨e,h⟩
    have h:(if i=x then some e0 else gF F i)=some e:=h
    by_cases hx:x=id
    · show ∃ e,gF ((if x=id then (x,es) else (x,e0))::upF F id es) i=some e
      rw [if_pos hx]
      show ∃ e,(if i=x then some es else gF (upF F id es) i)=some e
      by_cases hi:i=x
      · rw [if_pos hi];exact ⟨_,rfl⟩
      · rw [if_neg hi] at h ⊢;exact ih ⟨e,h⟩
    · show ∃ e,gF ((if x=id then (x,es) else (x,e0))::upF F id es) i=some e
      rw [if_neg hx]
      show ∃ e,(if i=x then some e0 else gF (upF F id es) i)=some e
      by_cases hi:i=x
      · rw [if_pos hi];exact ⟨_,rfl⟩
      · rw [if_neg hi] at h ⊢;exact ih ⟨e,h⟩
theorem gF_split6 {D D1 D2:List Tr} {d:Tr} (h:(foD D |>.map fun p=>p.1).Nodup) (hD:D=D1++d::D2):gF (foD D) d.r=some d.es:=by
  subst hD
  exact gF_nd h (k:=D1.length) (by simp [foD,fo])
theorem gF_no:∀ {F:List (Int×Es)} {r:Int},gF F r=none->∀ p∈F,p.1≠r
  | [],r,_,p,h=>by cases h
  | (x,u)::F,r,hg,p,h=>by
    have hg:(if r=x then some u else gF F r)=none:=hg
    by_cases hx:r=x
    · rw [if_pos hx] at hg;cases hg
    · rw [if_neg hx] at hg
      rcases List.mem_cons.1 h with rfl|h
      · exact fun e=>hx e.symm
      · exact gF_no hg p h
theorem ids_foD (D:List Tr):idsD D=(foD D).map fun p=>p.1:=by simp [idsD,foD,fo]
theorem ids_none {D:List Tr} {id:Int} (h:gF (foD D) id=none):id∉idsD D:=by
  rw [ids_foD]
  intro hm
  obtain ⟨p,hp,e⟩:=List.mem_map.1 hm
  exact gF_no h p hp e
theorem ids_some {D:List Tr} {id:Int} (h:id∉idsD D):gF (foD D) id=none:=by
  refine gF_none fun p hp e=>h ?_
  rw [ids_foD]
  exact List.mem_map.2 ⟨p,hp,e⟩
theorem DropRel.cases6 {A A':Ar} {D D':List Tr} {id e:Int} (r:DropRel A D id A' D' e) (hI:Inv A D) {k:Nat} {es:Es} (hk:(foD D)[k]?=some (id,es)):e=0/\∃ F1 F2,foD D=F1++(id,es)::F2/\F1.length=k/\foD D'=F1++F2:=by
  have hg:=gF_nd hI.ndF hk
  rcases r.rel with ⟨h,_⟩|⟨D1,d,D2,hD,hr,hD',he⟩
  · rw [h] at hg;cases hg
  · refine ⟨he,foD D1,foD D2,?_,?_,by rw [hD'];simp [foD]⟩
    · have hg2:=gF_split6 hI.ndF hD
      rw [hr,hg] at hg2
      rw [hD];simp [foD,fo,hr,<- Option.some.inj hg2]
    · have hn:=hI.ndF
      have hlt:=(List.getElem?_eq_some_iff.1 hk).1
      have h1:(foD D)[D1.length]?=some (id,d.es):=by rw [hD];simp [foD,fo,hr]
      have hlt1:=(List.getElem?_eq_some_iff.1 h1).1
      rw [show (foD D1).length=D1.length by simp [foD]]
      have a:=(List.getElem?_eq_some_iff.1 h1).2
      have b:=(List.getElem?_eq_some_iff.1 hk).2
      exact (List.getElem_inj (xs:=(foD D).map fun p=>p.1) (h₀:=by rw [List.length_map];exact hlt1) (h₁:=by rw [List.length_map];exact hlt) hn).1 (by simp only [List.getElem_map,a,b])
def Has1 (D:List Tr) (ms:List (Ar×List Tr)):Prop:=(∃ es,gF (foD D) 1=some es)/\∀ p∈ms,∃ es,gF (foD p.2) 1=some es
abbrev XS (gt gc gv:Nat) (gs:List Nat):Nat->Prop:=fun k=>k=gt\/k=gc\/k=gv\/k∈gs
structure Apt6 (gt gc gv:Nat) (gs:List Nat):Prop where
  nd:gs.Nodup
  t:gt∉gs
  c:gc∉gs
  v:gv∉gs
  tc:gt≠gc
  tv:gt≠gv
  cv:gc≠gv
def R6 (w u:World) (s gt gc gv:Nat) (gs:List Nat) (n:Nat):Prop:=∃ T A D ms TA tc MA mc L,S6 w u T (XS gt gc gv gs) s gt A D ms TA tc (foD D) (A.last:Int) MA mc (msR6 ms) n/\Cs (OC T (XS gt gc gv gs)) u s gc gv gs L/\Has1 D ms
section
variable {w u:World} {T X:Nat->Prop} {s gt gc gv:Nat} {gs:List Nat} {L:List VC} {A:Ar} {D:List Tr} {ms:List (Ar×List Tr)} {TA:Option Addr} {tc:Nat} {F:List (Int×Es)} {la:Int} {MA:Option Addr} {mc:Nat} {Ms:List (List (Int×Es)×Int)} {n:Nat}
theorem Cs.tch (h:Cs (OC T (XS gt gc gv gs)) u s gc gv gs L) {u':World} {T':Nat->Prop} (c:Tch T u T' u') (hx:∀ k,XS gt gc gv gs k->¬ T k):Cs (OC T' (XS gt gc gv gs)) u' s gc gv gs L :=
  h.fr c.fr (hx gc (.inr (.inl rfl))) (hx gv (.inr (.inr (.inl rfl)))) (fun g hg=>hx g (.inr (.inr (.inr hg)))) (fun _ _ h=>.inl h) fun k hk h=>h.elim (fun h=>.inl ((c.sub k h).resolve_right (by omega))) .inr
theorem Cs.wrT (h:Cs (OC T (XS gt gc gv gs)) u s gc gv gs L) (ap:Apt6 gt gc gv gs) {u':World} (f:Fr (fun k=>k=gt) u u'):Cs (OC T (XS gt gc gv gs)) u' s gc gv gs L :=
  h.fr f (fun e=>ap.tc (by have e:gc=gt:=e;exact e.symm)) (fun e=>ap.tv (by have e:gv=gt:=e;exact e.symm)) (fun g hg e=>ap.t (by have e:g=gt:=e;exact e▸hg)) (fun k _ e=>by have e:k=gt:=e;exact .inr (.inl e)) fun _ _ h=>h
theorem Oth.tch {j:Nat} (h:Oth (OC T (XS gt gc gv gs)) u s gs L j) {u':World} {T':Nat->Prop} (c:Tch T u T' u') (hx:∀ k,XS gt gc gv gs k->¬ T k):Oth (OC T' (XS gt gc gv gs)) u' s gs L j :=
  h.fr c.fr (fun i g _ hg=>hx g (.inr (.inr (.inr (List.mem_of_getElem? hg))))) (fun _ _ h=>.inl h) fun k hk h=>h.elim (fun h=>.inl ((c.sub k h).resolve_right (by omega))) .inr
theorem Oth.wrX {j g:Nat} (h:Oth (OC T (XS gt gc gv gs)) u s gs L j) {u':World} (f:Fr (fun k=>k=g) u u') (hg:XS gt gc gv gs g) (hno:∀ (i g':Nat),i≠j->gs[i]?=some g'->g'≠g):Oth (OC T (XS gt gc gv gs)) u' s gs L j :=
  h.fr f (fun i g' hi a e=>hno i g' hi a e) (fun k _ e=>by have e:k=g:=e;exact .inr (e▸hg)) fun _ _ h=>h
theorem S6.imm (h:S6 w u T X s gt A D ms TA tc F la MA mc Ms n) {KA:Option Addr} {key:Key} (i:Imm KB NoB w KA key):Imm KB (OC T X) u KA key :=
  i.keep KB_pos ⟨h.e.size,fun k hk _=>h.e.block k hk fun h=>h,fun k hk hx=>by have:=h.ge k hx;omega⟩
end
end Go.Proofs.YthfagbfllheneaaGreat
set_option linter.unusedVariables false
set_option linter.unusedSimpArgs false
namespace Go.Proofs.YthfagbfllheneaaGreat
open Go Go.Sx T4
theorem cuIds {w u:World} {T:Nat->Prop} {s g:Nat} {A:Ar} {D:List Tr} {ms:List (Ar×List Tr)} {k:Option Key} {F:List (Int×Es)} (H:Cu w u T s g A D ms k F):idsD D=F.map fun p=>p.1:=by
  rw [<- H.fo];simp [foD,fo,idsD]
set_option maxRecDepth 100000 in
set_option maxHeartbeats 1000000 in
theorem awake6_spec (w:World):CallsV Tryz.prog 18 #[] w fun r w'=>r=.bool true/\Ext w w':=by
  refine cardindexlaw06_awake.calls okay ?_
  unfold cardindexlaw06_awake.W
  intro g0 w0 f0
  refine (store_spec (l:=[[97],[99]]) (fun i k hi=>?_) (by decide) (by decide)).mono ?_
  · match i,hi with
    | 0,hi=>simp at hi;subst hi;exact ⟨_,rfl,f0.blk.cell rfl⟩
    | 1,hi=>simp at hi;subst hi;exact ⟨_,rfl,f0.blk.cell rfl⟩
  rintro _ u1 ⟨s,g,T,A,D,rfl,H1⟩
  rw [show putsE [[97],[99]]=[([97],[97]),([99],[99])] by decide] at H1
  refine ⟨_,_,_,rfl,brnb (fun h=>by cases h) fun _=>(b6 u1 [98] (by decide)).mono ?_⟩
  rintro _ u2 ⟨KA,kc,rfl,o2,e2,_⟩
  refine ⟨_,_,_,rfl,(uSeek (H1.ext e2) (x:=some ([99],[99])) (how:=1) (key:=[98]) (by decide) o2.imm0 kc).mono ?_⟩
  rintro _ u3 ⟨rfl,H3⟩
  refine ⟨_,rfl,brnb (fun h=>by cases h) fun _=>(aT H3 (key:=[99]) (v:=[99]) (by decide) (by decide)).mono ?_⟩
  rintro _ u4 ⟨rfl,e4⟩
  refine ⟨_,rfl,brnb (fun h=>by cases h) fun _=>(uPrev (H3.ext e4) (x:=some ([97],[97])) (by decide)).mono ?_⟩
  rintro _ u5 ⟨rfl,H5⟩
  refine ⟨_,rfl,brnb (fun h=>by cases h) fun _=>(aT H5 (key:=[97]) (v:=[97]) (by decide) (by decide)).mono ?_⟩
  rintro _ u6 ⟨rfl,e6⟩
  refine ⟨_,rfl,brnb (fun h=>by cases h) fun _=>(uDelete (H5.ext e6) (key:=[97]) (v:=[97]) (es:=[([97],[97]),([99],[99])]) (by decide) (by decide) (by rw [cuIds H5];decide)).mono ?_⟩
  rintro _ u7 ⟨rfl,T7,A7,D7,H7,_⟩
  replace H7:Cu w0 u7 T7 s g A7 D7 [] (some [97]) (upF [(1,[([97],[97]),([99],[99])])] 1 (delE [97] [([97],[97]),([99],[99])])):=H7
  rw [show upF [(1,[([97],[97]),([99],[99])])] 1 (delE [97] [([97],[97]),([99],[99])])=[(1,[([99],[99])])] by decide] at H7
  refine ⟨_,rfl,brn (fun h=>absurd rfl h) fun _=>(aN H7 (by decide)).mono ?_⟩
  rintro _ u8 ⟨rfl,e8⟩
  refine ⟨_,rfl,brnb (fun h=>by cases h) fun _=>(uNext (H7.ext e8) (x:=some ([99],[99])) (by decide)).mono ?_⟩
  rintro _ u9 ⟨rfl,H9⟩
  refine ⟨_,rfl,brnb (fun h=>by cases h) fun _=>(aT H9 (key:=[99]) (v:=[99]) (by decide) (by decide)).mono ?_⟩
  rintro _ u10 ⟨rfl,e10⟩
  have H10:=H9.ext e10
  refine ⟨_,rfl,brnb (fun h=>by cases h) fun _=>(b6 u10 [98] (by decide)).mono ?_⟩
  rintro _ u11 ⟨KB1,kb1,rfl,o11,e11,n11⟩
  refine ⟨_,_,_,rfl,(b6 u11 [49] (by decide)).mono ?_⟩
  rintro _ u12 ⟨VB1,vb1,rfl,o12,e12,_⟩
  refine ⟨_,_,_,rfl,(uInsert ((H10.ext e11).ext e12) (es:=[([99],[99])]) (key:=[98]) (val:=[49]) (by decide) (by decide) (by decide) (by decide) ((o11.ext e12).imm fun k hk ht=>by have:=n11 k hk;have:=H10.sto.lt k ht;omega) o12.imm0 kb1 vb1).mono ?_⟩
  rintro _ u13 ⟨rfl,T13,A13,D13,H13,_⟩
  replace H13:Cu w0 u13 T13 s g A13 D13 [] (some [98]) (upF [(1,[([99],[99])])] 1 (insE [98] [49] [([99],[99])])):=H13
  rw [show upF [(1,[([99],[99])])] 1 (insE [98] [49] [([99],[99])])=[(1,[([98],[49]),([99],[99])])] by decide] at H13
  refine ⟨_,_,rfl,br (fun h=>absurd h (by decide)) fun _=>brn (fun h=>absurd rfl h) fun _=>(aT H13 (key:=[98]) (v:=[49]) (by decide) (by decide)).mono ?_⟩
  rintro _ u14 ⟨rfl,e14⟩
  have H14:=H13.ext e14
  refine ⟨_,rfl,brnb (fun h=>by cases h) fun _=>(cValue H14.sto H14.cur).mono ?_⟩
  rintro r u15 ⟨e15,hr⟩
  have hX:atX (foD D13) 1 (some [98])=some ([98],[49]):=by rw [H14.fo];decide
  replace hr:match atX (foD D13) 1 (some [98]) with
    | none=>∃ c,r=.slice none 0 c
    | some (_,v)=>∃ A c,r=.slice A v.length c/\OwnB u15 A c v/\New u14 A:=hr
  rw [hX] at hr
  obtain ⟨B15,d15,rfl,o15,_⟩:=hr
  have H15:=H14.ext e15
  refine ⟨_,_,_,rfl,_,_,to_str bt o15.imm0 d15,brnS (l:=[49]) (l':=[49]) (fun h=>absurd rfl h) fun _=>(uNext H15 (x:=some ([99],[99])) (by decide)).mono ?_⟩
  rintro _ u16 ⟨rfl,H16⟩
  refine ⟨_,rfl,brnb (fun h=>by cases h) fun _=>(aT H16 (key:=[99]) (v:=[99]) (by decide) (by decide)).mono ?_⟩
  rintro _ u17 ⟨rfl,e17⟩
  refine ⟨_,rfl,brnb (fun h=>by cases h) fun _=>(uNext (H16.ext e17) (x:=none) (by decide)).mono ?_⟩
  rintro _ u18 ⟨rfl,H18⟩
  refine ⟨_,rfl,br (fun h=>by cases h) fun _=>(uNext H18 (x:=none) rfl).mono ?_⟩
  rintro _ u19 ⟨rfl,H19⟩
  refine ⟨_,rfl,br (fun h=>by cases h) fun _=>(cValid H19.sto H19.cur).mono ?_⟩
  rintro _ u20 ⟨rfl,e20⟩
  have x20:Ext w u20:=f0.ext.trans' (H19.e.trans' e20)
  refine ⟨_,rfl,br (fun h=>by cases h) fun _=>?_⟩
  intro g1 w1 f1
  refine (store_spec (l:=[[98]]) (fun i k hi=>?_) (by decide) (by decide)).mono ?_
  · match i,hi with
    | 0,hi=>simp at hi;subst hi;exact ⟨_,rfl,f1.blk.cell rfl⟩
  rintro _ v1 ⟨s',g',T',A',D',rfl,G1⟩
  rw [show putsE [[98]]=[([98],[98])] by decide] at G1
  have x1:Ext w w1:=x20.trans' f1.ext
  refine ⟨_,_,_,rfl,(aMark G1.sto).mono ?_⟩
  rintro _ v2 (⟨hge,_⟩|⟨_,rfl,T2,h2,c2⟩)
  · exact absurd (show 100<=([]:List (Ar×List Tr)).length from hge) (by decide)
  have G2:=G1.tch h2 c2 G1.fo G1.m
  refine ⟨_,_,rfl,(b6 v2 [98] (by decide)).mono ?_⟩
  rintro _ v3 ⟨KC,kd,rfl,p3,y3,_⟩
  have G3:=G2.ext y3
  refine ⟨_,_,_,rfl,(kDel G3.sto (id:=1) (es:=[([98],[98])]) (by rw [G3.fo];decide) [98] p3.imm0 kd).mono ?_⟩
  rintro _ v4 ⟨rfl,A4,D4,T4,h4,c4,s4,F4⟩
  have G4:=G3.tch h4 c4 (F':=[(1,[])]) (by rw [F4,G3.fo];decide) (s4.most.trans G3.m)
  refine ⟨_,_,rfl,(b6 v4 [97] (by decide)).mono ?_⟩
  rintro _ v5 ⟨KD,ke,rfl,p5,y5,_⟩
  have G5:=G4.ext y5
  refine ⟨_,_,_,rfl,(kPut G5.sto (id:=1) (es:=[]) (by rw [G5.fo];decide) (by rw [G5.fo,G5.m];decide) (key:=[97]) (val:=[]) (by decide) (by decide) p5.imm0 (Imm.nil KB NoB v5 none) ke 0).mono ?_⟩
  rintro _ v6 ⟨rfl,A6,D6,T6,h6,c6,s6,F6⟩
  have G6:=G5.tch h6 c6 (F':=[(1,[([97],[])])]) (by rw [F6,G5.fo];decide) (s6.most.trans G5.m)
  refine ⟨_,_,rfl,br (fun _=>(uRewind G6 (x:=some ([97],[])) (by decide)).mono ?_) fun h=>by cases h⟩
  rintro _ v7 ⟨rfl,G7⟩
  refine ⟨_,rfl,br (fun _=>(aT G7 (key:=[97]) (v:=[]) (by decide) (by decide)).mono ?_) fun h=>by cases h⟩
  rintro _ v8 ⟨rfl,y8⟩
  have G8:=G7.ext y8
  refine ⟨_,rfl,br (fun _=>(aBack G8.sto 1).mono ?_) fun h=>by cases h⟩
  rintro _ v9 (⟨hb,_⟩|⟨_,_,rfl,B,D9,T9,hm9,h9,c9⟩)
  · exact absurd hb (by show ¬ ((1:Int)<1\/((1:Nat):Int)<1);decide)
  obtain ⟨rfl,rfl⟩:A'=B/\D'=D9:=by have:=Option.some.inj hm9;exact ⟨(Prod.mk.inj this).1,(Prod.mk.inj this).2⟩
  have G9:=G8.tch h9 c9 G1.fo G1.m
  refine ⟨_,rfl,brd (fun _=>(aN G9 (by decide)).mono ?_) fun h=>absurd rfl h⟩
  rintro _ v10 ⟨rfl,y10⟩
  refine ⟨_,rfl,br (fun _=>(uNext (G9.ext y10) (x:=some ([98],[98])) (by decide)).mono ?_) fun h=>by cases h⟩
  rintro _ v11 ⟨rfl,G11⟩
  refine ⟨_,rfl,br (fun _=>(aT G11 (key:=[98]) (v:=[98]) (by decide) (by decide)).mono ?_) fun h=>by cases h⟩
  rintro _ v12 ⟨rfl,y12⟩
  exact ⟨_,rfl,rfl,x1.trans' (G11.e.trans' y12)⟩
end Go.Proofs.YthfagbfllheneaaGreat
set_option linter.unusedVariables false
set_option linter.unusedSimpArgs false
namespace Go.Proofs.YthfagbfllheneaaGreat
open Go Go.Sx T4
theorem S6.cong {w u:World} {T X X':Nat->Prop} {s gt:Nat} {A:Ar} {D:List Tr} {ms:List (Ar×List Tr)} {TA:Option Addr} {tc:Nat} {F:List (Int×Es)} {la:Int} {MA:Option Addr} {mc:Nat} {Ms:List (List (Int×Es)×Int)} {n:Nat} (h:S6 w u T X s gt A D ms TA tc F la MA mc Ms n) (hX:∀ k,X' k<->X k):S6 w u T X' s gt A D ms TA tc F la MA mc Ms n:=by
  have st:Step (OC T X) u (OC T X') u:=⟨Nat.le_refl _,fun _ _ _=>rfl,fun k _ h=>h.elim .inl fun h=>.inr ((hX k).1 h)⟩
  exact ⟨h.sto,h.e,h.new,h.bt,(hX gt).2 h.xt,fun k hk=>h.xT k ((hX k).1 hk),fun k hk=>h.xw k ((hX k).1 hk),fun k hk=>h.xl k ((hX k).1 hk),⟨h.tr.t.keep st,h.tr.m.keep KTs_pos st,h.tr.c⟩,h.sml,h.last,h.msm,h.most⟩
abbrev pv (g:Nat):Value:=.pointer (some ⟨g,0,none⟩)
theorem putP {u:World} {gc:Nat} {gs:List Nat} {m i:Nat} (hi:gs.length=i) (b:Blk u gc (gs.map pv++List.replicate (m+1) (Value.pointer none))) (g:Nat) :
    stOK ((⟨gc,0,none⟩:Addr).add (i*1)) 0 [pv g] u/\∀ u',u'=setAll ((⟨gc,0,none⟩:Addr).add (i*1)) 0 [pv g] u->Blk u' gc ((gs++[g]).map pv++List.replicate m (Value.pointer none))/\Fr (fun k=>k=gc) u u':=by
  subst hi
  rw [Nat.mul_one]
  obtain ⟨p1,p2⟩:=setF b (o:=gs.length) (by simp) (pv g)
  refine ⟨p1,fun u' hu=>?_⟩
  obtain ⟨q1,q2⟩:=p2 u' hu
  refine ⟨?_,q2⟩
  have e:(gs.map pv++List.replicate (m+1) (Value.pointer none)).set gs.length (pv g)=(gs++[g]).map pv++List.replicate m (Value.pointer none):=by
    rw [List.set_append_right _ _ (by simp),List.length_map,Nat.sub_self,List.replicate_succ,List.set_cons_zero,List.map_append,List.append_assoc];rfl
  rw [e] at q1
  exact q1
def zV:VC:=⟨0,none,0,0,false⟩
theorem putZ {u:World} {gv:Nat} {L:List VC} {m i:Nat} (hi:L.length=i) (b:Blk u gv (cellsV (L++List.replicate (m+1) zV))) (y:VC) :
    stOK ((⟨gv,0,none⟩:Addr).add (i*3)) 0 [.int .i64 y.id,.slice y.A y.n y.c,.bool y.ok] u/\∀ u',u'=setAll ((⟨gv,0,none⟩:Addr).add (i*3)) 0 [.int .i64 y.id,.slice y.A y.n y.c,.bool y.ok] u->Blk u' gv (cellsV ((L++[y])++List.replicate m zV))/\Fr (fun k=>k=gv) u u':=by
  subst hi
  obtain ⟨p1,p2⟩:=putV b (j:=L.length) (by simp) y
  refine ⟨p1,fun u' hu=>?_⟩
  obtain ⟨q1,q2⟩:=p2 u' hu
  refine ⟨?_,q2⟩
  have e:(L++List.replicate (m+1) zV).set L.length y=(L++[y])++List.replicate m zV:=by
    rw [List.set_append_right _ _ (Nat.le_refl _),Nat.sub_self,List.replicate_succ,List.set_cons_zero,List.append_assoc];rfl
  rw [e] at q1
  exact q1
theorem two_trees:∀ {F:List (Int×Es)},F.map (fun p=>p.1)=[1,2]->∃ e1 e2,F=[(1,e1),(2,e2)]
  | [],h=>by simp at h
  | [a],h=>by simp at h
  | [(x,e1),(y,e2)],h=>by simp at h;obtain ⟨rfl,rfl⟩:=h;exact ⟨e1,e2,rfl⟩
  | a::b::c::r,h=>by simp at h
theorem gF_mid {i r:Int} {e:Es} (hne:i≠r):∀ {F1 F2:List (Int×Es)} {es:Es},gF (F1++(r,e)::F2) i=some es->∃ es,gF (F1++F2) i=some es
  | [],F2,es,h=>by
    have h:(if i=r then some e else gF F2 i)=some es:=h
    rw [if_neg hne] at h
    exact ⟨es,h⟩
  | (x,u)::F1,F2,es,h=>by
    have h:(if i=x then some u else gF (F1++(r,e)::F2) i)=some es:=h
    show ∃ es,(if i=x then some u else gF (F1++F2) i)=some es
    by_cases hx:i=x
    · rw [if_pos hx];exact ⟨_,rfl⟩
    · rw [if_neg hx] at h ⊢;exact gF_mid hne h
def Bg (w u:World) (s gt n:Nat):Prop:=∃ T A D TA tc,S6 w u T (fun k=>k=gt) s gt A D [] TA tc (foD D) (A.last:Int) none 0 [] n/\(foD D).map (fun p=>p.1)=[1,2]
def Mk6 (w u:World) (s gt gc gv i:Nat) (gs:List Nat):Prop:=∃ L T A D TA tc,gs.length=i/\L.length=i/\S6 w u T (XS gt gc gv gs) s gt A D [] TA tc (foD D) (A.last:Int) none 0 [] 32/\(foD D).map (fun p=>p.1)=[1,2]/\Apt6 gt gc gv gs /\
  Blk u gc (gs.map pv++List.replicate (3-i) (Value.pointer none))/\Blk u gv (cellsV (L++List.replicate (3-i) zV))/\∀ (j g:Nat) (x:VC),gs[j]?=some g->L[j]?=some x->Two6 (OC T (XS gt gc gv gs)) u s g x
set_option maxRecDepth 100000 in
set_option maxHeartbeats 4000000 in
theorem CursorPlays_spec {Ωk Ωo:Nat->Prop} {w:World} {KA OA:Option Addr} {kc oc:Nat} {keys:List (List UInt8)} {ops:List Op6} (iKs:Imm KBs Ωk w KA keys) (iO:Imm KOp6 Ωo w OA ops) :
    CallsV Tryz.prog 4 #[.slice KA keys.length kc,.slice OA ops.length oc] w fun r w'=>r=.bool true/\Ext w w':=by
  refine cardindexlaw06_CursorPlays.calls okay ?_
  unfold cardindexlaw06_CursorPlays.W
  refine (aNew w 4 65536 (by decide) (by decide) (by decide) (by decide)).mono ?_
  rintro _ w1 ⟨s,T0,rfl,h1,e1,hR⟩
  refine ⟨_,_,rfl,brn (fun h=>absurd rfl h) fun _=>?_⟩
  intro gt w2 f2
  have hgt:¬ T0 gt:=fun h=>by have:=h1.lt gt h;have:=f2.ge;omega
  have S0:S6 w w2 T0 (fun k=>k=gt) s gt (A0 4 65536) [] [] none 0 [] 0 none 0 [] 0:=⟨h1.ext f2.ext,e1.trans' f2.ext,hR,f2.blk,rfl,fun k e=>by have e:k=gt:=e;exact e▸hgt,fun k e=>by have e:k=gt:=e;have:=f2.ge;have:=e1.size;omega,fun k e=>by have e:k=gt:=e;have:=f2.lt;omega,⟨⟨Imm.nil _ _ _ _,Nat.le_refl _⟩,Imm.nil _ _ _ _,Nat.le_refl _⟩,⟨Nat.le_refl _,fun p h=>(by cases h),fun p h=>(by cases h)⟩,Nat.le_refl _,fun p h=>(by cases h),rfl⟩
  refine ⟨fun x u=>∃ (j:Nat) (T:Nat->Prop) (A:Ar) (D:List Tr) (TA:Option Addr) (tc:Nat),x=(j:Int)/\j<=2/\S6 w u T (fun k=>k=gt) s gt A D [] TA tc (foD D) (A.last:Int) none 0 [] j/\A.last=j/\foD D=([(1,[]),(2,[])]:List (Int×Es)).take j,fun x _=>(2-x).toNat,⟨0,T0,_,[],none,0,rfl,by omega,S0,rfl,rfl⟩,?_⟩
  clear S0 hgt hR h1 e1 f2
  rintro _ u ⟨j,T,A,D,TA,tc,rfl,hj,S,hl,hF⟩
  refine brd (fun hlt=>?_) (fun hge=>?_)
  · have hj01:j=0\/j=1:=by omega
    have hFl:(foD D).length=j:=by rw [hF,List.length_take];simp;omega
    have hDl:D.length=j:=by rw [List.length_map] at hFl;exact hFl
    have hsz:sizeF (foD D)<A.most:=by
      rw [hF,S.most]
      rcases hj01 with rfl|rfl<;>decide
    refine (kCreate S.sto (by omega) hsz (by omega)).mono ?_
    rintro _ u1 ⟨rfl,A',D',T',h',c,hf',hm',hl',hF'⟩
    have S1:=(S.mono (Nat.le_succ j)).chg h' c (by rw [hl',hl];exact Nat.le_refl _) (fun p h=>by cases h) (hm'.trans S.most)
    refine ⟨_,_,rfl,_,_,_,S1.bt.cell' rfl,_,S1.bt.cell' rfl,(Create_specR S1.tr.t S1.lt (by omega) A.last (by omega)).mono ?_⟩
    rintro _ u2 ⟨TA',tc',rfl,hT,e2⟩
    have S2:=S1.ext e2
    obtain ⟨q1,q2⟩:=S2.setT (la':=((A.last+1:Nat):Int)) hT ⟨by rw [List.length_append];show (foD D).length+1<=j+1;omega,fun p hp=>by
      rcases List.mem_append.1 hp with hp|hp
      · exact S2.sml.es p hp
      · simp at hp;subst hp;exact Nat.zero_le _,fun p hp=>by
      rcases List.mem_append.1 hp with hp|hp
      · exact S2.sml.keys p hp
      · simp at hp;subst hp;intro q hq;cases hq⟩
    refine ⟨_,_,_,_,rfl,q1,fun u3 hu3=>?_⟩
    obtain ⟨S3,_⟩:=q2 u3 hu3
    rw [<- hF',<- hl'] at S3
    rw [wi _ (by omega) (by omega)]
    refine ⟨⟨j+1,T',A',D',TA',tc',by omega,by omega,S3,by omega,?_⟩,by dsimp only;omega⟩
    rw [hF',hF,hl]
    rcases hj01 with rfl|rfl<;>rfl
  obtain rfl:j=2:=by omega
  have hB:Bg w u s gt 2:=⟨T,A,D,TA,tc,S,by rw [hF];rfl⟩
  clear S hl hF hge hj
  refine ⟨fun u=>Bg w u s gt 32,?_,fun x u=>∃ i:Nat,x=(i:Int)/\i<=30/\Bg w u s gt (2+i),fun x _=>(30-x).toNat,⟨0,rfl,by omega,hB⟩,?_⟩
  rotate_left
  · clear hB
    rintro _ u ⟨i,rfl,hi,hB⟩
    have fin:Bg w u s gt 32:=by obtain ⟨T,A,D,TA,tc,S,h⟩:=hB;exact ⟨T,A,D,TA,tc,S.mono (by omega),h⟩
    refine brd (fun hlt=>brd (fun hlt2=>?_) fun _=>fin) fun _=>fin
    have hil:i<keys.length:=by omega
    obtain ⟨T,A,D,TA,tc,S,hids⟩:=hB
    obtain ⟨ad,hA,_,cs,⟨B,cB,rfl,_,iB⟩,hcell⟩:=iKs i keys[i] (List.getElem?_eq_getElem hil)
    generalize keys[i]=key at hcell iB
    replace hcell:w.cell? (ad.add (i*1))=some (.slice B key.length cB):=hcell 0 _ rfl
    have iB0:Imm KB NoB w B key:=iB.sub KB_pos fun _ _ h=>h.elim
    have hwi:IntKind.i64.wrap ((i:Int)+1)=((i+1:Nat):Int):=by rw [wi _ (by omega) (by omega)];omega
    refine ⟨ad,hA,⟨by omega,by omega⟩,_,_,_,by rw [Int.toNat_natCast];exact Ext.cell S.e hcell,?_⟩
    rw [hwi]
    refine brd (fun hsm=>?_) fun _=>⟨⟨i+1,rfl,by omega,T,A,D,TA,tc,S.mono (by omega),hids⟩,by dsimp only;omega⟩
    obtain ⟨e1,e2,hFe⟩:=two_trees hids
    have htm:Int.tmod (i:Int) 2=((i % 2:Nat):Int):=by rw [Int.tmod_eq_emod_of_nonneg (by omega)];omega
    have hb2:i % 2<2:=Nat.mod_lt _ (by decide)
    generalize i % 2=b at htm hb2
    obtain ⟨es,hFb⟩:∃ es,(foD D)[b]?=some (((b+1:Nat):Int),es):=by
      rw [hFe]
      have:b=0\/b=1:=by omega
      rcases this with rfl|rfl
      · exact ⟨e1,rfl⟩
      · exact ⟨e2,rfl⟩
    have hid:IntKind.i64.wrap (1+Int.tmod (i:Int) 2)=((b+1:Nat):Int):=by rw [htm,wi _ (by omega) (by omega)];omega
    have hI:Inv A D:=S.sto.inv
    have hg:gF (foD D) ((b+1:Nat):Int)=some es:=gF_nd hI.ndF hFb
    have hme:=List.mem_of_getElem? hFb
    have hel:es.length<=2+i:=S.sml.es _ hme
    have hks:∀ p∈es,p.1.length<=1048576:=S.sml.keys _ hme
    have hFl:=S.sml.len
    have ed:Ext u u.drew:=Fr.drew NoB u
    have Sd:=S.ext ed
    have rdk:∀ z,Ext u z->z.cell? (ad.add ((i:Int).toNat*1))=some (.slice B key.length cB):=fun z e=>by rw [Int.toNat_natCast];exact Ext.cell (S.e.trans' e) hcell
    refine ⟨by decide,ad,hA,⟨by omega,by omega⟩,fun z=>Ext u z,ed,_,_,_,rdk,ad,hA,⟨by omega,by omega⟩,_,_,_,rdk,?_⟩
    rw [hid]
    refine (kPut Sd.sto hg (by rw [S.most];exact S.sml.room (by omega)) (by omega) (by omega) (iB0.ext KB_pos Sd.e) (iB0.ext KB_pos Sd.e) cB cB).mono ?_
    rintro _ u1 ⟨rfl,A1,D1,T1,h1,c1,hs1,hF1⟩
    have S1:=(Sd.mono (Nat.le_succ (2+i))).chg h1 c1 (by rw [hs1.last];exact Nat.le_succ_of_le S.last) (fun p h=>by cases h) (hs1.most.trans S.most)
    have ed1:Ext u1 u1.drew:=Fr.drew NoB u1
    have S1d:=S1.ext ed1
    have rdk1:∀ z,Ext u1 z->z.cell? (ad.add ((i:Int).toNat*1))=some (.slice B key.length cB):=fun z e=>by rw [Int.toNat_natCast];exact Ext.cell (S1.e.trans' e) hcell
    refine ⟨_,_,rfl,fun z=>Ext u1 z,ed1,_,_,_,fun z e=>(S1.bt.ext e).cell' rfl,_,fun z e=>(S1.bt.ext e).cell' rfl,by decide,ad,hA,⟨by omega,by omega⟩,_,_,_,rdk1,ad,hA,⟨by omega,by omega⟩,_,_,_,rdk1,?_⟩
    rw [htm]
    refine (Put_specR S1d.tr.t S1d.lt (by omega) hFb (by omega) (A.last:Int) (iB0.ext KB_pos S1d.e) (iB0.ext KB_pos S1d.e) cB cB (by omega) (by omega) hks).mono ?_
    rintro _ u2 ⟨TA',tc',rfl,hT,e2'⟩
    have S2:=S1d.ext e2'
    have hsl:=insE_sml (key:=key) (val:=key) (show key.length<=1048576 by omega) hel hks
    obtain ⟨q1,q2⟩:=S2.setT (la':=(A.last:Int)) hT (S2.sml.set _ _ (by omega) hsl.2)
    refine ⟨_,_,_,_,rfl,q1,fun u3 hu3=>?_⟩
    obtain ⟨S3,_⟩:=q2 u3 hu3
    rw [<- upF_set6 hI.ndF hFb,<- hF1,<- hs1.last] at S3
    refine ⟨⟨i+1,rfl,by omega,T1,A1,D1,TA',tc',S3,?_⟩,by dsimp only;omega⟩
    rw [hF1,upF_set6 hI.ndF hFb,hFe]
    have:b=0\/b=1:=by omega
    rcases this with rfl|rfl<;>rfl
  clear hB
  rintro u ⟨T,A,D,TA,tc,S,hids⟩
  intro gc u1 f1 gv u2 f2
  have y1:=f1.ge
  have y2:=f2.ge
  have x1:=f1.ext.size
  have z1:=f1.lt
  have hgtl:=S.xl gt S.xt
  have M0:Mk6 w u2 s gt gc gv 0 []:=by
    refine ⟨[],T,A,D,TA,tc,rfl,rfl,((S.add f1.ext y1 f1.lt).add f2.ext y2 f2.lt).cong (fun k=>?_),hids,⟨List.nodup_nil,by simp,by simp,by simp,by omega,by omega,by omega⟩,f1.blk.ext f2.ext,f2.blk,fun j g x h=>by simp at h⟩
    constructor
    · rintro (h|h|h|h)
      · exact .inl (.inl h)
      · exact .inl (.inr h)
      · exact .inr h
      · cases h
    · rintro ((h|h)|h)
      · exact .inl h
      · exact .inr (.inl h)
      · exact .inr (.inr (.inl h))
  clear S hids f1 f2 y1 y2 x1 z1 hgtl
  refine ⟨fun x u=>∃ (i:Nat) (gs:List Nat),x=(i:Int)/\i<=3/\Mk6 w u s gt gc gv i gs,fun x _=>(3-x).toNat,⟨0,[],rfl,by omega,M0⟩,?_⟩
  clear M0
  rintro _ u ⟨i,gs,rfl,hi,L,T,A,D,TA,tc,hgl,hLl,S,hids,ap,bc,bv,two⟩
  refine brd (fun hlt=>?_) (fun hge=>?_)
  · have htd:Int.tdiv (i:Int) 2=((i / 2:Nat):Int):=by rw [Int.tdiv_eq_ediv_of_nonneg (by omega)];omega
    have hid2:IntKind.i64.wrap (1+IntKind.i64.wrap (Int.tdiv (i:Int) 2))=((1+i / 2:Nat):Int):=by rw [htd,wi ((i / 2:Nat):Int) (by omega) (by omega),wi _ (by omega) (by omega)];omega
    have hin:((1+i / 2:Nat):Int)∈idsD D:=by
      rw [ids_foD,hids]
      have:i / 2=0\/i / 2=1:=by omega
      rcases this with h|h<;>rw [h]<;>simp
    have hwi:IntKind.i64.wrap ((i:Int)+1)=((i+1:Nat):Int):=by rw [wi _ (by omega) (by omega)];omega
    obtain ⟨m,hm⟩:∃ m,3-i=m+1:=⟨2-i,by omega⟩
    have hm':3-(i+1)=m:=by omega
    rw [hm] at bc bv
    rw [hid2,hwi]
    refine ⟨by decide,(cNew S.sto ((1+i / 2:Nat):Int)).mono ?_⟩
    rintro r u1 ⟨e1,⟨_,g,rfl,hg,hc⟩|⟨hno,_⟩⟩
    rotate_left
    · exact absurd hin hno
    have hgl1:=(hc NoB).lt
    have hX1:=S.xl
    have hgs:∀ x∈gs,x<u.heap.size:=fun x hx=>hX1 x (.inr (.inr (.inr hx)))
    have l1:=hX1 gt (.inl rfl)
    have l2:=hX1 gc (.inr (.inl rfl))
    have l3:=hX1 gv (.inr (.inr (.inl rfl)))
    have hX:∀ k,XS gt gc gv (gs++[g]) k<->(XS gt gc gv gs k\/k=g):=fun k=>by
      constructor
      · rintro (h|h|h|h)
        · exact .inl (.inl h)
        · exact .inl (.inr (.inl h))
        · exact .inl (.inr (.inr (.inl h)))
        · rcases List.mem_append.1 h with h|h
          · exact .inl (.inr (.inr (.inr h)))
          · exact .inr (List.mem_singleton.1 h)
      · rintro ((h|h|h|h)|h)
        · exact .inl h
        · exact .inr (.inl h)
        · exact .inr (.inr (.inl h))
        · exact .inr (.inr (.inr (List.mem_append_left _ h)))
        · exact .inr (.inr (.inr (List.mem_append_right _ (List.mem_singleton.2 h))))
    have S1:=(S.add e1 hg hgl1).cong hX
    have ap1:Apt6 gt gc gv (gs++[g]):=by
      refine ⟨List.nodup_append.2 ⟨ap.nd,List.pairwise_singleton _ _,fun x hx y hy e=>?_⟩,fun h=>?_,fun h=>?_,fun h=>?_,ap.tc,ap.tv,ap.cv⟩
      · obtain rfl:=List.mem_singleton.1 hy
        subst e
        have:=hgs x hx;omega
      · rcases List.mem_append.1 h with h|h
        · exact ap.t h
        · have:=List.mem_singleton.1 h;omega
      · rcases List.mem_append.1 h with h|h
        · exact ap.c h
        · have:=List.mem_singleton.1 h;omega
      · rcases List.mem_append.1 h with h|h
        · exact ap.v h
        · have:=List.mem_singleton.1 h;omega
    have two1:∀ (j g':Nat) (x:VC),(gs++[g])[j]?=some g'->(L++[⟨((1+i / 2:Nat):Int),none,0,0,false⟩])[j]?=some x->Two6 (OC T (XS gt gc gv (gs++[g]))) u1 s g' x:=by
      intro j g' x hjg hjx
      rcases Nat.lt_or_ge j i with hji|hji
      · rw [List.getElem?_append_left (by omega)] at hjg hjx
        obtain ⟨k,a,b⟩:=two j g' x hjg hjx
        have hsub:∀ k,k<u.heap.size->OC T (XS gt gc gv (gs++[g])) k->OC T (XS gt gc gv gs) k:=fun k hk h=>h.elim .inl fun h=>((hX k).1 h).elim .inr fun h=>by omega
        exact ⟨k,a.fr e1 (fun h=>h) (fun _ _ h=>h.elim) hsub,b.keep (Fr.step (S:=NoB) e1 (fun _ _ h=>h.elim) hsub)⟩
      · have hj1:=(List.getElem?_eq_some_iff.1 hjg).1
        rw [List.length_append,List.length_singleton] at hj1
        obtain rfl:j=i:=by omega
        rw [List.getElem?_append_right (by omega),hgl,Nat.sub_self] at hjg
        rw [List.getElem?_append_right (by omega),hLl,Nat.sub_self] at hjx
        obtain rfl:g=g':=Option.some.inj hjg
        obtain rfl:=Option.some.inj hjx
        exact ⟨none,hc _,rfl⟩
    obtain ⟨p1,p2⟩:=putP hgl (bc.ext e1) g
    refine ⟨_,_,rfl,brn (fun h=>absurd rfl h) fun _=>⟨by decide,⟨by omega,by omega⟩,by rw [Int.toNat_natCast];exact p1,fun u2 hu2=>?_⟩⟩
    rw [Int.toNat_natCast] at hu2
    obtain ⟨bc2,fc⟩:=p2 u2 hu2
    obtain ⟨q1,q2⟩:=putZ hLl ((bv.ext e1).keep fc (fun e=>ap.cv (by have e:gv=gc:=e;exact e.symm))) ⟨((1+i / 2:Nat):Int),none,0,0,false⟩
    refine ⟨⟨by omega,by omega⟩,by rw [Int.toNat_natCast];exact q1,fun u3 hu3=>?_⟩
    rw [Int.toNat_natCast] at hu3
    obtain ⟨bv3,fv⟩:=q2 u3 hu3
    have S3:=(S1.wr fc (.inr (.inl rfl)) ap.tc).wr fv (.inr (.inr (.inl rfl))) ap.tv
    refine ⟨⟨i+1,gs++[g],rfl,by omega,L++[⟨((1+i / 2:Nat):Int),none,0,0,false⟩],T,A,D,TA,tc,by rw [List.length_append,hgl];rfl,by rw [List.length_append,hLl];rfl,S3,hids,ap1,?_,?_,fun j g' x a b=>?_⟩,by dsimp only;omega⟩
    · rw [hm'];exact bc2.keep fv ap.cv
    · rw [hm'];exact bv3
    · obtain ⟨k,c,d⟩:=two1 j g' x a b
      have hm:=List.mem_of_getElem? a
      have n1:¬ g'=gc:=fun e=>ap1.c (e▸hm)
      have n2:¬ g'=gv:=fun e=>ap1.v (e▸hm)
      have o1:∀ k,k<u1.heap.size->k=gc->OC T (XS gt gc gv (gs++[g])) k:=fun k _ e=>.inr (.inr (.inl e))
      have o2:∀ k,k<u2.heap.size->k=gv->OC T (XS gt gc gv (gs++[g])) k:=fun k _ e=>.inr (.inr (.inr (.inl e)))
      exact ⟨k,(c.fr fc n1 o1 fun _ _ h=>h).fr fv n2 o2 fun _ _ h=>h,(d.keep (fc.step o1 fun _ _ h=>h)).keep (fv.step o2 fun _ _ h=>h)⟩
  obtain rfl:i=3:=by omega
  have R0:R6 w u s gt gc gv gs 32:=⟨T,A,D,[],TA,tc,none,0,L,S,⟨by have:=bc;simpa using this,by have:=bv;simpa using this,by omega,two⟩,by obtain ⟨e1,e2,h⟩:=two_trees hids;exact ⟨e1,by rw [h];rfl⟩,fun p h=>by cases h⟩
  clear S hids bc bv two hge hi
  refine ⟨fun x u=>∃ j:Nat,x=(j:Int)/\j<=80/\R6 w u s gt gc gv gs (32+j),fun x _=>(80-x).toNat,⟨0,rfl,by omega,R0⟩,?_⟩
  clear R0
  have aw:∀ {u:World} {n:Nat},R6 w u s gt gc gv gs n->CallsV Tryz.prog 18 #[] u fun v w'=>∃ x,v=.bool x/\((fun r w'=>r=Value.bool true/\Ext w w') (.bool x) w'):=fun R=>(awake6_spec _).mono fun v w' ⟨h1,h2⟩=>⟨true,h1,rfl,by obtain ⟨_,_,_,_,_,_,_,_,_,S,_⟩:=R;exact S.e.trans' h2⟩
  rintro _ u ⟨j,rfl,hj,hR⟩
  refine brd (fun hlt=>brd (fun hlt8=>?_) (fun _=>aw hR)) (fun _=>aw hR)
  have hjl:j<ops.length:=by omega
  have hwi:IntKind.i64.wrap ((j:Int)+1)=((j+1:Nat):Int):=by rw [wi _ (by omega) (by omega)];omega
  obtain ⟨ad,OKA,okc,OVA,ovc,hOA,C⟩:=opC6 iO hjl
  generalize ops[j]=op at C
  obtain ⟨T,A,D,ms,TA,tc,MA,mc,L,S00,Cs0,hone⟩:=hR
  have hs32:=S00.sml.es
  have S:S6 w u T (XS gt gc gv gs) s gt A D ms TA tc (foD D) (A.last:Int) MA mc (msR6 ms) (33+j):=S00.mono (by omega)
  have hsml32:∀ p∈foD D,p.2.length<=32+j:=hs32
  have Cu:=C.ext S.e
  refine ⟨fun u=>R6 w u s gt gc gv gs (33+j),fun u1 R1=>by rw [hwi];exact ⟨⟨j+1,rfl,by omega,by rw [show 32+(j+1)=33+j by omega];exact R1⟩,by dsimp only;omega⟩,ad,hOA,⟨by omega,by omega⟩,?_⟩
  rw [Int.toNat_natCast]
  refine ⟨_,Cu.c0,_,Cu.c1,_,Cu.c2,_,Cu.c3,_,_,_,Cu.c4,_,_,_,Cu.c5,?_⟩
  intro go u1 f1
  refine ⟨f1.blk.stOK (o:=0) [_,_,_,_,_,_] 0 (by simp),fun u2 hu2=>?_⟩
  have bo:Blk u2 go [.int .i64 op.kind,.int .i64 op.which,.int .i64 op.n,.int .u8 op.how,.slice OKA op.key.length okc,.slice OVA op.val.length ovc]:=by rw [hu2];exact Blk.setAll (o:=0) [.int .i64 op.kind,.int .i64 op.which,.int .i64 op.n,.int .u8 op.how,.slice OKA op.key.length okc,.slice OVA op.val.length ovc] 0 f1.blk
  have e2:Ext u u2:=by rw [hu2];exact f1.ext.setAll f1.ge _ _
  have S2:=S.ext e2
  have C2:=Cs0.ext e2
  have hgoX:∀ k,OC T (XS gt gc gv gs) k->k≠go:=fun k hk e=>by have:=S.lt k hk;have:=f1.ge;omega
  have hgoT:¬ T go:=fun h=>hgoX go (.inl h) rfl
  have rest2:R6 w u2 s gt gc gv gs (33+j):=⟨T,A,D,ms,TA,tc,MA,mc,L,S2,C2,hone⟩
  refine ⟨_,_,_,bo.cell rfl,brd (fun _=>rest2) fun hk1=>⟨_,_,_,bo.cell rfl,brd (fun _=>rest2) fun hv1=>⟨_,bo.cell rfl,(Pick_spec u2 op.which 3 (by decide) (by decide)).mono ?_⟩⟩⟩
  rintro _ u3 ⟨k,rfl,hk3,rfl⟩
  have hkn:k<3:=by omega
  have hkg:k<gs.length:=by omega
  have hkL:k<L.length:=by rw [C2.len];exact hkg
  obtain ⟨g,hg⟩:∃ g,gs[k]?=some g:=⟨_,List.getElem?_eq_getElem hkg⟩
  obtain ⟨x,hx⟩:∃ x,L[k]?=some x:=⟨_,List.getElem?_eq_getElem hkL⟩
  have ed:Ext u3 u3.drew:=Fr.drew NoB u3
  have Sd:=S2.ext ed
  have hFl:(foD D).length<=33+j:=S2.sml.len
  refine ⟨_,rfl,fun z=>Ext u3 z,ed,_,_,_,fun z e=>(S2.bt.ext e).cell' rfl,_,fun z e=>(S2.bt.ext e).cell' rfl,⟨by omega,by omega⟩,_,fun z e=>by rw [Int.toNat_natCast];exact ((C2.ext e).rd hx).1,(Find_spec Sd.tr.t.1 (by omega) _ x.id).mono ?_⟩
  rintro _ u4 ⟨fi,rfl,hf,e4⟩
  have e24:=ed.trans' e4
  have S4:=S2.ext e24
  have C4:=C2.ext e24
  have bo4:=bo.ext e24
  have Co:=C.ext S4.e
  have hI:Inv A D:=S4.sto.inv
  have hms:ms.length<=100:=S4.sto.cnt
  have hla:A.last<=33+j:=S4.last
  have hup:∀ {i:Int} es,gF (foD D) i=some es->UpE es:=fun es h=>hI.upD h
  have hm:=List.mem_of_getElem? hg
  have xg:XS gt gc gv gs g:=.inr (.inr (.inr hm))
  have hgt:gt≠g:=fun e=>ap.t (e▸hm)
  have hgc:gc≠g:=fun e=>ap.c (e▸hm)
  have hgv:gv≠g:=fun e=>ap.v (e▸hm)
  obtain ⟨k0,hC,hK⟩:=C4.two k g x hg hx
  have iKΩ:Imm KB (OC T (XS gt gc gv gs)) u4 OKA op.key:=S4.imm C.k
  have iVΩ:Imm KB (OC T (XS gt gc gv gs)) u4 OVA op.val:=S4.imm C.v
  clear S2 C2 bo S S00 Cs0 Sd Cu rest2 f1 hu2 e2
  refine ⟨_,rfl,fun a b p q u=>a=b/\p=q/\R6 w u s gt gc gv gs (33+j),?_,_,bo4.cell rfl,fun _ u=>u=u4,?_,brd (fun _=>rfl) fun _=>rfl⟩
  · rintro a _ p _ u5 ⟨rfl,rfl,hR⟩
    clear S4 C4 bo4 Co hI hms hla hup hC hK iKΩ iVΩ hf hone hm xg hgt hgc hgv hx hkL hg hFl k0 x g
    refine brn (fun h=>absurd rfl h) fun _=>brn (fun h=>absurd rfl h) fun _=>⟨fun x v=>∃ i:Nat,x=(i:Int)/\i<=3/\R6 w v s gt gc gv gs (33+j),fun x _=>(3-x).toNat,⟨0,rfl,by omega,hR⟩,?_⟩
    clear hR
    rintro _ v ⟨i,rfl,hi,hR⟩
    refine brd (fun hlt=>?_) fun _=>hR
    obtain ⟨T,A,D,ms,TA,tc,MA,mc,L,S,C,hone⟩:=hR
    have hig:i<gs.length:=by omega
    have hiL:i<L.length:=by rw [C.len];exact hig
    obtain ⟨g,hg⟩:∃ g,gs[i]?=some g:=⟨_,List.getElem?_eq_getElem hig⟩
    obtain ⟨x,hx⟩:∃ x,L[i]?=some x:=⟨_,List.getElem?_eq_getElem hiL⟩
    obtain ⟨k,hC,hK⟩:=C.two i g x hg hx
    have hI:Inv A D:=S.sto.inv
    have hup:∀ es,gF (foD D) x.id=some es->UpE es:=fun es h=>hI.upD h
    have ed:Ext v v.drew:=Fr.drew NoB v
    refine ⟨⟨by omega,by omega⟩,fun z=>Ext v z,ed,_,fun z e=>by rw [Int.toNat_natCast];exact ((C.ext e).rd hx).1,_,_,_,fun z e=>by rw [Int.toNat_natCast];exact ((C.ext e).rd hx).2.1,_,fun z e=>by rw [Int.toNat_natCast];exact ((C.ext e).rd hx).2.2,_,_,_,fun z e=>(S.bt.ext e).cell' rfl,_,fun z e=>(S.bt.ext e).cell' rfl,?_,?_⟩
    · refine (Entry6_spec (S.ext ed).tr.t S.sml (by omega) hup (hK.keep (ed.step _))).mono ?_
      rintro r v1 ⟨hE,e1⟩
      obtain ⟨A1,c1,A2,c2,rfl,i1,i2⟩:=hE.read
      refine ⟨_,_,_,_,_,_,_,rfl,?_⟩
      intro gz v2 f2
      refine ⟨f2.blk.stOK (o:=0) [_,_] 0 (by simp),fun v3 hv3=>?_⟩
      have bz:=(set0 f2.blk hv3 rfl).1
      have e13:Ext v1 v3:=by rw [hv3];exact f2.ext.setAll f2.ge _ _
      have e03:=(ed.trans' e1).trans' e13
      replace i1:=i1.ext KB_pos e13
      replace i2:=i2.ext KB_pos e13
      have bz3:Blk v3 gz [.slice A1 ((atX (foD D) x.id k).elim [] fun p=>p.1).length c1,.slice A2 ((atX (foD D) x.id k).elim [] fun p=>p.2).length c2]:=bz
      have S3:=S.ext e03
      have C3:=C.ext e03
      have hC3:=hC.ext e03
      have ed3:Ext v3 v3.drew:=Fr.drew NoB v3
      refine ⟨⟨by omega,by omega⟩,fun z=>Ext v3 z,ed3,_,fun z e=>by rw [Int.toNat_natCast];exact (C3.ext e).ptr hg,(cValid (S3.ext ed3).sto (hC3.ext ed3)).mono ?_⟩
      rintro _ v4 ⟨rfl,e4⟩
      have e34:=ed3.trans' e4
      refine ⟨_,rfl,brn (fun h=>absurd rfl h) fun _=>⟨⟨by omega,by omega⟩,fun z=>Ext v4 z,.refl _ _,_,fun z e=>by rw [Int.toNat_natCast];exact (C3.ext (e34.trans' e)).ptr hg,_,_,_,fun z e=>(bz3.ext (e34.trans' e)).cell rfl,(pKey (S3.ext e34).sto (hC3.ext e34)).mono ?_⟩⟩
      rintro _ v5 ⟨e5,B1,d1,rfl,iB1⟩
      have e35:=e34.trans' e5
      refine ⟨_,_,_,rfl,e5,(SameBytes_spec iB1 (i1.ext KB_pos e35)).same ⟨_,rfl,brnb (fun h=>absurd (decide_eq_true rfl) (by rw [h];decide)) fun _=>⟨⟨by omega,by omega⟩,fun z=>Ext v5 z,.refl _ _,_,fun z e=>by rw [Int.toNat_natCast];exact (C3.ext (e35.trans' e)).ptr hg,_,_,_,fun z e=>(bz3.ext (e35.trans' e)).cell rfl,(pValue (S3.ext e35).sto (hC3.ext e35)).mono ?_⟩⟩⟩
      rintro _ v6 ⟨e6,B2,d2,rfl,iB2⟩
      have e36:=e35.trans' e6
      refine ⟨_,_,_,rfl,e6,(SameBytes_spec iB2 (i2.ext KB_pos e36)).same ⟨_,rfl,brnb (fun h=>absurd (decide_eq_true rfl) (by rw [h];decide)) fun _=>⟨⟨i+1,by rw [wi _ (by omega) (by omega)];omega,by omega,T,A,D,ms,TA,tc,MA,mc,L,S3.ext e36,C3.ext e36,hone⟩,by rw [wi _ (by omega) (by omega)];dsimp only;omega⟩⟩⟩
    · intro gz v2 f2
      have e02:=ed.trans' f2.ext
      have hgz:∀ k,k<v.heap.size->k≠gz:=fun k hk e=>by have:=f2.ge;have:=ed.size;omega
      have st2:Step (OC T (XS gt gc gv gs)) v (fun k=>OC T (XS gt gc gv gs) k\/k=gz) v2:=Fr.step (S:=NoB) e02 (fun _ _ h=>h.elim) fun k hk h=>h.elim id fun h=>absurd h (hgz k hk)
      refine ⟨e02,(Entry6_spec (S.tr.t.keep st2) S.sml (by omega) hup (hK.keep st2)).mono ?_⟩
      rintro r v1 ⟨hE,e1⟩
      obtain ⟨A1,c1,A2,c2,rfl,i1,i2⟩:=hE.read
      refine ⟨_,_,_,_,_,_,_,rfl,(f2.blk.ext e1).stOK (o:=0) [_,_] 0 (by simp),fun v3 hv3=>?_⟩
      have bzf:=set0 (f2.blk.ext e1) hv3 rfl
      have bz:=bzf.1
      have f13:=bzf.2
      have e03:Ext v v3:=(e02.trans' e1).trans f13 (fun _ _ h=>h) (fun k hk e=>hgz k hk e)
      have st3:Step (fun k=>OC T (XS gt gc gv gs) k\/k=gz) v1 (OC T (XS gt gc gv gs)) v3:=f13.step (fun k _ h=>.inr h) fun k _ h=>.inl h
      replace i1:=i1.keep KB_pos st3
      replace i2:=i2.keep KB_pos st3
      have bz3:Blk v3 gz [.slice A1 ((atX (foD D) x.id k).elim [] fun p=>p.1).length c1,.slice A2 ((atX (foD D) x.id k).elim [] fun p=>p.2).length c2]:=bz
      have S3:=S.ext e03
      have C3:=C.ext e03
      have hC3:=hC.ext e03
      have ed3:Ext v3 v3.drew:=Fr.drew NoB v3
      refine ⟨⟨by omega,by omega⟩,fun z=>Ext v3 z,ed3,_,fun z e=>by rw [Int.toNat_natCast];exact (C3.ext e).ptr hg,(cValid (S3.ext ed3).sto (hC3.ext ed3)).mono ?_⟩
      rintro _ v4 ⟨rfl,e4⟩
      have e34:=ed3.trans' e4
      refine ⟨_,rfl,brn (fun h=>absurd rfl h) fun _=>⟨⟨by omega,by omega⟩,fun z=>Ext v4 z,.refl _ _,_,fun z e=>by rw [Int.toNat_natCast];exact (C3.ext (e34.trans' e)).ptr hg,_,_,_,fun z e=>(bz3.ext (e34.trans' e)).cell rfl,(pKey (S3.ext e34).sto (hC3.ext e34)).mono ?_⟩⟩
      rintro _ v5 ⟨e5,B1,d1,rfl,iB1⟩
      have e35:=e34.trans' e5
      refine ⟨_,_,_,rfl,e5,(SameBytes_spec iB1 (i1.ext KB_pos e35)).same ⟨_,rfl,brnb (fun h=>absurd (decide_eq_true rfl) (by rw [h];decide)) fun _=>⟨⟨by omega,by omega⟩,fun z=>Ext v5 z,.refl _ _,_,fun z e=>by rw [Int.toNat_natCast];exact (C3.ext (e35.trans' e)).ptr hg,_,_,_,fun z e=>(bz3.ext (e35.trans' e)).cell rfl,(pValue (S3.ext e35).sto (hC3.ext e35)).mono ?_⟩⟩⟩
      rintro _ v6 ⟨e6,B2,d2,rfl,iB2⟩
      have e36:=e35.trans' e6
      refine ⟨_,_,_,rfl,e6,(SameBytes_spec iB2 (i2.ext KB_pos e36)).same ⟨_,rfl,brnb (fun h=>absurd (decide_eq_true rfl) (by rw [h];decide)) fun _=>⟨⟨i+1,by rw [wi _ (by omega) (by omega)];omega,by omega,T,A,D,ms,TA,tc,MA,mc,L,S3.ext e36,C3.ext e36,hone⟩,by rw [wi _ (by omega) (by omega)];dsimp only;omega⟩⟩⟩
  rintro bb u0 hu0
  obtain rfl:u4=u0:=hu0.symm
  have ed:Ext u4 u4.drew:=Fr.drew NoB u4
  have Sd:=S4.ext ed
  refine br (fun _=>?_) (fun _=>brd (fun _=>?_) fun _=>⟨fun _ u=>u=u4,?_,brd (fun _=>rfl) fun _=>rfl⟩)
  · -- Insert
    refine ⟨⟨by omega,by omega⟩,fun z=>Ext u4 z,ed,_,fun z e=>by rw [Int.toNat_natCast];exact (C4.ext e).ptr hg,_,_,_,fun z e=>(bo4.ext e).cell rfl,_,_,_,fun z e=>(bo4.ext e).cell rfl,?_⟩
    obtain ⟨A',D',was,e,rel,hP⟩:=cInsert (A:=A) (D:=D) hI x.id (key:=op.key) (val:=op.val) (by omega) (by omega)
    refine (hP Sd.sto (hC.ext ed) (S4.xT g xg) xg Sd.xl (iKΩ.ext KB_pos ed) (iVΩ.ext KB_pos ed) (fun _ h=>.inl h) okc ovc).mono ?_
    rintro _ u5 ⟨rfl,T5,v5,h5,c5,f5,hC5⟩
    have cT:Tch T u4 T5 v5:=(Tch.ext ed).trans c5
    have S5:=S4.chgG h5 cT f5 xg hgt (by rw [rel.same.last];exact S4.last) S4.msm (rel.same.most.trans S4.most)
    have O5:=((C4.oth k).tch cT S4.xT).wrX f5 xg fun i g' hi hg'=>gs_ne ap.nd hg' hg hi
    have bc5:=(C4.bc.keep cT.fr (S4.xT gc (.inr (.inl rfl)))).keep f5 hgc
    have bv5:=(C4.bv.keep cT.fr (S4.xT gv (.inr (.inr (.inl rfl))))).keep f5 hgv
    have bo5:=(bo4.keep cT.fr hgoT).keep f5 (fun e=>hgoX g (.inr xg) (by have e:go=g:=e;exact e.symm))
    have stK:Step (OC T (XS gt gc gv gs)) u4 (OC T5 (XS gt gc gv gs)) u5:=by
      have a:Step (OC T (XS gt gc gv gs)) u4 (OC T5 (XS gt gc gv gs)) v5:=cT.fr.step (fun _ _ h=>.inl h) fun k hk h=>h.elim (fun h=>.inl ((cT.sub k h).resolve_right (by omega))) .inr
      have b:Step (OC T5 (XS gt gc gv gs)) v5 (OC T5 (XS gt gc gv gs)) u5:=f5.step (fun k _ e=>by have e:k=g:=e;exact .inr (e▸xg)) fun _ _ h=>h
      exact ⟨Nat.le_trans a.size b.size,fun k hk hn=>(b.block k (Nat.lt_of_lt_of_le hk a.size) (fun h=>hn (a.sub k hk h))).trans (a.block k hk hn),fun k hk h=>a.sub k hk (b.sub k (Nat.lt_of_lt_of_le hk a.size) h)⟩
    refine ⟨_,_,rfl,?_⟩
    rcases hf.cases with ⟨rfl,hgn,_⟩|⟨j2,es,rfl,hFk,hgs⟩
    · rcases rel.rel with ⟨_,rfl,rfl,rfl,rfl⟩|⟨D1,d,D2,d',full,hD,hr,_⟩
      · rw [if_neg (by decide)] at hC5
        refine brd (fun _=>⟨rfl,rfl,T5,_,_,ms,TA,tc,MA,mc,L,S5,⟨bc5,bv5,C4.len,?_⟩,hone⟩) fun h=>absurd (by decide) h
        have:=O5.all hg hkL (y:=x) ⟨k0,hC5,hK.keep stK⟩
        have e0:L.set k x=L:=by
          apply List.ext_getElem?
          intro i
          by_cases hi:k=i
          · subst hi;rw [List.getElem?_set_self hkL,hx]
          · rw [List.getElem?_set_ne hi]
        rwa [e0] at this
      · have:=gF_split6 hI.ndF hD
        rw [hr,hgn] at this;cases this
    · obtain ⟨rfl,rfl,hfo⟩:=rel.room hI hgs (by rw [S4.most];exact S4.sml.room (by omega))
      rw [if_pos rfl] at hC5
      have hme:=List.mem_of_getElem? hFk
      have hks:∀ p∈es,p.1.length<=1048576:=S4.sml.keys _ hme
      have hel:es.length<=32+j:=hsml32 _ hme
      have Co5:=C.ext S5.e
      refine brd (fun h=>absurd h (by omega)) fun _=>⟨_,_,_,S5.bt.cell' rfl,_,S5.bt.cell' rfl,_,_,_,bo5.cell rfl,(Place_spec S5.tr.t.1 hFk (by omega) _ Co5.k okc hks).mono ?_⟩
      rintro _ u6 ⟨rfl,e6⟩
      have S6':=S5.ext e6
      have bo6:=bo5.ext e6
      have Co6:=Co5.ext e6
      have hsl:=insE_sml (key:=op.key) (val:=op.val) (show op.key.length<=1048576 by omega) hel hks
      refine ⟨_,_,rfl,_,_,_,S6'.bt.cell' rfl,_,S6'.bt.cell' rfl,_,_,_,bo6.cell rfl,_,_,_,bo6.cell rfl,(Put_specR S6'.tr.t S6'.lt (by omega) hFk (by omega) _ Co6.k Co6.v okc ovc (by omega) (by omega) hks).mono ?_⟩
      rintro _ u7 ⟨TA',tc',rfl,hT,e7⟩
      have S7:=S6'.ext e7
      obtain ⟨q1,q2⟩:=S7.setT (la':=(A.last:Int)) hT (S7.sml.set _ _ (by omega) hsl.2)
      refine ⟨_,_,_,_,rfl,q1,fun u8 hu8=>?_⟩
      obtain ⟨S8,f8⟩:=q2 u8 hu8
      rw [<- upF_set6 hI.ndF hFk,<- hfo,<- rel.same.last] at S8
      have e57:=e6.trans' e7
      have O8:=(O5.ext e57).wrX f8 (.inl rfl) fun i g' _ hg' e=>ap.t (e▸List.mem_of_getElem? hg')
      have bc8:=(bc5.ext e57).keep f8 (fun e=>ap.tc (by have e:gc=gt:=e;exact e.symm))
      have bv8:=(bv5.ext e57).keep f8 (fun e=>ap.tv (by have e:gv=gt:=e;exact e.symm))
      have bo8:=(bo5.ext e57).keep f8 (fun e=>hgoX gt (.inr (.inl rfl)) (by have e:go=gt:=e;exact e.symm))
      have hC8:=(hC5.ext e57).fr f8 (fun e=>hgt (by have e:g=gt:=e;exact e.symm)) (fun k _ e=>by have e:k=gt:=e;exact .inr (.inl e)) fun _ _ h=>h
      have Co8:=C.ext S8.e
      refine ⟨_,_,_,bo8.cell rfl,(CopyBytes_spec (c:=okc) Co8.k (by omega)).mono ?_⟩
      rintro _ u9 ⟨CA,rfl,o9,e9,n9⟩
      have S9:=S8.ext e9
      have iC:Imm KB (OC T5 (XS gt gc gv gs)) u9 CA op.key:=o9.imm fun k hk ho=>by have:=n9 k hk;have:=S8.lt k ho;omega
      obtain ⟨r1,r2⟩:=putV1 (bv8.ext e9) hx CA op.key.length op.key.length
      refine ⟨_,_,_,rfl,⟨by omega,by omega⟩,by rw [Int.toNat_natCast];exact r1,fun u10 hu10=>?_⟩
      rw [Int.toNat_natCast] at hu10
      obtain ⟨bv10,f10⟩:=r2 u10 hu10
      have hx10:(L.set k ⟨x.id,CA,op.key.length,op.key.length,x.ok⟩)[k]?=some ⟨x.id,CA,op.key.length,op.key.length,x.ok⟩:=List.getElem?_set_self hkL
      obtain ⟨s1,s2⟩:=putV2 bv10 hx10 true
      refine ⟨⟨by omega,by omega⟩,by rw [Int.toNat_natCast];exact s1,fun u11 hu11=>?_⟩
      rw [Int.toNat_natCast] at hu11
      obtain ⟨bv11,f11⟩:=s2 u11 hu11
      rw [List.set_set] at bv11
      have f911:Fr (fun k=>k=gv) u9 u11:=f10.trans f11 (fun _ _ h=>h) (fun _ _ h=>h)
      have xv:XS gt gc gv gs gv:=.inr (.inr (.inl rfl))
      have S11:=S9.wr f911 xv ap.tv
      have O11:=(O8.ext e9).wrX f911 xv fun i g' _ hg' e=>ap.v (e▸List.mem_of_getElem? hg')
      have hv11:∀ k,k<u9.heap.size->k=gv->OC T5 (XS gt gc gv gs) k:=fun k _ e=>.inr (e▸xv)
      have hC11:=(hC8.ext e9).fr f911 (fun e=>hgv (by have e:g=gv:=e;exact e.symm)) hv11 fun _ _ h=>h
      have iC11:Imm KB (OC T5 (XS gt gc gv gs)) u11 CA op.key:=iC.keep KB_pos (f911.step hv11 fun _ _ h=>h)
      refine ⟨rfl,inE_has _ _,T5,A',D',ms,TA',tc',MA,mc,_,S11,⟨(bc8.ext e9).keep f911 ap.cv,bv11,by rw [List.length_set];exact C4.len,O11.all hg hkL (y:=⟨x.id,CA,op.key.length,op.key.length,true⟩) ⟨some op.key,hC11,rfl,rfl,by omega,iC11⟩⟩,by rw [hfo];exact gF_up 1 hone.1,hone.2⟩
  · -- Delete
    refine ⟨⟨by omega,by omega⟩,_,by rw [Int.toNat_natCast];exact C4.ptr hg,(cDelete S4.sto hC).mono ?_⟩
    intro r u5 hr
    have hst:∃ e T5 A5 D5,r=.int .i64 e/\S6 w u5 T5 (XS gt gc gv gs) s gt A5 D5 ms TA tc (foD D) (A.last:Int) MA mc (msR6 ms) (33+j)/\Cs (OC T5 (XS gt gc gv gs)) u5 s gc gv gs L/\Has1 D5 ms/\KeyAt (OC T5 (XS gt gc gv gs)) u5 k0 x.A x.n x.ok /\
        ((e=41/\gF (foD D) x.id=none/\A5=A/\D5=D)\/(e=70/\atX (foD D) x.id k0=none/\A5=A/\D5=D/\∃ es,gF (foD D) x.id=some es)\/(e=0/\∃ es key v,gF (foD D) x.id=some es/\atX (foD D) x.id k0=some (key,v)/\foD D5=upF (foD D) x.id (delE key es)/\A5.last=A.last)):=by
      rcases hr with ⟨hno,rfl,e5⟩|⟨hin,hat,rfl,e5⟩|⟨hin,key,v,A5,D5,was,e,T5,hk,hat,rel,rfl,h5,c5⟩
      · exact ⟨41,T,A,D,rfl,S4.ext e5,C4.ext e5,hone,hK.keep (e5.step _),.inl ⟨rfl,ids_some hno,rfl,rfl⟩⟩
      · refine ⟨70,T,A,D,rfl,S4.ext e5,C4.ext e5,hone,hK.keep (e5.step _),.inr (.inl ⟨rfl,hat,rfl,rfl,?_⟩)⟩
        cases hg0:gF (foD D) x.id with
        | none=>exact absurd hin (ids_none hg0)
        | some es=>exact ⟨es,rfl⟩
      · cases hg0:gF (foD D) x.id with
        | none=>exact absurd hin (ids_none hg0)
        | some es =>
          obtain ⟨_,rfl,hfo⟩:=rel.look hI hg0
          have stK:Step (OC T (XS gt gc gv gs)) u4 (OC T5 (XS gt gc gv gs)) u5:=c5.fr.step (fun _ _ h=>.inl h) fun k hk h=>h.elim (fun h=>.inl ((c5.sub k h).resolve_right (by omega))) .inr
          exact ⟨0,T5,A5,D5,rfl,S4.chg h5 c5 (by rw [rel.same.last];exact S4.last) S4.msm (rel.same.most.trans S4.most),C4.tch c5 S4.xT,⟨by rw [hfo];exact gF_up 1 hone.1,hone.2⟩,hK.keep stK,.inr (.inr ⟨rfl,es,key,v,rfl,hat,hfo,rel.same.last⟩)⟩
    clear hr
    obtain ⟨e,T5,A5,D5,rfl,S5,C5,hone5,hK5,hD3⟩:=hst
    have ed5:Ext u5 u5.drew:=Fr.drew NoB u5
    refine ⟨_,rfl,⟨by omega,by omega⟩,fun z=>Ext u5 z,ed5,_,fun z e=>by rw [Int.toNat_natCast];exact ((C5.ext e).rd hx).1,_,_,_,fun z e=>by rw [Int.toNat_natCast];exact ((C5.ext e).rd hx).2.1,_,fun z e=>by rw [Int.toNat_natCast];exact ((C5.ext e).rd hx).2.2,_,_,_,fun z e=>(S5.bt.ext e).cell' rfl,_,fun z e=>(S5.bt.ext e).cell' rfl,?_,?_⟩
    · refine (Entry6_spec (S5.ext ed5).tr.t S5.sml (by omega) hup (hK5.keep (ed5.step _))).mono ?_
      rintro r u6 ⟨hE,e6⟩
      obtain ⟨A1,c1,A2,c2,rfl,i1,i2⟩:=hE.read
      refine ⟨_,_,_,_,_,_,_,rfl,?_⟩
      intro gz u6' f6
      refine ⟨f6.blk.stOK (o:=0) [_,_] 0 (by simp),fun u7 hu7=>?_⟩
      have bz:=(set0 f6.blk hu7 rfl).1
      have e67:Ext u6 u7:=by rw [hu7];exact f6.ext.setAll f6.ge _ _
      have e57:=(ed5.trans' e6).trans' e67
      replace i1:=i1.ext KB_pos e67
      have S7:=S5.ext e57
      have C7:=C5.ext e57
      rcases hD3 with ⟨rfl,hgn,rfl,rfl⟩|⟨rfl,hat,rfl,rfl,hgs⟩|⟨rfl,es,key,v',hgs,hat,hfo,hlst⟩
      · rcases hf.cases with ⟨rfl,_,_⟩|⟨j2,es,rfl,_,hgs⟩
        · exact brd (fun _=>⟨rfl,rfl,T5,_,_,ms,TA,tc,MA,mc,L,S7,C7,hone5⟩) fun h=>absurd (by decide) h
        · rw [hgn] at hgs;cases hgs
      · rcases hf.cases with ⟨rfl,hgn,_⟩|⟨j2,es,rfl,_,_⟩
        · obtain ⟨es,hgs⟩:=hgs;rw [hgn] at hgs;cases hgs
        · refine brd (fun h=>absurd h (by omega)) fun _=>brnb (fun _=>⟨rfl,rfl,T5,_,_,ms,TA,tc,MA,mc,L,S7,C7,hone5⟩) fun h=>absurd h (by rw [hat];decide)
      · rcases hf.cases with ⟨rfl,hgn,_⟩|⟨j2,es2,rfl,hFk,hgs2⟩
        · rw [hgn] at hgs;cases hgs
        obtain rfl:es=es2:=by rw [hgs] at hgs2;exact Option.some.inj hgs2
        have hme:=List.mem_of_getElem? hFk
        have hks:∀ p∈es,p.1.length<=1048576:=S4.sml.keys _ hme
        have hel:es.length<=33+j:=S4.sml.es _ hme
        rw [hat] at bz i1
        replace i1:Imm KB (OC T5 (XS gt gc gv gs)) u7 A1 key:=i1
        replace bz:Blk u7 gz [.slice A1 key.length c1,.slice A2 v'.length c2]:=bz
        refine brd (fun h=>absurd h (by omega)) fun _=>brnb (fun h=>by rw [hat] at h;cases h) fun _=>⟨_,_,_,S7.bt.cell' rfl,_,S7.bt.cell' rfl,_,_,_,bz.cell rfl,(Delete_specR S7.tr.t S7.lt (by omega) hFk (by omega) _ i1 c1 hks).mono ?_⟩
        rintro _ u8 ⟨TA',tc',rfl,hT,e8⟩
        have S8:=S7.ext e8
        have hsl:=delE_sml (key:=key) hel hks
        obtain ⟨q1,q2⟩:=S8.setT (la':=(A.last:Int)) hT (S8.sml.set _ _ (by omega) hsl.2)
        refine ⟨_,_,_,_,rfl,q1,fun u9 hu9=>?_⟩
        obtain ⟨S9,f9⟩:=q2 u9 hu9
        rw [<- upF_set6 hI.ndF hFk,<- hfo,<- hlst] at S9
        exact ⟨rfl,rfl,T5,A5,D5,ms,TA',tc',MA,mc,L,S9,(C7.ext e8).wrT ap f9,hone5⟩
    · intro gz u6' f6
      have e06:=ed5.trans' f6.ext
      have hgz:∀ k,k<u5.heap.size->k≠gz:=fun k hk e=>by have:=f6.ge;have:=ed5.size;omega
      have st2:Step (OC T5 (XS gt gc gv gs)) u5 (fun k=>OC T5 (XS gt gc gv gs) k\/k=gz) u6':=Fr.step (S:=NoB) e06 (fun _ _ h=>h.elim) fun k hk h=>h.elim id fun h=>absurd h (hgz k hk)
      refine ⟨e06,(Entry6_spec (S5.tr.t.keep st2) S5.sml (by omega) hup (hK5.keep st2)).mono ?_⟩
      rintro r u6 ⟨hE,e6⟩
      obtain ⟨A1,c1,A2,c2,rfl,i1,i2⟩:=hE.read
      refine ⟨_,_,_,_,_,_,_,rfl,(f6.blk.ext e6).stOK (o:=0) [_,_] 0 (by simp),fun u7 hu7=>?_⟩
      have bzf:=set0 (f6.blk.ext e6) hu7 rfl
      have bz:=bzf.1
      have f67:=bzf.2
      have e57:Ext u5 u7:=(e06.trans' e6).trans f67 (fun _ _ h=>h) (fun k hk e=>hgz k hk e)
      have st3:Step (fun k=>OC T5 (XS gt gc gv gs) k\/k=gz) u6 (OC T5 (XS gt gc gv gs)) u7:=f67.step (fun k _ h=>.inr h) fun k _ h=>.inl h
      replace i1:=i1.keep KB_pos st3
      have S7:=S5.ext e57
      have C7:=C5.ext e57
      rcases hD3 with ⟨rfl,hgn,rfl,rfl⟩|⟨rfl,hat,rfl,rfl,hgs⟩|⟨rfl,es,key,v',hgs,hat,hfo,hlst⟩
      · rcases hf.cases with ⟨rfl,_,_⟩|⟨j2,es,rfl,_,hgs⟩
        · exact brd (fun _=>⟨rfl,rfl,T5,_,_,ms,TA,tc,MA,mc,L,S7,C7,hone5⟩) fun h=>absurd (by decide) h
        · rw [hgn] at hgs;cases hgs
      · rcases hf.cases with ⟨rfl,hgn,_⟩|⟨j2,es,rfl,_,_⟩
        · obtain ⟨es,hgs⟩:=hgs;rw [hgn] at hgs;cases hgs
        · refine brd (fun h=>absurd h (by omega)) fun _=>brnb (fun _=>⟨rfl,rfl,T5,_,_,ms,TA,tc,MA,mc,L,S7,C7,hone5⟩) fun h=>absurd h (by rw [hat];decide)
      · rcases hf.cases with ⟨rfl,hgn,_⟩|⟨j2,es2,rfl,hFk,hgs2⟩
        · rw [hgn] at hgs;cases hgs
        obtain rfl:es=es2:=by rw [hgs] at hgs2;exact Option.some.inj hgs2
        have hme:=List.mem_of_getElem? hFk
        have hks:∀ p∈es,p.1.length<=1048576:=S4.sml.keys _ hme
        have hel:es.length<=33+j:=S4.sml.es _ hme
        rw [hat] at bz i1
        replace i1:Imm KB (OC T5 (XS gt gc gv gs)) u7 A1 key:=i1
        replace bz:Blk u7 gz [.slice A1 key.length c1,.slice A2 v'.length c2]:=bz
        refine brd (fun h=>absurd h (by omega)) fun _=>brnb (fun h=>by rw [hat] at h;cases h) fun _=>⟨_,_,_,S7.bt.cell' rfl,_,S7.bt.cell' rfl,_,_,_,bz.cell rfl,(Delete_specR S7.tr.t S7.lt (by omega) hFk (by omega) _ i1 c1 hks).mono ?_⟩
        rintro _ u8 ⟨TA',tc',rfl,hT,e8⟩
        have S8:=S7.ext e8
        have hsl:=delE_sml (key:=key) hel hks
        obtain ⟨q1,q2⟩:=S8.setT (la':=(A.last:Int)) hT (S8.sml.set _ _ (by omega) hsl.2)
        refine ⟨_,_,_,_,rfl,q1,fun u9 hu9=>?_⟩
        obtain ⟨S9,f9⟩:=q2 u9 hu9
        rw [<- upF_set6 hI.ndF hFk,<- hfo,<- hlst] at S9
        exact ⟨rfl,rfl,T5,A5,D5,ms,TA',tc',MA,mc,L,S9,(C7.ext e8).wrT ap f9,hone5⟩
  rintro bb2 u0 hu0
  obtain rfl:u4=u0:=hu0.symm
  obtain ⟨es1,hg1⟩:=hone.1
  refine br (fun _=>?_) (fun _=>brd (fun _=>?_) fun _=>brd (fun _=>?_) fun _=>brd (fun _=>?_) fun _=>brd (fun _=>?_) fun _=>?_)
  · -- Put
    refine ⟨_,_,_,bo4.cell rfl,_,_,_,bo4.cell rfl,(kPut S4.sto hg1 (by rw [S4.most];exact S4.sml.room (by omega)) (by omega) (by omega) Co.k Co.v okc ovc).mono ?_⟩
    rintro _ u5 ⟨rfl,A',D',T5,h5,c5,hs5,hfo⟩
    have S5:=S4.chg h5 c5 (by rw [hs5.last];exact S4.last) S4.msm (hs5.most.trans S4.most)
    have C5:=C4.tch c5 S4.xT
    have bo5:=(c5.blk bo4 hgoT).1
    have Co5:=C.ext S5.e
    have ed5:Ext u5 u5.drew:=Fr.drew NoB u5
    refine ⟨_,_,rfl,fun z=>Ext u5 z,ed5,_,_,_,fun z e=>(S5.bt.ext e).cell' rfl,_,fun z e=>(S5.bt.ext e).cell' rfl,_,_,_,fun z e=>(S5.bt.ext e).cell' rfl,_,fun z e=>(S5.bt.ext e).cell' rfl,_,_,_,fun z e=>(bo5.ext e).cell rfl,_,_,_,fun z e=>(bo5.ext e).cell rfl,(Find_spec (S5.ext ed5).tr.t.1 (by omega) _ 1).mono ?_⟩
    rintro _ u6 ⟨fi1,rfl,hf1,e6⟩
    have e56:=ed5.trans' e6
    have S6':=S5.ext e56
    have C6':=C5.ext e56
    have Co6:=Co5.ext e56
    rcases hf1.cases with ⟨rfl,hgn,_⟩|⟨j2,es,rfl,hFk,hgs⟩
    · rw [hgn] at hg1;cases hg1
    obtain rfl:es1=es:=by rw [hg1] at hgs;exact Option.some.inj hgs
    have hme:=List.mem_of_getElem? hFk
    have hks:∀ p∈es1,p.1.length<=1048576:=S4.sml.keys _ hme
    have hel:es1.length<=32+j:=hsml32 _ hme
    have hsl:=insE_sml (key:=op.key) (val:=op.val) (show op.key.length<=1048576 by omega) hel hks
    refine ⟨_,rfl,e56,(Put_specR S6'.tr.t S6'.lt (by omega) hFk (by omega) _ Co6.k Co6.v okc ovc (by omega) (by omega) hks).mono ?_⟩
    rintro _ u7 ⟨TA',tc',rfl,hT,e7⟩
    have S7:=S6'.ext e7
    obtain ⟨q1,q2⟩:=S7.setT (la':=(A.last:Int)) hT (S7.sml.set _ _ (by omega) hsl.2)
    refine ⟨_,_,_,_,rfl,q1,fun u8 hu8=>?_⟩
    obtain ⟨S8,f8⟩:=q2 u8 hu8
    rw [<- upF_set6 hI.ndF hFk,<- hfo,<- hs5.last] at S8
    exact ⟨rfl,rfl,T5,A',D',ms,TA',tc',MA,mc,L,S8,(C6'.ext e7).wrT ap f8,by rw [hfo];exact gF_up 1 hone.1,hone.2⟩
  · -- the store's Delete
    refine ⟨_,_,_,bo4.cell rfl,(kDel S4.sto hg1 op.key Co.k okc).mono ?_⟩
    rintro _ u5 ⟨rfl,A',D',T5,h5,c5,hs5,hfo⟩
    have S5:=S4.chg h5 c5 (by rw [hs5.last];exact S4.last) S4.msm (hs5.most.trans S4.most)
    have C5:=C4.tch c5 S4.xT
    have bo5:=(c5.blk bo4 hgoT).1
    have Co5:=C.ext S5.e
    have ed5:Ext u5 u5.drew:=Fr.drew NoB u5
    refine ⟨_,_,rfl,fun z=>Ext u5 z,ed5,_,_,_,fun z e=>(S5.bt.ext e).cell' rfl,_,fun z e=>(S5.bt.ext e).cell' rfl,_,_,_,fun z e=>(S5.bt.ext e).cell' rfl,_,fun z e=>(S5.bt.ext e).cell' rfl,_,_,_,fun z e=>(bo5.ext e).cell rfl,(Find_spec (S5.ext ed5).tr.t.1 (by omega) _ 1).mono ?_⟩
    rintro _ u6 ⟨fi1,rfl,hf1,e6⟩
    have e56:=ed5.trans' e6
    have S6':=S5.ext e56
    have C6':=C5.ext e56
    have Co6:=Co5.ext e56
    rcases hf1.cases with ⟨rfl,hgn,_⟩|⟨j2,es,rfl,hFk,hgs⟩
    · rw [hgn] at hg1;cases hg1
    obtain rfl:es1=es:=by rw [hg1] at hgs;exact Option.some.inj hgs
    have hme:=List.mem_of_getElem? hFk
    have hks:∀ p∈es1,p.1.length<=1048576:=S4.sml.keys _ hme
    have hel:es1.length<=33+j:=S4.sml.es _ hme
    have hsl:=delE_sml (key:=op.key) hel hks
    refine ⟨_,rfl,e56,(Delete_specR S6'.tr.t S6'.lt (by omega) hFk (by omega) _ Co6.k okc hks).mono ?_⟩
    rintro _ u7 ⟨TA',tc',rfl,hT,e7⟩
    have S7:=S6'.ext e7
    obtain ⟨q1,q2⟩:=S7.setT (la':=(A.last:Int)) hT (S7.sml.set _ _ (by omega) hsl.2)
    refine ⟨_,_,_,_,rfl,q1,fun u8 hu8=>?_⟩
    obtain ⟨S8,f8⟩:=q2 u8 hu8
    rw [<- upF_set6 hI.ndF hFk,<- hfo,<- hs5.last] at S8
    exact ⟨rfl,rfl,T5,A',D',ms,TA',tc',MA,mc,L,S8,(C6'.ext e7).wrT ap f8,by rw [hfo];exact gF_up 1 hone.1,hone.2⟩
  · -- Mark
    refine (aMark S4.sto).mono ?_
    have hml:=msR6_len ms
    rintro _ u6 (⟨hge,rfl,e6⟩|⟨hlt,rfl,T6,h6,c6⟩)
    · replace hge:100<=ms.length:=hge
      have S6':=S4.ext e6
      refine ⟨_,_,rfl,_,_,_,S6'.bt.cell rfl,_,S6'.bt.cell rfl,_,_,_,S6'.bt.cell rfl,(rMark S6'.tr S6'.lt).mono ?_⟩
      rintro _ u7 ⟨e7,⟨_,rfl⟩|⟨hlt,_⟩⟩
      · have S7:=S6'.ext e7
        obtain ⟨q1,q2⟩:=S7.setS (la':=(A.last:Int)) S7.tr S7.sml
        refine ⟨_,_,_,_,_,_,_,_,_,rfl,q1,fun u8 hu8=>?_⟩
        obtain ⟨S8,f8⟩:=q2 u8 hu8
        exact ⟨rfl,rfl,T,A,D,ms,TA,tc,MA,mc,L,S8,((C4.ext e6).ext e7).wrT ap f8,hone⟩
      · omega
    · replace hlt:ms.length<100:=hlt
      have S6':=S4.chg h6 c6 S4.last (fun p hp=>by
        rcases List.mem_append.1 hp with hp|hp
        · exact S4.msm p hp
        · obtain rfl:=List.mem_singleton.1 hp;exact ⟨S4.sml,S4.last⟩) S4.most
      have C6':=C4.tch c6 S4.xT
      refine ⟨_,_,rfl,_,_,_,S6'.bt.cell rfl,_,S6'.bt.cell rfl,_,_,_,S6'.bt.cell rfl,(rMark S6'.tr S6'.lt).mono ?_⟩
      rintro _ u7 ⟨e7,⟨hge,_⟩|⟨_,MA',mc',rfl,hRr⟩⟩
      · omega
      · have S7:=S6'.ext e7
        obtain ⟨q1,q2⟩:=S7.setS (la':=(A.last:Int)) hRr S7.sml
        refine ⟨_,_,_,_,_,_,_,_,_,rfl,q1,fun u8 hu8=>?_⟩
        obtain ⟨S8,f8⟩:=q2 u8 hu8
        have em:msR6 (ms++[(A,D)])=msR6 ms++[(foD D,(A.last:Int))]:=by simp [msR6]
        rw [<- em] at S8
        exact ⟨rfl,rfl,T6,A,D,ms++[(A,D)],TA,tc,MA',mc',L,S8,(C6'.ext e7).wrT ap f8,hone.1,fun p hp=>by
          rcases List.mem_append.1 hp with hp|hp
          · exact hone.2 p hp
          · obtain rfl:=List.mem_singleton.1 hp;exact hone.1⟩
  · -- Back
    have hml:=msR6_len ms
    refine ⟨_,bo4.cell rfl,(aBack S4.sto op.n).mono ?_⟩
    rintro _ u6 (⟨hb,rfl,rfl⟩|⟨h1,h2,rfl,B,D',T6,hB,h6,c6⟩)
    · replace hb:op.n<1\/(ms.length:Int)<op.n:=hb
      refine ⟨_,rfl,_,_,_,S4.bt.cell rfl,_,S4.bt.cell rfl,_,_,_,S4.bt.cell rfl,_,bo4.cell rfl,(rBack S4.tr (by omega) op.n).mono ?_⟩
      rintro _ u7 ⟨e7,⟨_,rfl⟩|⟨h1,h2,_⟩⟩
      · have S7:=S4.ext e7
        obtain ⟨q1,q2⟩:=S7.setS (la':=(A.last:Int)) S7.tr S7.sml
        refine ⟨_,_,_,_,_,_,_,_,rfl,q1,fun u8 hu8=>?_⟩
        obtain ⟨S8,f8⟩:=q2 u8 hu8
        exact ⟨rfl,rfl,T,A,D,ms,TA,tc,MA,mc,L,S8,(C4.ext e7).wrT ap f8,hone⟩
      · omega
    · replace h2:op.n<=(ms.length:Int):=h2
      replace hB:ms[(op.n-1).toNat]?=some (B,D'):=hB
      have hmem:=List.mem_of_getElem? hB
      obtain ⟨hsB,hlB⟩:=S4.msm _ hmem
      have hmB:B.most=65536:=(S4.sto.good _ hmem).2.2.trans S4.most
      have hsub:∀ p∈ms.take (op.n-1).toNat,p∈ms:=fun p hp=>(List.take_sublist _ _).subset hp
      have S6':=S4.chg h6 c6 hlB (fun p hp=>S4.msm p (hsub p hp)) hmB
      have C6':=C4.tch c6 S4.xT
      have bo6:=(c6.blk bo4 hgoT).1
      refine ⟨_,rfl,_,_,_,S6'.bt.cell rfl,_,S6'.bt.cell rfl,_,_,_,S6'.bt.cell rfl,_,bo6.cell rfl,(rBack S6'.tr (by omega) op.n).mono ?_⟩
      rintro _ u7 ⟨e7,⟨hb,_⟩|⟨_,_,F',la',TA',tc',hF',rfl,hRr⟩⟩
      · omega
      · have S7:=S6'.ext e7
        obtain ⟨rfl,rfl⟩:F'=foD D'/\la'=(B.last:Int):=by
          rw [msR6,List.getElem?_map,hB] at hF'
          have:=Option.some.inj hF'
          exact ⟨(Prod.mk.inj this).1.symm,(Prod.mk.inj this).2.symm⟩
        obtain ⟨q1,q2⟩:=S7.setS (la':=(B.last:Int)) hRr hsB
        refine ⟨_,_,_,_,_,_,_,_,rfl,q1,fun u8 hu8=>?_⟩
        obtain ⟨S8,f8⟩:=q2 u8 hu8
        rw [<- msR6_take] at S8
        exact ⟨rfl,rfl,T6,B,D',ms.take (op.n-1).toNat,TA',tc',MA,mc,L,S8,(C6'.ext e7).wrT ap f8,hone.2 _ hmem,fun p hp=>hone.2 p (hsub p hp)⟩
  · -- Drop
    obtain ⟨A',D',e,rel,hP⟩:=aDrop (A:=A) (D:=D) hI 2
    refine (hP S4.sto).mono ?_
    rintro _ u6 ⟨rfl,T6,h6,c6⟩
    have S6':=S4.chg h6 c6 (by rw [rel.same.last];exact S4.last) S4.msm (rel.same.most.trans S4.most)
    have C6':=C4.tch c6 S4.xT
    refine ⟨_,rfl,_,_,_,S6'.bt.cell' rfl,_,S6'.bt.cell' rfl,(Find_spec S6'.tr.t.1 (by omega) _ 2).mono ?_⟩
    rintro _ u7 ⟨f2i,rfl,hf2,e7⟩
    have S7:=S6'.ext e7
    have C7:=C6'.ext e7
    refine ⟨_,rfl,?_⟩
    rcases hf2.cases with ⟨rfl,hgn,_⟩|⟨j2,es,rfl,hFk,hgs⟩
    · rcases rel.rel with ⟨_,rfl,rfl,rfl⟩|⟨D1,d,D2,hD,hr,_⟩
      · exact brd (fun h=>absurd h (by decide)) fun _=>⟨rfl,rfl,T6,_,_,ms,TA,tc,MA,mc,L,S7,C7,hone⟩
      · have:=gF_split6 hI.ndF hD
        rw [hr,hgn] at this;cases this
    · obtain ⟨rfl,F1,F2,hF,rfl,hF'⟩:=rel.cases6 hI hFk
      refine brd (fun _=>⟨_,_,_,S7.bt.cell' rfl,_,S7.bt.cell' rfl,(Drop_specR S7.tr.t S7.lt (by omega) hF (A.last:Int)).mono ?_⟩) fun h=>absurd (by omega) h
      rintro _ u8 ⟨TA',tc',rfl,hT,e8⟩
      have S8:=S7.ext e8
      have hsub:∀ p∈F1++F2,p∈foD D:=fun p hp=>by
        rw [hF]
        rcases List.mem_append.1 hp with hp|hp
        · exact List.mem_append_left _ hp
        · exact List.mem_append_right _ (List.mem_cons_of_mem _ hp)
      have hlen:(F1++F2).length<=33+j:=by
        have:=hFl
        rw [hF,List.length_append,List.length_cons] at this
        rw [List.length_append];omega
      obtain ⟨q1,q2⟩:=S8.setT (la':=(A.last:Int)) hT ⟨hlen,fun p hp=>S8.sml.es p (hsub p hp),fun p hp=>S8.sml.keys p (hsub p hp)⟩
      refine ⟨_,_,_,_,rfl,q1,fun u9 hu9=>?_⟩
      obtain ⟨S9,f9⟩:=q2 u9 hu9
      rw [<- hF',<- rel.same.last] at S9
      refine ⟨rfl,rfl,T6,A',D',ms,TA',tc',MA,mc,L,S9,(C7.ext e8).wrT ap f9,?_,hone.2⟩
      rw [hF']
      have hgg:=hg1
      rw [hF] at hgg
      exact gF_mid (by decide) hgg
  · -- a move
    have hr1:=C4.rd hx
    refine ⟨⟨by omega,by omega⟩,fun z=>Ext u4 z,ed,_,fun z e=>by rw [Int.toNat_natCast];exact (C4.ext e).ptr hg,⟨by omega,by omega⟩,_,fun z e=>by rw [Int.toNat_natCast];exact ((C4.ext e).rd hx).1,_,_,_,fun z e=>by rw [Int.toNat_natCast];exact ((C4.ext e).rd hx).2.1,_,fun z e=>by rw [Int.toNat_natCast];exact ((C4.ext e).rd hx).2.2,_,_,_,fun z e=>(S4.bt.ext e).cell' rfl,_,fun z e=>(S4.bt.ext e).cell' rfl,_,fun z e=>(bo4.ext e).cell rfl,_,fun z e=>(bo4.ext e).cell rfl,_,fun z e=>(bo4.ext e).cell rfl,_,fun z e=>(bo4.ext e).cell rfl,_,_,_,fun z e=>(bo4.ext e).cell rfl,_,_,_,fun z e=>(bo4.ext e).cell rfl,?_⟩
    refine (moves_spec Sd.sto (hC.ext ed) Sd.lt (.inr xg) (S4.xT g xg) Sd.tr.t Sd.sml (by omega) (hK.keep (ed.step _)) op (iKΩ.ext KB_pos ed) okc ovc).mono ?_
    rintro _ u5 ⟨k',b,A',n',c',ok',rfl,hK5,hC5,f5⟩
    have f45:Fr (fun k=>k=g) u4 u5:=(Fr.mono ed fun _ _ h=>h.elim).trans f5 (fun _ _ h=>h) (fun _ _ h=>h)
    have S5:=S4.wr f45 xg hgt
    have O5:=(C4.oth k).wrX f45 xg fun i g' hi hg'=>gs_ne ap.nd hg' hg hi
    have bc5:=C4.bc.keep f45 hgc
    have bv5:=C4.bv.keep f45 hgv
    obtain ⟨p1,p2⟩:=putV bv5 hkL ⟨x.id,A',n',c',ok'⟩
    refine ⟨_,_,_,_,_,_,_,rfl,⟨by omega,by omega⟩,by rw [Int.toNat_natCast];exact p1,fun u6 hu6=>?_⟩
    rw [Int.toNat_natCast] at hu6
    obtain ⟨bv6,f6⟩:=p2 u6 hu6
    have xv:XS gt gc gv gs gv:=.inr (.inr (.inl rfl))
    have hv6:∀ k,k<u5.heap.size->k=gv->OC T (XS gt gc gv gs) k:=fun k _ e=>.inr (e▸xv)
    have S6':=S5.wr f6 xv ap.tv
    have O6:=O5.wrX f6 xv fun i g' _ hg' e=>ap.v (e▸List.mem_of_getElem? hg')
    have hC6:=hC5.fr f6 (fun e=>hgv (by have e:g=gv:=e;exact e.symm)) hv6 fun _ _ h=>h
    have hK6:=hK5.keep (f6.step hv6 fun _ _ h=>h)
    exact ⟨rfl,rfl,T,A,D,ms,TA,tc,MA,mc,_,S6',⟨bc5.keep f6 ap.cv,bv6,by rw [List.length_set];exact C4.len,O6.all hg hkL (y:=⟨x.id,A',n',c',ok'⟩) ⟨k',hC6,hK6⟩⟩,hone⟩
end Go.Proofs.YthfagbfllheneaaGreat
set_option linter.unusedVariables false
namespace Go.Proofs.YthfagbfllheneaaGreat
open Go Go.Sx
theorem opens_Bs6:Opens Tryz.prog 30 KBs (fun l=>l.length<=maxLen/\∀ a∈l,True):=opens_slice Tryz.underlying30 (by kernel_rfl) KB_pos (opens_u8 Tryz.underlying5)
theorem opens_Op6:Opens Tryz.prog 66 KOp6 (fun _=>True):=by
  intro H enc w fuel cs x hx
  obtain ⟨hl,hf⟩:=opens_fields (by kernel_rfl) hx
  have hl3:cs.length=6:=hl.trans (by kernel_rfl)
  obtain ⟨k,hk,_⟩:=hf (K:=Kd.int .i64) 0 (ft:=3) (off:=0) (by kernel_rfl) (by kernel_rfl) (opens_int Tryz.underlying3)
  obtain ⟨r,hr,_⟩:=hf (K:=Kd.int .i64) 1 (ft:=3) (off:=1) (by kernel_rfl) (by kernel_rfl) (opens_int Tryz.underlying3)
  obtain ⟨n,hn,_⟩:=hf (K:=Kd.int .i64) 2 (ft:=3) (off:=2) (by kernel_rfl) (by kernel_rfl) (opens_int Tryz.underlying3)
  obtain ⟨h,hh,_⟩:=hf (K:=Kd.int .u8) 3 (ft:=26) (off:=3) (by kernel_rfl) (by kernel_rfl) (opens_int Tryz.underlying26)
  obtain ⟨a,ha,_⟩:=hf (K:=KBs) 4 (ft:=30) (off:=4) (by kernel_rfl) (by kernel_rfl) opens_Bs6
  obtain ⟨b,hb,_⟩:=hf (K:=KBs) 5 (ft:=30) (off:=5) (by kernel_rfl) (by kernel_rfl) opens_Bs6
  match cs,hl3 with
  | [c0,c1,c2,c3,c4,c5],_ =>
    have hk:[c0]=[.int .i64 k]:=hk
    have hr:[c1]=[.int .i64 r]:=hr
    have hn:[c2]=[.int .i64 n]:=hn
    have hh:[c3]=[.int .u8 h]:=hh
    cases hk;cases hr;cases hn;cases hh
    exact ⟨⟨k,r,n,h,a,b⟩,⟨_,_,rfl,ha,hb⟩,trivial⟩
end Go.Proofs.YthfagbfllheneaaGreat
