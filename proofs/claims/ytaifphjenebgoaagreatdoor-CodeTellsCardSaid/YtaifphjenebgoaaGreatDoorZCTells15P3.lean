/- Part 3 of the texts of this claim: the engine, contracts, plain laws. -/
import Derived.Test.YtaifphjenebgoaaGreatDoorProg
import Derived.Test.YtaifphjenebgoaaGreatDoorZCTells15P1
import Derived.Test.YtaifphjenebgoaaGreatDoorZCTells15P2
set_option linter.unusedVariables false
set_option maxRecDepth 100000
namespace Go.Proofs.YtaifphjenebgoaaGreatDoor
open Go Go.Sx Value IntKind World Addr Builtin
noncomputable def cardindexlaw15_CodeTells.W:Int->Int->Int->Option Addr->Nat->Nat->Option Addr->Nat->Nat->Option Addr->Nat->Nat->Option Addr->Nat->Nat->Option Addr->Nat->Nat->Option
 Addr->Nat->Nat->Option Addr->Nat->Nat->Int->Int->Int->Int->Int->World->(Value->World->Prop)->Prop:=fun p0 p1 p2 p3_A p3_n p3_c p4_A p4_n p4_c p5_A p5_n p5_c p6_A p6_n p6_c p7_A p7_n
 p7_c p8_A p8_n p8_c b_A b_n b_c i0 i1 i2 i3 i4 w K=>∀ g w',Fresh w g w' [int i64 p0,int i64 p1,int i64 p2,slice p3_A p3_n p3_c,slice p4_A p4_n p4_c,slice p5_A p5_n p5_c,slice p6_A p6_n p6_c,
 slice p7_A p7_n p7_c,slice p8_A p8_n p8_c] 29->∀ g_1 w'_1,Fresh w' g_1 w'_1 [int u8 i0,int i64 i1,int i64 i2,int i64 i3,int i64 i4] 46->∃ x,cell? w'_1 (add (mk g 0 none) 0) =
 some (int i64 x)/\∃ x_1,cell? w'_1 (add (mk g 0 none) 1)=some (int i64 x_1)/\∃ x_2,cell? w'_1 (add (mk g 0 none) 2)=some (int i64 x_2)/\∃ x_3 x_4 x_5,cell?
 w'_1 (add (mk g 0 none) 3)=some (slice x_3 x_4 x_5)/\∃ x_6 x_7 x_8,cell? w'_1 (add (mk g 0 none) 4)=some (slice x_6 x_7 x_8)/\∃ x_9 x_10 x_11,cell? w'_1 (add (mk g 0
 none) 5)=some (slice x_9 x_10 x_11)/\∃ x_12 x_13 x_14,cell? w'_1 (add (mk g 0 none) 6)=some (slice x_12 x_13 x_14)/\∃ x_15 x_16 x_17,cell? w'_1 (add (mk g 0
 none) 7)=some (slice x_15 x_16 x_17)/\∃ x_18 x_19 x_20,cell? w'_1 (add (mk g 0 none) 8)=some (slice x_18 x_19 x_20)/\CallsV Tryz.prog 6 #[agg #[int i64 x,int i64
 x_1,int i64 x_2,slice x_3 x_4 x_5,slice x_6 x_7 x_8,slice x_9 x_10 x_11,slice x_12 x_13 x_14,slice x_15 x_16 x_17,slice x_18 x_19 x_20]] w'_1 fun v w'=>∃ x,v=bool x/\bif x then CallsV
 Tryz.prog 7 #[] w' fun v w'=>∃ x,v=bool x/\K (bool x) w' else bif decide (20000<(b_n:Int)) then CallsV Tryz.prog 7 #[] w' fun v w'=>∃ x,v=bool x/\K (bool x) w' else ∃ x,cell?
 w' (add (mk g 0 none) 0)=some (int i64 x)/\∃ x_21,cell? w' (add (mk g 0 none) 1)=some (int i64 x_21)/\∃ x_22,cell? w' (add (mk g 0 none) 2)=some (int
 i64 x_22)/\∃ x_23 x_24 x_25,cell? w' (add (mk g 0 none) 3)=some (slice x_23 x_24 x_25)/\∃ x_26 x_27 x_28,cell? w' (add (mk g 0 none) 4)=some (slice x_26 x_27 x_28) /\
 ∃ x_29 x_30 x_31,cell? w' (add (mk g 0 none) 5)=some (slice x_29 x_30 x_31)/\∃ x_32 x_33 x_34,cell? w' (add (mk g 0 none) 6)=some (slice x_32 x_33 x_34)/\∃ x_35 x_36
 x_37,cell? w' (add (mk g 0 none) 7)=some (slice x_35 x_36 x_37)/\∃ x_38 x_39 x_40,cell? w' (add (mk g 0 none) 8)=some (slice x_38 x_39 x_40)/\CallsV Tryz.prog 8
 #[agg #[int i64 x,int i64 x_21,int i64 x_22,slice x_23 x_24 x_25,slice x_26 x_27 x_28,slice x_29 x_30 x_31,slice x_32 x_33 x_34,slice x_35 x_36 x_37,slice x_38 x_39 x_40]] w' fun v w'=>∃ x
 x_41 x_42 x_43,v=tuple #[slice x x_41 x_42,int i64 x_43]/\∃ x_44,cell? w' (add (mk g 0 none) 0)=some (int i64 x_44)/\∃ x_45,cell? w' (add (mk g 0 none) 1)=some
 (int i64 x_45)/\∃ x_46,cell? w' (add (mk g 0 none) 2)=some (int i64 x_46)/\∃ x_47 x_48 x_49,cell? w' (add (mk g 0 none) 3)=some (slice x_47 x_48 x_49)/\∃ x_50 x_51
 x_52,cell? w' (add (mk g 0 none) 4)=some (slice x_50 x_51 x_52)/\∃ x_53 x_54 x_55,cell? w' (add (mk g 0 none) 5)=some (slice x_53 x_54 x_55)/\∃ x_56 x_57 x_58,cell?
 w' (add (mk g 0 none) 6)=some (slice x_56 x_57 x_58)/\∃ x_59 x_60 x_61,cell? w' (add (mk g 0 none) 7)=some (slice x_59 x_60 x_61)/\∃ x_62 x_63 x_64,cell? w' (add (mk
 g 0 none) 8)=some (slice x_62 x_63 x_64)/\CallsV Tryz.prog 14 #[agg #[int i64 x_44,int i64 x_45,int i64 x_46,slice x_47 x_48 x_49,slice x_50 x_51 x_52,slice x_53 x_54 x_55,slice
 x_56 x_57 x_58,slice x_59 x_60 x_61,slice x_62 x_63 x_64]] w' fun v w'=>∃ x_65 x_66 x_67 x_68,v=tuple #[slice x_65 x_66 x_67,int i64 x_68]/\CallsV Tryz.prog 9 #[slice b_A b_n b_c] w' fun v w'
 => ∃ x_69 x_70 x_71 x_72 x_73 x_74 x_75 x_76 x_77 x_78 x_79 x_80 x_81 x_82 x_83 x_84 x_85 x_86 x_87 x_88 x_89 x_90,v=tuple #[agg #[int i64 x_69,int i64 x_70,int i64 x_71,slice x_72 x_73 x_74,
 slice x_75 x_76 x_77,slice x_78 x_79 x_80,slice x_81 x_82 x_83,slice x_84 x_85 x_86,slice x_87 x_88 x_89],int i64 x_90]/\∀ g_2 w'_2,Fresh w' g_2 w'_2 [int i64 0,int i64 0,int i64 0,slice
 none 0 0,slice none 0 0,slice none 0 0,slice none 0 0,slice none 0 0,slice none 0 0] 29->stOK (mk g_2 0 none) 0 [int i64 x_69,int i64 x_70,int
 i64 x_71,slice x_72 x_73 x_74,slice x_75 x_76 x_77,slice x_78 x_79 x_80,slice x_81 x_82 x_83,slice x_84 x_85 x_86,slice x_87 x_88 x_89] w'_2/\∀ w',w'=setAll (mk g_2 0 none) 0 [int i64
 x_69,int i64 x_70,int i64 x_71,slice x_72 x_73 x_74,slice x_75 x_76 x_77,slice x_78 x_79 x_80,slice x_81 x_82 x_83,slice x_84 x_85 x_86,slice x_87 x_88 x_89] w'_2->CallsV Tryz.prog 15 #[slice
 b_A b_n b_c] w' fun v w'=>∃ x_91 x_92 x_93 x_94 x_95 x_96 x_97 x_98 x_99 x_100 x_101 x_102 x_103 x_104 x_105 x_106 x_107 x_108 x_109 x_110 x_111 x_112,v=tuple #[agg #[int i64 x_91,int i64 x_92,
 int i64 x_93,slice x_94 x_95 x_96,slice x_97 x_98 x_99,slice x_100 x_101 x_102,slice x_103 x_104 x_105,slice x_106 x_107 x_108,slice x_109 x_110 x_111],int i64 x_112]/\∀ g_3 w'_3,Fresh w' g_3
 w'_3 [int i64 0,int i64 0,int i64 0,slice none 0 0,slice none 0 0,slice none 0 0,slice none 0 0,slice none 0 0,slice none 0 0] 29->stOK (mk g_3 0
 none) 0 [int i64 x_91,int i64 x_92,int i64 x_93,slice x_94 x_95 x_96,slice x_97 x_98 x_99,slice x_100 x_101 x_102,slice x_103 x_104 x_105,slice x_106 x_107 x_108,slice x_109 x_110 x_111]
 w'_3/\∀ w',w'=setAll (mk g_3 0 none) 0 [int i64 x_91,int i64 x_92,int i64 x_93,slice x_94 x_95 x_96,slice x_97 x_98 x_99,slice x_100 x_101 x_102,slice x_103 x_104 x_105,slice x_106
 x_107 x_108,slice x_109 x_110 x_111] w'_3->∃ x_113,cell? w' (add (mk g_1 0 none) 4)=some (int i64 x_113)/\CallsV Tryz.prog 16 #[int i64 x_113] w' fun v w'=>∃ (x_114:ByteArray)
 (x_115:Bool),v=tuple #[string x_114,bool x_115]/\∃ x_116,cell? w' (add (mk g_1 0 none) 4)=some (int i64 x_116)/\CallsV Tryz.prog 17 #[int i64 x_116] w' fun v w'=>∃ (x_117 :
 ByteArray) (x_118:Bool),v=tuple #[string x_117,bool x_118]/\∃ x_119,cell? w' (add (mk g_1 0 none) 4)=some (int i64 x_119)/\CallsV Tryz.prog 18 #[int i64 x_119] w' fun v w'=>∃
 (x_120:ByteArray) (x_121:Bool),v=tuple #[string x_120,bool x_121]/\∃ x_122,cell? w' (add (mk g_1 0 none) 4)=some (int i64 x_122)/\CallsV Tryz.prog 19 #[int i64 x_122] w' fun
 v w'=>∃ (x_123:ByteArray) (x_124:Bool),v=tuple #[string x_123,bool x_124]/\∃ (S:World->Prop),S (drew w')/\∃ x_125,(∀ u,S u->cell? u (add (mk g 0 none) 0)=some (int
 i64 x_125))/\∃ x_126,(∀ u,S u->cell? u (add (mk g 0 none) 1)=some (int i64 x_126))/\∃ x_127,(∀ u,S u->cell? u (add (mk g 0 none) 2)=some (int i64 x_127))/\∃
 x_128 x_129 x_130,(∀ u,S u->cell? u (add (mk g 0 none) 3)=some (slice x_128 x_129 x_130))/\∃ x_131 x_132 x_133,(∀ u,S u->cell? u (add (mk g 0 none) 4)=some (slice
 x_131 x_132 x_133))/\∃ x_134 x_135 x_136,(∀ u,S u->cell? u (add (mk g 0 none) 5)=some (slice x_134 x_135 x_136))/\∃ x_137 x_138 x_139,(∀ u,S u->cell? u (add (mk g 0 none)
 6)=some (slice x_137 x_138 x_139))/\∃ x_140 x_141 x_142,(∀ u,S u->cell? u (add (mk g 0 none) 7)=some (slice x_140 x_141 x_142))/\∃ x_143 x_144 x_145,(∀ u,S u->cell? u
 (add (mk g 0 none) 8)=some (slice x_143 x_144 x_145))/\∃ x_146,(∀ u,S u->cell? u (add (mk g 0 none) 0)=some (int i64 x_146))/\∃ x_147,(∀ u,S u->cell? u (add (mk
 g 0 none) 1)=some (int i64 x_147))/\∃ x_148,(∀ u,S u->cell? u (add (mk g 0 none) 2)=some (int i64 x_148))/\∃ x_149 x_150 x_151,(∀ u,S u->cell? u (add (mk g 0
 none) 3)=some (slice x_149 x_150 x_151))/\∃ x_152 x_153 x_154,(∀ u,S u->cell? u (add (mk g 0 none) 4)=some (slice x_152 x_153 x_154))/\∃ x_155 x_156 x_157,(∀ u,S
 u->cell? u (add (mk g 0 none) 5)=some (slice x_155 x_156 x_157))/\∃ x_158 x_159 x_160,(∀ u,S u->cell? u (add (mk g 0 none) 6)=some (slice x_158 x_159 x_160))/\∃
 x_161 x_162 x_163,(∀ u,S u->cell? u (add (mk g 0 none) 7)=some (slice x_161 x_162 x_163))/\∃ x_164 x_165 x_166,(∀ u,S u->cell? u (add (mk g 0 none) 8)=some (slice
 x_164 x_165 x_166))/\CallsV Tryz.prog 12 #[agg #[int i64 x_125,int i64 x_126,int i64 x_127,slice x_128 x_129 x_130,slice x_131 x_132 x_133,slice x_134 x_135 x_136,slice x_137 x_138 x_139,slice
 x_140 x_141 x_142,slice x_143 x_144 x_145]] (drew w') fun v w'=>∃ x_167,v=int i64 x_167/\S w'/\CallsV Tryz.prog 20 #[agg #[int i64 x_146,int i64 x_147,int i64 x_148,slice x_149 x_150 x_151,
 slice x_152 x_153 x_154,slice x_155 x_156 x_157,slice x_158 x_159 x_160,slice x_161 x_162 x_163,slice x_164 x_165 x_166]] w' fun v w'=>∃ x_168,v=int i64 x_168/\bif decide (x_167 =
 x_168) then CallsV Tryz.prog 13 #[slice x x_41 x_42,slice x_65 x_66 x_67] w' fun v w'=>∃ x,v=bool x/\bif x then bif decide (x_43=x_68) then ∃ (S:World->Prop),S w'/\∃ x,(∀ u,S
 u->cell? u (add (mk g_2 0 none) 0)=some (int i64 x))/\∃ x_169,(∀ u,S u->cell? u (add (mk g_2 0 none) 1)=some (int i64 x_169))/\∃ x_170,(∀ u,S u->cell? u (add
 (mk g_2 0 none) 2)=some (int i64 x_170))/\∃ x_171 x_172 x_173,(∀ u,S u->cell? u (add (mk g_2 0 none) 3)=some (slice x_171 x_172 x_173))/\∃ x_174 x_175 x_176,(∀ u,
 S u->cell? u (add (mk g_2 0 none) 4)=some (slice x_174 x_175 x_176))/\∃ x_177 x_178 x_179,(∀ u,S u->cell? u (add (mk g_2 0 none) 5)=some (slice x_177 x_178 x_179))
 /\ ∃ x_180 x_181 x_182,(∀ u,S u->cell? u (add (mk g_2 0 none) 6)=some (slice x_180 x_181 x_182))/\∃ x_183 x_184 x_185,(∀ u,S u->cell? u (add (mk g_2 0 none) 7) =
 some (slice x_183 x_184 x_185))/\∃ x_186 x_187 x_188,(∀ u,S u->cell? u (add (mk g_2 0 none) 8)=some (slice x_186 x_187 x_188))/\∃ x_189,(∀ u,S u->cell? u (add (mk g_3 0
 none) 0)=some (int i64 x_189))/\∃ x_190,(∀ u,S u->cell? u (add (mk g_3 0 none) 1)=some (int i64 x_190))/\∃ x_191,(∀ u,S u->cell? u (add (mk g_3 0 none) 2)
 = some (int i64 x_191))/\∃ x_192 x_193 x_194,(∀ u,S u->cell? u (add (mk g_3 0 none) 3)=some (slice x_192 x_193 x_194))/\∃ x_195 x_196 x_197,(∀ u,S u->cell? u (add (mk g_3
 0 none) 4)=some (slice x_195 x_196 x_197))/\∃ x_198 x_199 x_200,(∀ u,S u->cell? u (add (mk g_3 0 none) 5)=some (slice x_198 x_199 x_200))/\∃ x_201 x_202 x_203,(∀
 u,S u->cell? u (add (mk g_3 0 none) 6)=some (slice x_201 x_202 x_203))/\∃ x_204 x_205 x_206,(∀ u,S u->cell? u (add (mk g_3 0 none) 7)=some (slice x_204 x_205
 x_206))/\∃ x_207 x_208 x_209,(∀ u,S u->cell? u (add (mk g_3 0 none) 8)=some (slice x_207 x_208 x_209))/\CallsV Tryz.prog 11 #[agg #[int i64 x,int i64 x_169,int i64 x_170,slice
 x_171 x_172 x_173,slice x_174 x_175 x_176,slice x_177 x_178 x_179,slice x_180 x_181 x_182,slice x_183 x_184 x_185,slice x_186 x_187 x_188],agg #[int i64 x_189,int i64 x_190,int i64 x_191,slice
 x_192 x_193 x_194,slice x_195 x_196 x_197,slice x_198 x_199 x_200,slice x_201 x_202 x_203,slice x_204 x_205 x_206,slice x_207 x_208 x_209]] w' fun v w'=>∃ x,v=bool x/\bif x then bif
 decide (x_90=x_112) then bif ByteArray.toList x_114 == ByteArray.toList x_117 then bif decide (x_115=x_118) then bif ByteArray.toList x_120 == ByteArray.toList x_123 then bif
 decide (x_121=x_124) then ∃ (S:World->Prop),S w'/\∃ x,(∀ u,S u->cell? u (add (mk g_1 0 none) 0)=some (int u8 x))/\∃ x_210,(∀ u,S u->cell? u (add (mk g_1 0
 none) 1)=some (int i64 x_210))/\∃ x_211,(∀ u,S u->cell? u (add (mk g_1 0 none) 2)=some (int i64 x_211))/\∃ x_212,(∀ u,S u->cell? u (add (mk g_1 0 none) 3)
 = some (int i64 x_212))/\∃ x_213,(∀ u,S u->cell? u (add (mk g_1 0 none) 4)=some (int i64 x_213))/\∃ x_214,(∀ u,S u->cell? u (add (mk g_1 0 none) 0)=some
 (int u8 x_214))/\∃ x_215,(∀ u,S u->cell? u (add (mk g_1 0 none) 1)=some (int i64 x_215))/\∃ x_216,(∀ u,S u->cell? u (add (mk g_1 0 none) 2)=some (int i64 x_216))
 /\ ∃ x_217,(∀ u,S u->cell? u (add (mk g_1 0 none) 3)=some (int i64 x_217))/\∃ x_218,(∀ u,S u->cell? u (add (mk g_1 0 none) 4)=some (int i64 x_218))/\CallsV
 Tryz.prog 21 #[agg #[int u8 x,int i64 x_210,int i64 x_211,int i64 x_212,int i64 x_213]] w' fun v w'=>∃ (x:ByteArray),v=string x/\S w'/\CallsV Tryz.prog 22 #[agg #[int u8 x_214,int i64
 x_215,int i64 x_216,int i64 x_217,int i64 x_218]] w' fun v w'=>∃ (x_219:ByteArray),v=string x_219/\bif ByteArray.toList x == ByteArray.toList x_219 then ∃ (S:World->Prop),S w'/\∃ x,(∀
 u,S u->cell? u (add (mk g_1 0 none) 0)=some (int u8 x))/\∃ x_220,(∀ u,S u->cell? u (add (mk g_1 0 none) 0)=some (int u8 x_220))/\CallsV Tryz.prog 23 #[int u8 x]
 w' fun v w'=>∃ (x:ByteArray),v=string x/\S w'/\CallsV Tryz.prog 24 #[int u8 x_220] w' fun v w'=>∃ (x_221:ByteArray),v=string x_221/\bif ByteArray.toList x == ByteArray.toList x_221
 then CallsV Tryz.prog 7 #[] w' fun v w'=>∃ x,v=bool x/\K (bool x) w' else K (bool false) w' else K (bool false) w' else K (bool false) w' else K (bool false) w' else K (bool
 false) w' else K (bool false) w' else K (bool false) w' else K (bool false) w' else K (bool false) w' else K (bool false) w' else K (bool false) w'
theorem cardindexlaw15_CodeTells.calls (ok:Okay Tryz.prog) {p0 p1 p2 p3_A p3_n p3_c p4_A p4_n p4_c p5_A p5_n p5_c p6_A p6_n p6_c p7_A p7_n p7_c p8_A p8_n p8_c b_A b_n b_c i0 i1 i2 i3 i4 w K} (h:cardindexlaw15_CodeTells.W p0 p1 p2 p3_A p3_n p3_c p4_A p4_n p4_c p5_A p5_n p5_c p6_A p6_n p6_c p7_A p7_n p7_c p8_A p8_n p8_c b_A b_n b_c i0 i1 i2 i3 i4 w K):CallsV Tryz.prog 5 #[.agg #[.int .i64 p0,.int .i64 p1,.int .i64 p2,.slice p3_A p3_n p3_c,.slice p4_A p4_n p4_c,.slice p5_A p5_n p5_c,.slice p6_A p6_n p6_c,.slice p7_A p7_n p7_c,.slice p8_A p8_n p8_c],.slice b_A b_n b_c,.agg #[.int .u8 i0,.int .i64 i1,.int .i64 i2,.int .i64 i3,.int .i64 i4]] w K :=
  fnW_calls ok Tryz.func5 (an:=(.named .auto)) (args:=[.agg #[.int .i64 p0,.int .i64 p1,.int .i64 p2,.slice p3_A p3_n p3_c,.slice p4_A p4_n p4_c,.slice p5_A p5_n p5_c,.slice p6_A p6_n p6_c,.slice p7_A p7_n p7_c,.slice p8_A p8_n p8_c],.slice b_A b_n b_c,.agg #[.int .u8 i0,.int .i64 i1,.int .i64 i2,.int .i64 i3,.int .i64 i4]]) (Eq.mp (by kernel_rfl) h)
end Go.Proofs.YtaifphjenebgoaaGreatDoor
set_option linter.unusedVariables false
set_option maxRecDepth 100000
namespace Go.Proofs.YtaifphjenebgoaaGreatDoor
open Go Go.Sx Value IntKind World Addr Builtin
noncomputable def cardindexref15_Sign.W:Int->World->(Value->World->Prop)->Prop:=fun d w K=>∀ g w',Fresh w g w' [string (ByteArray.mk #[(43:UInt8)]),string (ByteArray.mk #[(45:UInt8)]),
 string (ByteArray.mk #[(42:UInt8)]),string (ByteArray.mk #[(47:UInt8)]),string (ByteArray.mk #[(37:UInt8)]),string (ByteArray.mk #[(124:UInt8),(124:UInt8)]),string (ByteArray.mk #[(61 :
 UInt8)]),string (ByteArray.mk #[(60:UInt8),(62:UInt8)]),string (ByteArray.mk #[(60:UInt8)]),string (ByteArray.mk #[(60:UInt8),(61:UInt8)]),string (ByteArray.mk #[(62:UInt8)]),string
 (ByteArray.mk #[(62:UInt8),(61:UInt8)]),string (ByteArray.mk #[(97:UInt8),(110:UInt8),(100:UInt8)]),string (ByteArray.mk #[(111:UInt8),(114:UInt8)]),string (ByteArray.mk #[(108 :
 UInt8),(105:UInt8),(107:UInt8),(101:UInt8)])] 9->bif decide (d<0) then K (tuple #[string (ByteArray.mk #[]),bool false]) w' else bif decide ((↑15:Int)<=d) then
 K (tuple #[string (ByteArray.mk #[]),bool false]) w' else ∃ ad,some (mk g 0 none)=some ad/\(0<=d/\d<(↑15:Int))/\∃ (x:ByteArray),cell? w' (add ad (Int.toNat d *
 1))=some (string x)/\K (tuple #[string x,bool true]) w'
theorem cardindexref15_Sign.calls (ok:Okay Tryz.prog) {d w K} (h:cardindexref15_Sign.W d w K):CallsV Tryz.prog 17 #[.int .i64 d] w K :=
  fnW_calls ok Tryz.func17 (an:=(.named .auto)) (args:=[.int .i64 d]) (Eq.mp (by kernel_rfl) h)
noncomputable def cardindexref15_Func.W:Int->World->(Value->World->Prop)->Prop:=fun d w K=>∀ g w',Fresh w g w' [string (ByteArray.mk #[(108:UInt8),(101:UInt8),(110:UInt8),(103 :
 UInt8),(116:UInt8),(104:UInt8)]),string (ByteArray.mk #[(117:UInt8),(112:UInt8),(112:UInt8),(101:UInt8),(114:UInt8)]),string (ByteArray.mk #[(108:UInt8),(111:UInt8),(119 :
 UInt8),(101:UInt8),(114:UInt8)]),string (ByteArray.mk #[(97:UInt8),(98:UInt8),(115:UInt8)]),string (ByteArray.mk #[(116:UInt8),(121:UInt8),(112:UInt8),(101:UInt8),(111 :
 UInt8),(102:UInt8)]),string (ByteArray.mk #[(104:UInt8),(101:UInt8),(120:UInt8)]),string (ByteArray.mk #[(105:UInt8),(102:UInt8),(110:UInt8),(117:UInt8),(108:UInt8),(108 :
 UInt8)]),string (ByteArray.mk #[(105:UInt8),(110:UInt8),(115:UInt8),(116:UInt8),(114:UInt8)]),string (ByteArray.mk #[(115:UInt8),(117:UInt8),(98:UInt8),(115:UInt8),(116 :
 UInt8),(114:UInt8)]),string (ByteArray.mk #[(99:UInt8),(111:UInt8),(97:UInt8),(108:UInt8),(101:UInt8),(115:UInt8),(99:UInt8),(101:UInt8)])] 9->bif decide (d<0)
 then K (tuple #[string (ByteArray.mk #[]),bool false]) w' else bif decide ((↑10:Int)<=d) then K (tuple #[string (ByteArray.mk #[]),bool false]) w' else ∃ ad,some (mk g
 0 none)=some ad/\(0<=d/\d<(↑10:Int))/\∃ (x:ByteArray),cell? w' (add ad (Int.toNat d*1))=some (string x)/\K (tuple #[string x,bool true]) w'
theorem cardindexref15_Func.calls (ok:Okay Tryz.prog) {d w K} (h:cardindexref15_Func.W d w K):CallsV Tryz.prog 19 #[.int .i64 d] w K :=
  fnW_calls ok Tryz.func19 (an:=(.named .auto)) (args:=[.int .i64 d]) (Eq.mp (by kernel_rfl) h)
noncomputable def cardindexref15_Word.W:Int->World->(Value->World->Prop)->Prop:=fun o w K=>∀ g w',Fresh w g w' [string (ByteArray.mk #[]),string (ByteArray.mk #[(99:UInt8),(111 :
 UInt8),(110:UInt8),(115:UInt8),(116:UInt8)]),string (ByteArray.mk #[(98:UInt8),(105:UInt8),(110:UInt8),(100:UInt8)]),string (ByteArray.mk #[(109:UInt8),(111:UInt8),(118 :
 UInt8),(101:UInt8)]),string (ByteArray.mk #[(116:UInt8),(119:UInt8),(111:UInt8)]),string (ByteArray.mk #[(111:UInt8),(110:UInt8),(101:UInt8)]),string (ByteArray.mk #[(105 :
 UInt8),(115:UInt8)]),string (ByteArray.mk #[(99:UInt8),(97:UInt8),(115:UInt8),(116:UInt8)]),string (ByteArray.mk #[(99:UInt8),(97:UInt8),(108:UInt8),(108:UInt8)]),string
 (ByteArray.mk #[(109:UInt8),(117:UInt8),(115:UInt8),(116:UInt8)]),string (ByteArray.mk #[(106:UInt8),(117:UInt8),(109:UInt8),(112:UInt8)]),string (ByteArray.mk #[(105:UInt8),
 (102:UInt8)]),string (ByteArray.mk #[(100:UInt8),(105:UInt8),(102:UInt8),(102:UInt8),(101:UInt8),(114:UInt8)]),string (ByteArray.mk #[(102:UInt8),(105:UInt8),(114:UInt8),
 (115:UInt8),(116:UInt8)]),string (ByteArray.mk #[(115:UInt8),(101:UInt8),(101:UInt8),(107:UInt8)]),string (ByteArray.mk #[(110:UInt8),(101:UInt8),(120:UInt8),(116:UInt8)]),
 string (ByteArray.mk #[(112:UInt8),(97:UInt8),(115:UInt8),(116:UInt8)]),string (ByteArray.mk #[(102:UInt8),(105:UInt8),(110:UInt8),(100:UInt8)]),string (ByteArray.mk #[(99 :
 UInt8),(111:UInt8),(108:UInt8)]),string (ByteArray.mk #[(114:UInt8),(111:UInt8),(119:UInt8),(105:UInt8),(100:UInt8)]),string (ByteArray.mk #[(97:UInt8),(100:UInt8),(100 :
 UInt8)]),string (ByteArray.mk #[(115:UInt8),(111:UInt8),(114:UInt8),(116:UInt8),(101:UInt8),(100:UInt8)]),string (ByteArray.mk #[(97:UInt8),(102:UInt8),(116:UInt8),(101 :
 UInt8),(114:UInt8)]),string (ByteArray.mk #[(116:UInt8),(97:UInt8),(107:UInt8),(101:UInt8)]),string (ByteArray.mk #[(99:UInt8),(108:UInt8),(101:UInt8),(97:UInt8),(114 :
 UInt8)]),string (ByteArray.mk #[(115:UInt8),(116:UInt8),(101:UInt8),(112:UInt8)]),string (ByteArray.mk #[(116:UInt8),(111:UInt8),(116:UInt8),(97:UInt8),(108:UInt8)]),string
 (ByteArray.mk #[(114:UInt8),(111:UInt8),(119:UInt8)]),string (ByteArray.mk #[(110:UInt8),(101:UInt8),(119:UInt8),(105:UInt8),(100:UInt8)]),string (ByteArray.mk #[(105:UInt8),
 (110:UInt8),(115:UInt8),(101:UInt8),(114:UInt8),(116:UInt8)]),string (ByteArray.mk #[(100:UInt8),(101:UInt8),(108:UInt8),(101:UInt8),(116:UInt8),(101:UInt8)]),string
 (ByteArray.mk #[(100:UInt8),(101:UInt8),(102:UInt8),(105:UInt8),(110:UInt8),(101:UInt8)]),string (ByteArray.mk #[(98:UInt8),(101:UInt8),(103:UInt8),(105:UInt8),(110 :
 UInt8)]),string (ByteArray.mk #[(99:UInt8),(111:UInt8),(109:UInt8),(109:UInt8),(105:UInt8),(116:UInt8)]),string (ByteArray.mk #[(98:UInt8),(97:UInt8),(99:UInt8),(107 :
 UInt8)]),string (ByteArray.mk #[(104:UInt8),(97:UInt8),(108:UInt8),(116:UInt8)])] 9->bif decide ((↑36:Int)<=wrap i64 o) then K (string (ByteArray.mk #[])) w' else ∃ ad,
 some (mk g 0 none)=some ad/\(0<=o/\o<(↑36:Int))/\∃ (x:ByteArray),cell? w' (add ad (Int.toNat o*1))=some (string x)/\K (string x) w'
theorem cardindexref15_Word.calls (ok:Okay Tryz.prog) {o w K} (h:cardindexref15_Word.W o w K):CallsV Tryz.prog 24 #[.int .u8 o] w K :=
  fnW_calls ok Tryz.func24 (an:=(.named .auto)) (args:=[.int .u8 o]) (Eq.mp (by kernel_rfl) h)
noncomputable def cardindexref15_digits.W:Int->World->(Value->World->Prop)->Prop:=fun n w K=>bif decide (n<0) then (10: Int)≠0/\bif decide (wrap i64 (Int.tdiv n 10)
 = 0) then CallsV Tryz.prog 62 #[int i64 (wrap i64 (0-n))] w fun v w'=>∃ (x:ByteArray),v=string x/\ByteArray.size (ByteArray.mk #[(45:UInt8)])+ByteArray.size x<=9223372036854775807/\K
 (string (ByteArray.mk #[(45:UInt8)]++x)) w' else (10: Int)≠0/\CallsV Tryz.prog 62 #[int i64 (wrap i64 (Int.tdiv n 10))] w fun v w'=>∃ (x:ByteArray),v=string x/\(10: Int)≠0/\CallsV
 Tryz.prog 62 #[int i64 (wrap i64 (0-Int.tmod n 10))] w' fun v w'=>∃ (x_1:ByteArray),v=string x_1/\ByteArray.size x+ByteArray.size x_1<=9223372036854775807/\K (string (x++x_1)) w' else
 bif decide (n<10) then ∀ g w',Fresh w g w' [int u8 (wrap u8 (wrap i64 (48+n)))] 5->∃ (x:ByteArray) (w'_1:World),RunsTo Tryz.prog (convert 32 9 (slice (some (mk g 0
 none)) 1 1)) w' (string x) w'_1/\K (string x) w'_1 else (10: Int)≠0/\CallsV Tryz.prog 62 #[int i64 (wrap i64 (Int.tdiv n 10))] w fun v w'=>∃ (x:ByteArray),v=string x/\(10: Int)≠0 /\
 CallsV Tryz.prog 62 #[int i64 (Int.tmod n 10)] w' fun v w'=>∃ (x_1:ByteArray),v=string x_1/\ByteArray.size x+ByteArray.size x_1<=9223372036854775807/\K (string (x++x_1)) w'
theorem cardindexref15_digits.calls (ok:Okay Tryz.prog) {n w K} (h:cardindexref15_digits.W n w K):CallsV Tryz.prog 62 #[.int .i64 n] w K :=
  fnW_calls ok Tryz.func62 (an:=(.named .auto)) (args:=[.int .i64 n]) (Eq.mp (by kernel_rfl) h)
noncomputable def cardindexref15_Show.W:Int->Int->Int->Int->Int->World->(Value->World->Prop)->Prop:=fun i0 i1 i2 i3 i4 w K=>∀ g w',Fresh w g w' [int u8 i0,int i64 i1,int i64 i2,int
 i64 i3,int i64 i4] 46->∃ x,cell? w' (add (mk g 0 none) 0)=some (int u8 x)/\CallsV Tryz.prog 24 #[int u8 x] w' fun v w'=>∃ (x:ByteArray),v=string x/\∃ (J:ByteArray->World
 -> Prop),(∀ (x:ByteArray) w,J x w->ByteArray.size x+ByteArray.size (ByteArray.mk #[(32:UInt8)])<=9223372036854775807/\∃ (S:World->Prop),S (drew w)/\∃ x_1,(∀ u,S u->cell? u (add (mk g
 0 none) 1)=some (int i64 x_1))/\∃ x_2,(∀ u,S u->cell? u (add (mk g 0 none) 2)=some (int i64 x_2))/\∃ x_3,(∀ u,S u->cell? u (add (mk g 0 none) 3) =
 some (int i64 x_3))/\∃ x_4,(∀ u,S u->cell? u (add (mk g 0 none) 4)=some (int i64 x_4))/\CallsV Tryz.prog 62 #[int i64 x_1] (drew w) fun v w'=>∃ (x_5:ByteArray),v =
 string x_5/\S w'/\ByteArray.size (x++ByteArray.mk #[(32:UInt8)])+ByteArray.size x_5<=9223372036854775807/\ByteArray.size (x++ByteArray.mk #[(32:UInt8)]++x_5)+ByteArray.size
 (ByteArray.mk #[(32:UInt8)])<=9223372036854775807/\CallsV Tryz.prog 62 #[int i64 x_2] w' fun v w'=>∃ (x_6:ByteArray),v=string x_6/\S w'/\ByteArray.size (x++ByteArray.mk #[(32:UInt8)]
 ++ x_5++ByteArray.mk #[(32:UInt8)])+ByteArray.size x_6<=9223372036854775807/\ByteArray.size (x++ByteArray.mk #[(32:UInt8)]++x_5++ByteArray.mk #[(32:UInt8)]++x_6)+ByteArray.size
 (ByteArray.mk #[(32:UInt8)])<=9223372036854775807/\CallsV Tryz.prog 62 #[int i64 x_3] w' fun v w'=>∃ (x_7:ByteArray),v=string x_7/\S w'/\ByteArray.size (x++ByteArray.mk #[(32:UInt8)]
 ++ x_5++ByteArray.mk #[(32:UInt8)]++x_6++ByteArray.mk #[(32:UInt8)])+ByteArray.size x_7<=9223372036854775807/\ByteArray.size (x++ByteArray.mk #[(32:UInt8)]++x_5++ByteArray.mk
 #[(32:UInt8)]++x_6++ByteArray.mk #[(32:UInt8)]++x_7)+ByteArray.size (ByteArray.mk #[(32:UInt8)])<=9223372036854775807/\CallsV Tryz.prog 62 #[int i64 x_4] w' fun v w'=>∃ (x_8 :
 ByteArray),v=string x_8/\ByteArray.size (x++ByteArray.mk #[(32:UInt8)]++x_5++ByteArray.mk #[(32:UInt8)]++x_6++ByteArray.mk #[(32:UInt8)]++x_7++ByteArray.mk #[(32:UInt8)]) +
 ByteArray.size x_8<=9223372036854775807/\K (string (x++ByteArray.mk #[(32:UInt8)]++x_5++ByteArray.mk #[(32:UInt8)]++x_6++ByteArray.mk #[(32:UInt8)]++x_7++ByteArray.mk #[(32 :
 UInt8)]++x_8)) w')/\bif ByteArray.toList x == ByteArray.toList (ByteArray.mk #[]) then ∃ x,cell? w' (add (mk g 0 none) 0)=some (int u8 x)/\CallsV Tryz.prog 62 #[int i64 (wrap i64
 x)] w' fun v w'=>∃ (x:ByteArray),v=string x/\ByteArray.size (ByteArray.mk #[(111:UInt8),(112:UInt8)])+ByteArray.size x<=9223372036854775807/\J (ByteArray.mk #[(111:UInt8),(112 :
 UInt8)]++x) w' else J x w'
theorem cardindexref15_Show.calls (ok:Okay Tryz.prog) {i0 i1 i2 i3 i4 w K} (h:cardindexref15_Show.W i0 i1 i2 i3 i4 w K):CallsV Tryz.prog 22 #[.agg #[.int .u8 i0,.int .i64 i1,.int .i64 i2,.int .i64 i3,.int .i64 i4]] w K :=
  fnW_calls ok Tryz.func22 (an:=(.named (.seq .auto (.seq .auto (.join [(3,.one .str)] .auto .auto))))) (args:=[.agg #[.int .u8 i0,.int .i64 i1,.int .i64 i2,.int .i64 i3,.int .i64 i4]]) (Eq.mp (by kernel_rfl) h)
noncomputable def cardindexref15_in.W:Int->Int->Int->World->(Value->World->Prop)->Prop:=fun n low high w K=>bif decide (low<=n) then K (bool (decide (n<high))) w
 else K (bool false) w
theorem cardindexref15_in.calls (ok:Okay Tryz.prog) {n low high w K} (h:cardindexref15_in.W n low high w K):CallsV Tryz.prog 57 #[.int .i64 n,.int .i64 low,.int .i64 high] w K :=
  fnW_calls ok Tryz.func57 (an:=(.named .auto)) (args:=[.int .i64 n,.int .i64 low,.int .i64 high]) (Eq.mp (by kernel_rfl) h)
noncomputable def cardindexref15_look_r.W:Int->Int->Int->Option Addr->Nat->Nat->Option Addr->Nat->Nat->Option Addr->Nat->Nat->Option Addr->Nat->Nat->Option Addr->Nat->Nat->Option
 Addr->Nat->Nat->Int->Int->World->(Value->World->Prop)->Prop:=fun x0 x1 x2 x3_A x3_n x3_c x4_A x4_n x4_c x5_A x5_n x5_c x6_A x6_n x6_c x7_A x7_n x7_c x8_A x8_n x8_c x9 n w K=>∀ g w',Fresh
 w g w' [int i64 x0,int i64 x1,int i64 x2,slice x3_A x3_n x3_c,slice x4_A x4_n x4_c,slice x5_A x5_n x5_c,slice x6_A x6_n x6_c,slice x7_A x7_n x7_c,slice x8_A x8_n x8_c,int i64 x9] 143->∃ x,
 cell? w' (add (add (mk g 0 none) 0) 1)=some (int i64 x)/\CallsV Tryz.prog 57 #[int i64 n,int i64 0,int i64 x] w' fun v w'=>∃ x,v=bool x/\K (bool x) w'
theorem cardindexref15_look_r.calls (ok:Okay Tryz.prog) {x0 x1 x2 x3_A x3_n x3_c x4_A x4_n x4_c x5_A x5_n x5_c x6_A x6_n x6_c x7_A x7_n x7_c x8_A x8_n x8_c x9 n w K} (h:cardindexref15_look_r.W x0 x1 x2 x3_A x3_n x3_c x4_A x4_n x4_c x5_A x5_n x5_c x6_A x6_n x6_c x7_A x7_n x7_c x8_A x8_n x8_c x9 n w K):CallsV Tryz.prog 112 #[.agg #[.int .i64 x0,.int .i64 x1,.int .i64 x2,.slice x3_A x3_n x3_c,.slice x4_A x4_n x4_c,.slice x5_A x5_n x5_c,.slice x6_A x6_n x6_c,.slice x7_A x7_n x7_c,.slice x8_A x8_n x8_c,.int .i64 x9],.int .i64 n] w K :=
  fnW_calls ok Tryz.func112 (an:=(.named .auto)) (args:=[.agg #[.int .i64 x0,.int .i64 x1,.int .i64 x2,.slice x3_A x3_n x3_c,.slice x4_A x4_n x4_c,.slice x5_A x5_n x5_c,.slice x6_A x6_n x6_c,.slice x7_A x7_n x7_c,.slice x8_A x8_n x8_c,.int .i64 x9],.int .i64 n]) (Eq.mp (by kernel_rfl) h)
noncomputable def cardindexref15_look_many.W:Int->Int->Int->Option Addr->Nat->Nat->Option Addr->Nat->Nat->Option Addr->Nat->Nat->Option Addr->Nat->Nat->Option Addr->Nat->Nat->Option
 Addr->Nat->Nat->Int->Int->Int->World->(Value->World->Prop)->Prop:=fun x0 x1 x2 x3_A x3_n x3_c x4_A x4_n x4_c x5_A x5_n x5_c x6_A x6_n x6_c x7_A x7_n x7_c x8_A x8_n x8_c x9 n count w K=>∀
 g w',Fresh w g w' [int i64 x0,int i64 x1,int i64 x2,slice x3_A x3_n x3_c,slice x4_A x4_n x4_c,slice x5_A x5_n x5_c,slice x6_A x6_n x6_c,slice x7_A x7_n x7_c,slice x8_A x8_n x8_c,int i64 x9]
 143->∃ x,cell? w' (add (mk g 0 none) 0)=some (int i64 x)/\∃ x_1,cell? w' (add (mk g 0 none) 1)=some (int i64 x_1)/\∃ x_2,cell? w' (add (mk g 0 none) 2) =
 some (int i64 x_2)/\∃ x_3 x_4 x_5,cell? w' (add (mk g 0 none) 3)=some (slice x_3 x_4 x_5)/\∃ x_6 x_7 x_8,cell? w' (add (mk g 0 none) 4)=some (slice x_6 x_7
 x_8)/\∃ x_9 x_10 x_11,cell? w' (add (mk g 0 none) 5)=some (slice x_9 x_10 x_11)/\∃ x_12 x_13 x_14,cell? w' (add (mk g 0 none) 6)=some (slice x_12 x_13 x_14)/\∃ x_15
 x_16 x_17,cell? w' (add (mk g 0 none) 7)=some (slice x_15 x_16 x_17)/\∃ x_18 x_19 x_20,cell? w' (add (mk g 0 none) 8)=some (slice x_18 x_19 x_20)/\∃ x_21,cell? w'
 (add (mk g 0 none) 9)=some (int i64 x_21)/\CallsV Tryz.prog 112 #[agg #[int i64 x,int i64 x_1,int i64 x_2,slice x_3 x_4 x_5,slice x_6 x_7 x_8,slice x_9 x_10 x_11,slice x_12 x_13
 x_14,slice x_15 x_16 x_17,slice x_18 x_19 x_20,int i64 x_21],int i64 n] w' fun v w'=>∃ x,v=bool x/\bif x then ∃ x,cell? w' (add (add (mk g 0 none) 0) 1)=some (int i64 x)/\K
 (bool (decide (count<=wrap i64 (x-n)))) w' else K (bool false) w'
theorem cardindexref15_look_many.calls (ok:Okay Tryz.prog) {x0 x1 x2 x3_A x3_n x3_c x4_A x4_n x4_c x5_A x5_n x5_c x6_A x6_n x6_c x7_A x7_n x7_c x8_A x8_n x8_c x9 n count w K} (h:cardindexref15_look_many.W x0 x1 x2 x3_A x3_n x3_c x4_A x4_n x4_c x5_A x5_n x5_c x6_A x6_n x6_c x7_A x7_n x7_c x8_A x8_n x8_c x9 n count w K):CallsV Tryz.prog 114 #[.agg #[.int .i64 x0,.int .i64 x1,.int .i64 x2,.slice x3_A x3_n x3_c,.slice x4_A x4_n x4_c,.slice x5_A x5_n x5_c,.slice x6_A x6_n x6_c,.slice x7_A x7_n x7_c,.slice x8_A x8_n x8_c,.int .i64 x9],.int .i64 n,.int .i64 count] w K :=
  fnW_calls ok Tryz.func114 (an:=(.named .auto)) (args:=[.agg #[.int .i64 x0,.int .i64 x1,.int .i64 x2,.slice x3_A x3_n x3_c,.slice x4_A x4_n x4_c,.slice x5_A x5_n x5_c,.slice x6_A x6_n x6_c,.slice x7_A x7_n x7_c,.slice x8_A x8_n x8_c,.int .i64 x9],.int .i64 n,.int .i64 count]) (Eq.mp (by kernel_rfl) h)
noncomputable def cardindexref15_look_j.W:Int->Int->Int->Option Addr->Nat->Nat->Option Addr->Nat->Nat->Option Addr->Nat->Nat->Option Addr->Nat->Nat->Option Addr->Nat->Nat->Option
 Addr->Nat->Nat->Int->Int->World->(Value->World->Prop)->Prop:=fun x0 x1 x2 x3_A x3_n x3_c x4_A x4_n x4_c x5_A x5_n x5_c x6_A x6_n x6_c x7_A x7_n x7_c x8_A x8_n x8_c x9 n w K=>∀ g w',Fresh
 w g w' [int i64 x0,int i64 x1,int i64 x2,slice x3_A x3_n x3_c,slice x4_A x4_n x4_c,slice x5_A x5_n x5_c,slice x6_A x6_n x6_c,slice x7_A x7_n x7_c,slice x8_A x8_n x8_c,int i64 x9] 143->∃ x,
 cell? w' (add (mk g 0 none) 9)=some (int i64 x)/\bif decide (x<n) then ∃ x x_1 x_2,cell? w' (add (add (mk g 0 none) 0) 8)=some (slice x x_1 x_2)/\K (bool
 (decide (n<(x_1:Int)))) w' else K (bool false) w'
theorem cardindexref15_look_j.calls (ok:Okay Tryz.prog) {x0 x1 x2 x3_A x3_n x3_c x4_A x4_n x4_c x5_A x5_n x5_c x6_A x6_n x6_c x7_A x7_n x7_c x8_A x8_n x8_c x9 n w K} (h:cardindexref15_look_j.W x0 x1 x2 x3_A x3_n x3_c x4_A x4_n x4_c x5_A x5_n x5_c x6_A x6_n x6_c x7_A x7_n x7_c x8_A x8_n x8_c x9 n w K):CallsV Tryz.prog 116 #[.agg #[.int .i64 x0,.int .i64 x1,.int .i64 x2,.slice x3_A x3_n x3_c,.slice x4_A x4_n x4_c,.slice x5_A x5_n x5_c,.slice x6_A x6_n x6_c,.slice x7_A x7_n x7_c,.slice x8_A x8_n x8_c,.int .i64 x9],.int .i64 n] w K :=
  fnW_calls ok Tryz.func116 (an:=(.named .auto)) (args:=[.agg #[.int .i64 x0,.int .i64 x1,.int .i64 x2,.slice x3_A x3_n x3_c,.slice x4_A x4_n x4_c,.slice x5_A x5_n x5_c,.slice x6_A x6_n x6_c,.slice x7_A x7_n x7_c,.slice x8_A x8_n x8_c,.int .i64 x9],.int .i64 n]) (Eq.mp (by kernel_rfl) h)
noncomputable def cardindexref15_look_back.W:Int->Int->Int->Option Addr->Nat->Nat->Option Addr->Nat->Nat->Option Addr->Nat->Nat->Option Addr->Nat->Nat->Option Addr->Nat->Nat->Option
 Addr->Nat->Nat->Int->Int->World->(Value->World->Prop)->Prop:=fun x0 x1 x2 x3_A x3_n x3_c x4_A x4_n x4_c x5_A x5_n x5_c x6_A x6_n x6_c x7_A x7_n x7_c x8_A x8_n x8_c x9 n w K=>∀ g w',Fresh
 w g w' [int i64 x0,int i64 x1,int i64 x2,slice x3_A x3_n x3_c,slice x4_A x4_n x4_c,slice x5_A x5_n x5_c,slice x6_A x6_n x6_c,slice x7_A x7_n x7_c,slice x8_A x8_n x8_c,int i64 x9] 143->bif
 decide (1<=n) then ∃ x,cell? w' (add (mk g 0 none) 9)=some (int i64 x)/\K (bool (decide (n<=x))) w' else K (bool false) w'
theorem cardindexref15_look_back.calls (ok:Okay Tryz.prog) {x0 x1 x2 x3_A x3_n x3_c x4_A x4_n x4_c x5_A x5_n x5_c x6_A x6_n x6_c x7_A x7_n x7_c x8_A x8_n x8_c x9 n w K} (h:cardindexref15_look_back.W x0 x1 x2 x3_A x3_n x3_c x4_A x4_n x4_c x5_A x5_n x5_c x6_A x6_n x6_c x7_A x7_n x7_c x8_A x8_n x8_c x9 n w K):CallsV Tryz.prog 119 #[.agg #[.int .i64 x0,.int .i64 x1,.int .i64 x2,.slice x3_A x3_n x3_c,.slice x4_A x4_n x4_c,.slice x5_A x5_n x5_c,.slice x6_A x6_n x6_c,.slice x7_A x7_n x7_c,.slice x8_A x8_n x8_c,.int .i64 x9],.int .i64 n] w K :=
  fnW_calls ok Tryz.func119 (an:=(.named .auto)) (args:=[.agg #[.int .i64 x0,.int .i64 x1,.int .i64 x2,.slice x3_A x3_n x3_c,.slice x4_A x4_n x4_c,.slice x5_A x5_n x5_c,.slice x6_A x6_n x6_c,.slice x7_A x7_n x7_c,.slice x8_A x8_n x8_c,.int .i64 x9],.int .i64 n]) (Eq.mp (by kernel_rfl) h)
noncomputable def cardindexref15_look_c.W:Int->Int->Int->Option Addr->Nat->Nat->Option Addr->Nat->Nat->Option Addr->Nat->Nat->Option Addr->Nat->Nat->Option Addr->Nat->Nat->Option
 Addr->Nat->Nat->Int->Int->World->(Value->World->Prop)->Prop:=fun x0 x1 x2 x3_A x3_n x3_c x4_A x4_n x4_c x5_A x5_n x5_c x6_A x6_n x6_c x7_A x7_n x7_c x8_A x8_n x8_c x9 n w K=>∀ g w',Fresh
 w g w' [int i64 x0,int i64 x1,int i64 x2,slice x3_A x3_n x3_c,slice x4_A x4_n x4_c,slice x5_A x5_n x5_c,slice x6_A x6_n x6_c,slice x7_A x7_n x7_c,slice x8_A x8_n x8_c,int i64 x9] 143->∃ x x_1
 x_2,cell? w' (add (add (mk g 0 none) 0) 5)=some (slice x x_1 x_2)/\CallsV Tryz.prog 57 #[int i64 n,int i64 0,int i64 (x_1:Int)] w' fun v w'=>∃ x,v=bool x/\K (bool x) w'
theorem cardindexref15_look_c.calls (ok:Okay Tryz.prog) {x0 x1 x2 x3_A x3_n x3_c x4_A x4_n x4_c x5_A x5_n x5_c x6_A x6_n x6_c x7_A x7_n x7_c x8_A x8_n x8_c x9 n w K} (h:cardindexref15_look_c.W x0 x1 x2 x3_A x3_n x3_c x4_A x4_n x4_c x5_A x5_n x5_c x6_A x6_n x6_c x7_A x7_n x7_c x8_A x8_n x8_c x9 n w K):CallsV Tryz.prog 117 #[.agg #[.int .i64 x0,.int .i64 x1,.int .i64 x2,.slice x3_A x3_n x3_c,.slice x4_A x4_n x4_c,.slice x5_A x5_n x5_c,.slice x6_A x6_n x6_c,.slice x7_A x7_n x7_c,.slice x8_A x8_n x8_c,.int .i64 x9],.int .i64 n] w K :=
  fnW_calls ok Tryz.func117 (an:=(.named .auto)) (args:=[.agg #[.int .i64 x0,.int .i64 x1,.int .i64 x2,.slice x3_A x3_n x3_c,.slice x4_A x4_n x4_c,.slice x5_A x5_n x5_c,.slice x6_A x6_n x6_c,.slice x7_A x7_n x7_c,.slice x8_A x8_n x8_c,.int .i64 x9],.int .i64 n]) (Eq.mp (by kernel_rfl) h)
noncomputable def cardindexref15_look_index.W:Int->Int->Int->Option Addr->Nat->Nat->Option Addr->Nat->Nat->Option Addr->Nat->Nat->Option Addr->Nat->Nat->Option Addr->Nat->Nat ->
 Option Addr->Nat->Nat->Int->Int->World->(Value->World->Prop)->Prop:=fun x0 x1 x2 x3_A x3_n x3_c x4_A x4_n x4_c x5_A x5_n x5_c x6_A x6_n x6_c x7_A x7_n x7_c x8_A x8_n x8_c x9 n w K=>∀ g w',
 Fresh w g w' [int i64 x0,int i64 x1,int i64 x2,slice x3_A x3_n x3_c,slice x4_A x4_n x4_c,slice x5_A x5_n x5_c,slice x6_A x6_n x6_c,slice x7_A x7_n x7_c,slice x8_A x8_n x8_c,int i64 x9] 143->∃
 x,cell? w' (add (mk g 0 none) 0)=some (int i64 x)/\∃ x_1,cell? w' (add (mk g 0 none) 1)=some (int i64 x_1)/\∃ x_2,cell? w' (add (mk g 0 none) 2) =
 some (int i64 x_2)/\∃ x_3 x_4 x_5,cell? w' (add (mk g 0 none) 3)=some (slice x_3 x_4 x_5)/\∃ x_6 x_7 x_8,cell? w' (add (mk g 0 none) 4)=some (slice x_6 x_7
 x_8)/\∃ x_9 x_10 x_11,cell? w' (add (mk g 0 none) 5)=some (slice x_9 x_10 x_11)/\∃ x_12 x_13 x_14,cell? w' (add (mk g 0 none) 6)=some (slice x_12 x_13 x_14)/\∃ x_15
 x_16 x_17,cell? w' (add (mk g 0 none) 7)=some (slice x_15 x_16 x_17)/\∃ x_18 x_19 x_20,cell? w' (add (mk g 0 none) 8)=some (slice x_18 x_19 x_20)/\∃ x_21,cell? w'
 (add (mk g 0 none) 9)=some (int i64 x_21)/\CallsV Tryz.prog 117 #[agg #[int i64 x,int i64 x_1,int i64 x_2,slice x_3 x_4 x_5,slice x_6 x_7 x_8,slice x_9 x_10 x_11,slice x_12 x_13
 x_14,slice x_15 x_16 x_17,slice x_18 x_19 x_20,int i64 x_21],int i64 n] w' fun v w'=>∃ x,v=bool x/\bif x then ∃ x x_22 x_23,cell? w' (add (add (mk g 0 none) 0) 5)=some (slice
 x x_22 x_23)/\∃ ad,x=some ad/\(0<=n/\n<(x_22:Int))/\∃ x,cell? w' (add (add ad (Int.toNat n*3)) 1)=some (bool x)/\K (bool x) w' else K (bool false) w'
theorem cardindexref15_look_index.calls (ok:Okay Tryz.prog) {x0 x1 x2 x3_A x3_n x3_c x4_A x4_n x4_c x5_A x5_n x5_c x6_A x6_n x6_c x7_A x7_n x7_c x8_A x8_n x8_c x9 n w K} (h:cardindexref15_look_index.W x0 x1 x2 x3_A x3_n x3_c x4_A x4_n x4_c x5_A x5_n x5_c x6_A x6_n x6_c x7_A x7_n x7_c x8_A x8_n x8_c x9 n w K):CallsV Tryz.prog 118 #[.agg #[.int .i64 x0,.int .i64 x1,.int .i64 x2,.slice x3_A x3_n x3_c,.slice x4_A x4_n x4_c,.slice x5_A x5_n x5_c,.slice x6_A x6_n x6_c,.slice x7_A x7_n x7_c,.slice x8_A x8_n x8_c,.int .i64 x9],.int .i64 n] w K :=
  fnW_calls ok Tryz.func118 (an:=(.named .auto)) (args:=[.agg #[.int .i64 x0,.int .i64 x1,.int .i64 x2,.slice x3_A x3_n x3_c,.slice x4_A x4_n x4_c,.slice x5_A x5_n x5_c,.slice x6_A x6_n x6_c,.slice x7_A x7_n x7_c,.slice x8_A x8_n x8_c,.int .i64 x9],.int .i64 n]) (Eq.mp (by kernel_rfl) h)
noncomputable def cardindexref15_look_table.W:Int->Int->Int->Option Addr->Nat->Nat->Option Addr->Nat->Nat->Option Addr->Nat->Nat->Option Addr->Nat->Nat->Option Addr->Nat->Nat ->
 Option Addr->Nat->Nat->Int->Int->World->(Value->World->Prop)->Prop:=fun x0 x1 x2 x3_A x3_n x3_c x4_A x4_n x4_c x5_A x5_n x5_c x6_A x6_n x6_c x7_A x7_n x7_c x8_A x8_n x8_c x9 n w K=>∀ g w',
 Fresh w g w' [int i64 x0,int i64 x1,int i64 x2,slice x3_A x3_n x3_c,slice x4_A x4_n x4_c,slice x5_A x5_n x5_c,slice x6_A x6_n x6_c,slice x7_A x7_n x7_c,slice x8_A x8_n x8_c,int i64 x9] 143->∃
 x,cell? w' (add (mk g 0 none) 0)=some (int i64 x)/\∃ x_1,cell? w' (add (mk g 0 none) 1)=some (int i64 x_1)/\∃ x_2,cell? w' (add (mk g 0 none) 2) =
 some (int i64 x_2)/\∃ x_3 x_4 x_5,cell? w' (add (mk g 0 none) 3)=some (slice x_3 x_4 x_5)/\∃ x_6 x_7 x_8,cell? w' (add (mk g 0 none) 4)=some (slice x_6 x_7
 x_8)/\∃ x_9 x_10 x_11,cell? w' (add (mk g 0 none) 5)=some (slice x_9 x_10 x_11)/\∃ x_12 x_13 x_14,cell? w' (add (mk g 0 none) 6)=some (slice x_12 x_13 x_14)/\∃ x_15
 x_16 x_17,cell? w' (add (mk g 0 none) 7)=some (slice x_15 x_16 x_17)/\∃ x_18 x_19 x_20,cell? w' (add (mk g 0 none) 8)=some (slice x_18 x_19 x_20)/\∃ x_21,cell? w'
 (add (mk g 0 none) 9)=some (int i64 x_21)/\CallsV Tryz.prog 117 #[agg #[int i64 x,int i64 x_1,int i64 x_2,slice x_3 x_4 x_5,slice x_6 x_7 x_8,slice x_9 x_10 x_11,slice x_12 x_13
 x_14,slice x_15 x_16 x_17,slice x_18 x_19 x_20,int i64 x_21],int i64 n] w' fun v w'=>∃ x,v=bool x/\bif x then ∃ x x_22 x_23,cell? w' (add (add (mk g 0 none) 0) 5)=some (slice
 x x_22 x_23)/\∃ ad,x=some ad/\(0<=n/\n<(x_22:Int))/\∃ x,cell? w' (add (add ad (Int.toNat n*3)) 1)=some (bool x)/\K (bool !x) w' else K (bool false) w'
theorem cardindexref15_look_table.calls (ok:Okay Tryz.prog) {x0 x1 x2 x3_A x3_n x3_c x4_A x4_n x4_c x5_A x5_n x5_c x6_A x6_n x6_c x7_A x7_n x7_c x8_A x8_n x8_c x9 n w K} (h:cardindexref15_look_table.W x0 x1 x2 x3_A x3_n x3_c x4_A x4_n x4_c x5_A x5_n x5_c x6_A x6_n x6_c x7_A x7_n x7_c x8_A x8_n x8_c x9 n w K):CallsV Tryz.prog 120 #[.agg #[.int .i64 x0,.int .i64 x1,.int .i64 x2,.slice x3_A x3_n x3_c,.slice x4_A x4_n x4_c,.slice x5_A x5_n x5_c,.slice x6_A x6_n x6_c,.slice x7_A x7_n x7_c,.slice x8_A x8_n x8_c,.int .i64 x9],.int .i64 n] w K :=
  fnW_calls ok Tryz.func120 (an:=(.named .auto)) (args:=[.agg #[.int .i64 x0,.int .i64 x1,.int .i64 x2,.slice x3_A x3_n x3_c,.slice x4_A x4_n x4_c,.slice x5_A x5_n x5_c,.slice x6_A x6_n x6_c,.slice x7_A x7_n x7_c,.slice x8_A x8_n x8_c,.int .i64 x9],.int .i64 n]) (Eq.mp (by kernel_rfl) h)
noncomputable def cardindexref15_look_written.W:Int->Int->Int->Option Addr->Nat->Nat->Option Addr->Nat->Nat->Option Addr->Nat->Nat->Option Addr->Nat->Nat->Option Addr->Nat->Nat ->
 Option Addr->Nat->Nat->Int->Int->World->(Value->World->Prop)->Prop:=fun x0 x1 x2 x3_A x3_n x3_c x4_A x4_n x4_c x5_A x5_n x5_c x6_A x6_n x6_c x7_A x7_n x7_c x8_A x8_n x8_c x9 n w K=>∀ g w',
 Fresh w g w' [int i64 x0,int i64 x1,int i64 x2,slice x3_A x3_n x3_c,slice x4_A x4_n x4_c,slice x5_A x5_n x5_c,slice x6_A x6_n x6_c,slice x7_A x7_n x7_c,slice x8_A x8_n x8_c,int i64 x9] 143->∃
 x,cell? w' (add (mk g 0 none) 0)=some (int i64 x)/\∃ x_1,cell? w' (add (mk g 0 none) 1)=some (int i64 x_1)/\∃ x_2,cell? w' (add (mk g 0 none) 2) =
 some (int i64 x_2)/\∃ x_3 x_4 x_5,cell? w' (add (mk g 0 none) 3)=some (slice x_3 x_4 x_5)/\∃ x_6 x_7 x_8,cell? w' (add (mk g 0 none) 4)=some (slice x_6 x_7
 x_8)/\∃ x_9 x_10 x_11,cell? w' (add (mk g 0 none) 5)=some (slice x_9 x_10 x_11)/\∃ x_12 x_13 x_14,cell? w' (add (mk g 0 none) 6)=some (slice x_12 x_13 x_14)/\∃ x_15
 x_16 x_17,cell? w' (add (mk g 0 none) 7)=some (slice x_15 x_16 x_17)/\∃ x_18 x_19 x_20,cell? w' (add (mk g 0 none) 8)=some (slice x_18 x_19 x_20)/\∃ x_21,cell? w'
 (add (mk g 0 none) 9)=some (int i64 x_21)/\CallsV Tryz.prog 120 #[agg #[int i64 x,int i64 x_1,int i64 x_2,slice x_3 x_4 x_5,slice x_6 x_7 x_8,slice x_9 x_10 x_11,slice x_12 x_13
 x_14,slice x_15 x_16 x_17,slice x_18 x_19 x_20,int i64 x_21],int i64 n] w' fun v w'=>∃ x,v=bool x/\bif x then ∃ x x_22 x_23,cell? w' (add (add (mk g 0 none) 0) 5)=some (slice
 x x_22 x_23)/\∃ ad,x=some ad/\(0<=n/\n<(x_22:Int))/\∃ x,cell? w' (add (add ad (Int.toNat n*3)) 2)=some (bool x)/\K (bool x) w' else K (bool false) w'
theorem cardindexref15_look_written.calls (ok:Okay Tryz.prog) {x0 x1 x2 x3_A x3_n x3_c x4_A x4_n x4_c x5_A x5_n x5_c x6_A x6_n x6_c x7_A x7_n x7_c x8_A x8_n x8_c x9 n w K} (h:cardindexref15_look_written.W x0 x1 x2 x3_A x3_n x3_c x4_A x4_n x4_c x5_A x5_n x5_c x6_A x6_n x6_c x7_A x7_n x7_c x8_A x8_n x8_c x9 n w K):CallsV Tryz.prog 123 #[.agg #[.int .i64 x0,.int .i64 x1,.int .i64 x2,.slice x3_A x3_n x3_c,.slice x4_A x4_n x4_c,.slice x5_A x5_n x5_c,.slice x6_A x6_n x6_c,.slice x7_A x7_n x7_c,.slice x8_A x8_n x8_c,.int .i64 x9],.int .i64 n] w K :=
  fnW_calls ok Tryz.func123 (an:=(.named .auto)) (args:=[.agg #[.int .i64 x0,.int .i64 x1,.int .i64 x2,.slice x3_A x3_n x3_c,.slice x4_A x4_n x4_c,.slice x5_A x5_n x5_c,.slice x6_A x6_n x6_c,.slice x7_A x7_n x7_c,.slice x8_A x8_n x8_c,.int .i64 x9],.int .i64 n]) (Eq.mp (by kernel_rfl) h)
noncomputable def cardindexref15_look_s.W:Int->Int->Int->Option Addr->Nat->Nat->Option Addr->Nat->Nat->Option Addr->Nat->Nat->Option Addr->Nat->Nat->Option Addr->Nat->Nat->Option
 Addr->Nat->Nat->Int->Int->World->(Value->World->Prop)->Prop:=fun x0 x1 x2 x3_A x3_n x3_c x4_A x4_n x4_c x5_A x5_n x5_c x6_A x6_n x6_c x7_A x7_n x7_c x8_A x8_n x8_c x9 n w K=>∀ g w',Fresh
 w g w' [int i64 x0,int i64 x1,int i64 x2,slice x3_A x3_n x3_c,slice x4_A x4_n x4_c,slice x5_A x5_n x5_c,slice x6_A x6_n x6_c,slice x7_A x7_n x7_c,slice x8_A x8_n x8_c,int i64 x9] 143->∃ x x_1
 x_2,cell? w' (add (add (mk g 0 none) 0) 6)=some (slice x x_1 x_2)/\CallsV Tryz.prog 57 #[int i64 n,int i64 0,int i64 (x_1:Int)] w' fun v w'=>∃ x,v=bool x/\K (bool x) w'
theorem cardindexref15_look_s.calls (ok:Okay Tryz.prog) {x0 x1 x2 x3_A x3_n x3_c x4_A x4_n x4_c x5_A x5_n x5_c x6_A x6_n x6_c x7_A x7_n x7_c x8_A x8_n x8_c x9 n w K} (h:cardindexref15_look_s.W x0 x1 x2 x3_A x3_n x3_c x4_A x4_n x4_c x5_A x5_n x5_c x6_A x6_n x6_c x7_A x7_n x7_c x8_A x8_n x8_c x9 n w K):CallsV Tryz.prog 121 #[.agg #[.int .i64 x0,.int .i64 x1,.int .i64 x2,.slice x3_A x3_n x3_c,.slice x4_A x4_n x4_c,.slice x5_A x5_n x5_c,.slice x6_A x6_n x6_c,.slice x7_A x7_n x7_c,.slice x8_A x8_n x8_c,.int .i64 x9],.int .i64 n] w K :=
  fnW_calls ok Tryz.func121 (an:=(.named .auto)) (args:=[.agg #[.int .i64 x0,.int .i64 x1,.int .i64 x2,.slice x3_A x3_n x3_c,.slice x4_A x4_n x4_c,.slice x5_A x5_n x5_c,.slice x6_A x6_n x6_c,.slice x7_A x7_n x7_c,.slice x8_A x8_n x8_c,.int .i64 x9],.int .i64 n]) (Eq.mp (by kernel_rfl) h)
noncomputable def cardindexref15_look_t.W:Int->Int->Int->Option Addr->Nat->Nat->Option Addr->Nat->Nat->Option Addr->Nat->Nat->Option Addr->Nat->Nat->Option Addr->Nat->Nat->Option
 Addr->Nat->Nat->Int->Int->World->(Value->World->Prop)->Prop:=fun x0 x1 x2 x3_A x3_n x3_c x4_A x4_n x4_c x5_A x5_n x5_c x6_A x6_n x6_c x7_A x7_n x7_c x8_A x8_n x8_c x9 n w K=>∀ g w',Fresh
 w g w' [int i64 x0,int i64 x1,int i64 x2,slice x3_A x3_n x3_c,slice x4_A x4_n x4_c,slice x5_A x5_n x5_c,slice x6_A x6_n x6_c,slice x7_A x7_n x7_c,slice x8_A x8_n x8_c,int i64 x9] 143->∃ x x_1
 x_2,cell? w' (add (add (mk g 0 none) 0) 7)=some (slice x x_1 x_2)/\CallsV Tryz.prog 57 #[int i64 n,int i64 0,int i64 (x_1:Int)] w' fun v w'=>∃ x,v=bool x/\K (bool x) w'
theorem cardindexref15_look_t.calls (ok:Okay Tryz.prog) {x0 x1 x2 x3_A x3_n x3_c x4_A x4_n x4_c x5_A x5_n x5_c x6_A x6_n x6_c x7_A x7_n x7_c x8_A x8_n x8_c x9 n w K} (h:cardindexref15_look_t.W x0 x1 x2 x3_A x3_n x3_c x4_A x4_n x4_c x5_A x5_n x5_c x6_A x6_n x6_c x7_A x7_n x7_c x8_A x8_n x8_c x9 n w K):CallsV Tryz.prog 122 #[.agg #[.int .i64 x0,.int .i64 x1,.int .i64 x2,.slice x3_A x3_n x3_c,.slice x4_A x4_n x4_c,.slice x5_A x5_n x5_c,.slice x6_A x6_n x6_c,.slice x7_A x7_n x7_c,.slice x8_A x8_n x8_c,.int .i64 x9],.int .i64 n] w K :=
  fnW_calls ok Tryz.func122 (an:=(.named .auto)) (args:=[.agg #[.int .i64 x0,.int .i64 x1,.int .i64 x2,.slice x3_A x3_n x3_c,.slice x4_A x4_n x4_c,.slice x5_A x5_n x5_c,.slice x6_A x6_n x6_c,.slice x7_A x7_n x7_c,.slice x8_A x8_n x8_c,.int .i64 x9],.int .i64 n]) (Eq.mp (by kernel_rfl) h)
noncomputable def cardindexref15_look_k.W:Int->Int->Int->Option Addr->Nat->Nat->Option Addr->Nat->Nat->Option Addr->Nat->Nat->Option Addr->Nat->Nat->Option Addr->Nat->Nat->Option
 Addr->Nat->Nat->Int->Int->World->(Value->World->Prop)->Prop:=fun x0 x1 x2 x3_A x3_n x3_c x4_A x4_n x4_c x5_A x5_n x5_c x6_A x6_n x6_c x7_A x7_n x7_c x8_A x8_n x8_c x9 n w K=>∀ g w',Fresh
 w g w' [int i64 x0,int i64 x1,int i64 x2,slice x3_A x3_n x3_c,slice x4_A x4_n x4_c,slice x5_A x5_n x5_c,slice x6_A x6_n x6_c,slice x7_A x7_n x7_c,slice x8_A x8_n x8_c,int i64 x9] 143->∃ x x_1
 x_2,cell? w' (add (add (mk g 0 none) 0) 4)=some (slice x x_1 x_2)/\CallsV Tryz.prog 57 #[int i64 n,int i64 0,int i64 (x_1:Int)] w' fun v w'=>∃ x,v=bool x/\K (bool x) w'
theorem cardindexref15_look_k.calls (ok:Okay Tryz.prog) {x0 x1 x2 x3_A x3_n x3_c x4_A x4_n x4_c x5_A x5_n x5_c x6_A x6_n x6_c x7_A x7_n x7_c x8_A x8_n x8_c x9 n w K} (h:cardindexref15_look_k.W x0 x1 x2 x3_A x3_n x3_c x4_A x4_n x4_c x5_A x5_n x5_c x6_A x6_n x6_c x7_A x7_n x7_c x8_A x8_n x8_c x9 n w K):CallsV Tryz.prog 113 #[.agg #[.int .i64 x0,.int .i64 x1,.int .i64 x2,.slice x3_A x3_n x3_c,.slice x4_A x4_n x4_c,.slice x5_A x5_n x5_c,.slice x6_A x6_n x6_c,.slice x7_A x7_n x7_c,.slice x8_A x8_n x8_c,.int .i64 x9],.int .i64 n] w K :=
  fnW_calls ok Tryz.func113 (an:=(.named .auto)) (args:=[.agg #[.int .i64 x0,.int .i64 x1,.int .i64 x2,.slice x3_A x3_n x3_c,.slice x4_A x4_n x4_c,.slice x5_A x5_n x5_c,.slice x6_A x6_n x6_c,.slice x7_A x7_n x7_c,.slice x8_A x8_n x8_c,.int .i64 x9],.int .i64 n]) (Eq.mp (by kernel_rfl) h)
noncomputable def cardindexref15_instr.W:Int->Int->Int->Option Addr->Nat->Nat->Option Addr->Nat->Nat->Option Addr->Nat->Nat->Option Addr->Nat->Nat->Option Addr->Nat->Nat->Option
 Addr->Nat->Nat->Int->World->(Value->World->Prop)->Prop:=fun p0 p1 p2 p3_A p3_n p3_c p4_A p4_n p4_c p5_A p5_n p5_c p6_A p6_n p6_c p7_A p7_n p7_c p8_A p8_n p8_c atx w K=>∀ g w',Fresh w g w'
 [int i64 p0,int i64 p1,int i64 p2,slice p3_A p3_n p3_c,slice p4_A p4_n p4_c,slice p5_A p5_n p5_c,slice p6_A p6_n p6_c,slice p7_A p7_n p7_c,slice p8_A p8_n p8_c] 29->∃ x x_1 x_2,cell? w' (add
 (mk g 0 none) 8)=some (slice x x_1 x_2)/\∃ ad,x=some ad/\(0<=atx/\atx<(x_1:Int))/\∃ x,cell? w' (add (add ad (Int.toNat atx*5)) 0)=some (int u8 x)/\∃ x_3,
 cell? w' (add (add ad (Int.toNat atx*5)) 1)=some (int i64 x_3)/\∃ x_4,cell? w' (add (add ad (Int.toNat atx*5)) 2)=some (int i64 x_4)/\∃ x_5,cell? w' (add (add ad (Int.toNat
 atx*5)) 3)=some (int i64 x_5)/\∃ x_6,cell? w' (add (add ad (Int.toNat atx*5)) 4)=some (int i64 x_6)/\∀ g_1 w'_1,Fresh w' g_1 w'_1 [int u8 0,int i64 0,int i64 0,int i64 0,
 int i64 0] 46->stOK (mk g_1 0 none) 0 [int u8 x,int i64 x_3,int i64 x_4,int i64 x_5,int i64 x_6] w'_1/\∀ w',w'=setAll (mk g_1 0 none) 0 [int u8 x,int i64 x_3,int i64 x_4,int
 i64 x_5,int i64 x_6] w'_1->∃ x,cell? w' (add (mk g 0 none) 0)=some (int i64 x)/\∃ x_7,cell? w' (add (mk g 0 none) 1)=some (int i64 x_7)/\∃ x_8,cell? w' (add (mk g
 0 none) 2)=some (int i64 x_8)/\∃ x_9 x_10 x_11,cell? w' (add (mk g 0 none) 3)=some (slice x_9 x_10 x_11)/\∃ x_12 x_13 x_14,cell? w' (add (mk g 0 none) 4) =
 some (slice x_12 x_13 x_14)/\∃ x_15 x_16 x_17,cell? w' (add (mk g 0 none) 5)=some (slice x_15 x_16 x_17)/\∃ x_18 x_19 x_20,cell? w' (add (mk g 0 none) 6)=some
 (slice x_18 x_19 x_20)/\∃ x_21 x_22 x_23,cell? w' (add (mk g 0 none) 7)=some (slice x_21 x_22 x_23)/\∃ x_24 x_25 x_26,cell? w' (add (mk g 0 none) 8)=some (slice x_24
 x_25 x_26)/\∀ g_2 w'_2,Fresh w' g_2 w'_2 [int i64 0,int i64 0,int i64 0,slice none 0 0,slice none 0 0,slice none 0 0,slice none 0 0,slice none 0 0,slice
 none 0 0,int i64 0] 143->stOK (mk g_2 0 none) 0 [int i64 x,int i64 x_7,int i64 x_8,slice x_9 x_10 x_11,slice x_12 x_13 x_14,slice x_15 x_16 x_17,slice x_18 x_19 x_20,slice x_21
 x_22 x_23,slice x_24 x_25 x_26,int i64 atx] w'_2/\∀ w',w'=setAll (mk g_2 0 none) 0 [int i64 x,int i64 x_7,int i64 x_8,slice x_9 x_10 x_11,slice x_12 x_13 x_14,slice x_15 x_16 x_17,
 slice x_18 x_19 x_20,slice x_21 x_22 x_23,slice x_24 x_25 x_26,int i64 atx] w'_2->∃ x,cell? w' (add (mk g_1 0 none) 1)=some (int i64 x)/\∃ x_27,cell? w' (add (mk g_1 0
 none) 2)=some (int i64 x_27)/\∃ x_28,cell? w' (add (mk g_1 0 none) 3)=some (int i64 x_28)/\∃ x_29,cell? w' (add (mk g_1 0 none) 4)=some (int i64
 x_29)/\∀ g_3 w'_3,Fresh w' g_3 w'_3 [bool (decide (x=0)),bool (decide (x_27=0)),bool (decide (x_28=0)),bool (decide (x_29=0))] 4->∃ x,cell? w'_3
 (add (mk g_1 0 none) 0)=some (int u8 x)/\bif decide (x=1) then ∃ x,cell? w'_3 (add (mk g_2 0 none) 0)=some (int i64 x)/\∃ x_30,cell? w'_3 (add (mk g_2 0
 none) 1)=some (int i64 x_30)/\∃ x_31,cell? w'_3 (add (mk g_2 0 none) 2)=some (int i64 x_31)/\∃ x_32 x_33 x_34,cell? w'_3 (add (mk g_2 0 none) 3)=some
 (slice x_32 x_33 x_34)/\∃ x_35 x_36 x_37,cell? w'_3 (add (mk g_2 0 none) 4)=some (slice x_35 x_36 x_37)/\∃ x_38 x_39 x_40,cell? w'_3 (add (mk g_2 0 none) 5)=some
 (slice x_38 x_39 x_40)/\∃ x_41 x_42 x_43,cell? w'_3 (add (mk g_2 0 none) 6)=some (slice x_41 x_42 x_43)/\∃ x_44 x_45 x_46,cell? w'_3 (add (mk g_2 0 none) 7)=some
 (slice x_44 x_45 x_46)/\∃ x_47 x_48 x_49,cell? w'_3 (add (mk g_2 0 none) 8)=some (slice x_47 x_48 x_49)/\∃ x_50,cell? w'_3 (add (mk g_2 0 none) 9)=some (int i64
 x_50)/\∃ x_51,cell? w'_3 (add (mk g_1 0 none) 1)=some (int i64 x_51)/\CallsV Tryz.prog 112 #[agg #[int i64 x,int i64 x_30,int i64 x_31,slice x_32 x_33 x_34,slice x_35 x_36 x_37,
 slice x_38 x_39 x_40,slice x_41 x_42 x_43,slice x_44 x_45 x_46,slice x_47 x_48 x_49,int i64 x_50],int i64 x_51] w'_3 fun v w'=>∃ x,v=bool x/\bif x then ∃ x,cell? w' (add (mk g_2 0
 none) 0)=some (int i64 x)/\∃ x_52,cell? w' (add (mk g_2 0 none) 1)=some (int i64 x_52)/\∃ x_53,cell? w' (add (mk g_2 0 none) 2)=some (int i64 x_53) /\
 ∃ x_54 x_55 x_56,cell? w' (add (mk g_2 0 none) 3)=some (slice x_54 x_55 x_56)/\∃ x_57 x_58 x_59,cell? w' (add (mk g_2 0 none) 4)=some (slice x_57 x_58 x_59)/\∃ x_60
 x_61 x_62,cell? w' (add (mk g_2 0 none) 5)=some (slice x_60 x_61 x_62)/\∃ x_63 x_64 x_65,cell? w' (add (mk g_2 0 none) 6)=some (slice x_63 x_64 x_65)/\∃ x_66 x_67
 x_68,cell? w' (add (mk g_2 0 none) 7)=some (slice x_66 x_67 x_68)/\∃ x_69 x_70 x_71,cell? w' (add (mk g_2 0 none) 8)=some (slice x_69 x_70 x_71)/\∃ x_72,cell? w'
 (add (mk g_2 0 none) 9)=some (int i64 x_72)/\∃ x_73,cell? w' (add (mk g_1 0 none) 2)=some (int i64 x_73)/\CallsV Tryz.prog 113 #[agg #[int i64 x,int i64 x_52,int
 i64 x_53,slice x_54 x_55 x_56,slice x_57 x_58 x_59,slice x_60 x_61 x_62,slice x_63 x_64 x_65,slice x_66 x_67 x_68,slice x_69 x_70 x_71,int i64 x_72],int i64 x_73] w' fun v w'=>∃ x,v=bool x
 /\ bif x then ∃ ad,some (mk g_3 0 none)=some ad/\((0: Int)<=2/\2<(↑4:Int))/\∃ x,cell? w' (add ad (Int.toNat (2: Int)*1))=some (bool x)/\bif x then ∃ ad,
 some (mk g_3 0 none)=some ad/\((0: Int)<=3/\3<(↑4:Int))/\∃ x,cell? w' (add ad (Int.toNat (3: Int)*1))=some (bool x)/\K (bool x) w' else K (bool false)
 w' else K (bool false) w' else K (bool false) w' else bif decide (x=2) then ∃ x,cell? w'_3 (add (mk g_2 0 none) 0)=some (int i64 x)/\∃ x_30,cell? w'_3 (add (mk
 g_2 0 none) 1)=some (int i64 x_30)/\∃ x_31,cell? w'_3 (add (mk g_2 0 none) 2)=some (int i64 x_31)/\∃ x_32 x_33 x_34,cell? w'_3 (add (mk g_2 0 none) 3) =
 some (slice x_32 x_33 x_34)/\∃ x_35 x_36 x_37,cell? w'_3 (add (mk g_2 0 none) 4)=some (slice x_35 x_36 x_37)/\∃ x_38 x_39 x_40,cell? w'_3 (add (mk g_2 0 none) 5) =
 some (slice x_38 x_39 x_40)/\∃ x_41 x_42 x_43,cell? w'_3 (add (mk g_2 0 none) 6)=some (slice x_41 x_42 x_43)/\∃ x_44 x_45 x_46,cell? w'_3 (add (mk g_2 0 none) 7) =
 some (slice x_44 x_45 x_46)/\∃ x_47 x_48 x_49,cell? w'_3 (add (mk g_2 0 none) 8)=some (slice x_47 x_48 x_49)/\∃ x_50,cell? w'_3 (add (mk g_2 0 none) 9)=some
 (int i64 x_50)/\∃ x_51,cell? w'_3 (add (mk g_1 0 none) 1)=some (int i64 x_51)/\CallsV Tryz.prog 112 #[agg #[int i64 x,int i64 x_30,int i64 x_31,slice x_32 x_33 x_34,slice x_35
 x_36 x_37,slice x_38 x_39 x_40,slice x_41 x_42 x_43,slice x_44 x_45 x_46,slice x_47 x_48 x_49,int i64 x_50],int i64 x_51] w'_3 fun v w'=>∃ x,v=bool x/\bif x then ∃ x,cell? w' (add (mk g_1
 0 none) 2)=some (int i64 x)/\∃ x_52,cell? w' (add (mk g 0 none) 2)=some (int i64 x_52)/\CallsV Tryz.prog 57 #[int i64 x,int i64 0,int i64 x_52] w' fun v w'=>∃ x,
 v=bool x/\bif x then ∃ ad,some (mk g_3 0 none)=some ad/\((0: Int)<=2/\2<(↑4:Int))/\∃ x,cell? w' (add ad (Int.toNat (2: Int)*1))=some (bool x)/\bif x then
 ∃ ad,some (mk g_3 0 none)=some ad/\((0: Int)<=3/\3<(↑4:Int))/\∃ x,cell? w' (add ad (Int.toNat (3: Int)*1))=some (bool x)/\K (bool x) w' else K (bool
 false) w' else K (bool false) w' else K (bool false) w' else bif decide (x=3) then ∃ x,cell? w'_3 (add (mk g_2 0 none) 0)=some (int i64 x)/\∃ x_30,cell?
 w'_3 (add (mk g_2 0 none) 1)=some (int i64 x_30)/\∃ x_31,cell? w'_3 (add (mk g_2 0 none) 2)=some (int i64 x_31)/\∃ x_32 x_33 x_34,cell? w'_3 (add (mk g_2 0
 none) 3)=some (slice x_32 x_33 x_34)/\∃ x_35 x_36 x_37,cell? w'_3 (add (mk g_2 0 none) 4)=some (slice x_35 x_36 x_37)/\∃ x_38 x_39 x_40,cell? w'_3 (add (mk g_2 0
 none) 5)=some (slice x_38 x_39 x_40)/\∃ x_41 x_42 x_43,cell? w'_3 (add (mk g_2 0 none) 6)=some (slice x_41 x_42 x_43)/\∃ x_44 x_45 x_46,cell? w'_3 (add (mk g_2 0
 none) 7)=some (slice x_44 x_45 x_46)/\∃ x_47 x_48 x_49,cell? w'_3 (add (mk g_2 0 none) 8)=some (slice x_47 x_48 x_49)/\∃ x_50,cell? w'_3 (add (mk g_2 0 none)
 9)=some (int i64 x_50)/\∃ x_51,cell? w'_3 (add (mk g_1 0 none) 1)=some (int i64 x_51)/\CallsV Tryz.prog 112 #[agg #[int i64 x,int i64 x_30,int i64 x_31,slice x_32 x_33
 x_34,slice x_35 x_36 x_37,slice x_38 x_39 x_40,slice x_41 x_42 x_43,slice x_44 x_45 x_46,slice x_47 x_48 x_49,int i64 x_50],int i64 x_51] w'_3 fun v w'=>∃ x,v=bool x/\bif x then ∃ x,cell?
 w' (add (mk g_2 0 none) 0)=some (int i64 x)/\∃ x_52,cell? w' (add (mk g_2 0 none) 1)=some (int i64 x_52)/\∃ x_53,cell? w' (add (mk g_2 0 none) 2) =
 some (int i64 x_53)/\∃ x_54 x_55 x_56,cell? w' (add (mk g_2 0 none) 3)=some (slice x_54 x_55 x_56)/\∃ x_57 x_58 x_59,cell? w' (add (mk g_2 0 none) 4)=some
 (slice x_57 x_58 x_59)/\∃ x_60 x_61 x_62,cell? w' (add (mk g_2 0 none) 5)=some (slice x_60 x_61 x_62)/\∃ x_63 x_64 x_65,cell? w' (add (mk g_2 0 none) 6)=some (slice
 x_63 x_64 x_65)/\∃ x_66 x_67 x_68,cell? w' (add (mk g_2 0 none) 7)=some (slice x_66 x_67 x_68)/\∃ x_69 x_70 x_71,cell? w' (add (mk g_2 0 none) 8)=some (slice x_69
 x_70 x_71)/\∃ x_72,cell? w' (add (mk g_2 0 none) 9)=some (int i64 x_72)/\∃ x_73,cell? w' (add (mk g_1 0 none) 2)=some (int i64 x_73)/\CallsV Tryz.prog 112 #[agg
 #[int i64 x,int i64 x_52,int i64 x_53,slice x_54 x_55 x_56,slice x_57 x_58 x_59,slice x_60 x_61 x_62,slice x_63 x_64 x_65,slice x_66 x_67 x_68,slice x_69 x_70 x_71,int i64 x_72],int i64 x_73]
 w' fun v w'=>∃ x,v=bool x/\bif x then ∃ ad,some (mk g_3 0 none)=some ad/\((0: Int)<=2/\2<(↑4:Int))/\∃ x,cell? w' (add ad (Int.toNat (2: Int)*1))=some
 (bool x)/\bif x then ∃ ad,some (mk g_3 0 none)=some ad/\((0: Int)<=3/\3<(↑4:Int))/\∃ x,cell? w' (add ad (Int.toNat (3: Int)*1))=some (bool x)/\K (bool x)
 w' else K (bool false) w' else K (bool false) w' else K (bool false) w' else bif decide (x=4) then ∃ x,cell? w'_3 (add (mk g_2 0 none) 0)=some (int i64 x) /\
 ∃ x_30,cell? w'_3 (add (mk g_2 0 none) 1)=some (int i64 x_30)/\∃ x_31,cell? w'_3 (add (mk g_2 0 none) 2)=some (int i64 x_31)/\∃ x_32 x_33 x_34,cell? w'_3 (add (mk
 g_2 0 none) 3)=some (slice x_32 x_33 x_34)/\∃ x_35 x_36 x_37,cell? w'_3 (add (mk g_2 0 none) 4)=some (slice x_35 x_36 x_37)/\∃ x_38 x_39 x_40,cell? w'_3 (add (mk g_2
 0 none) 5)=some (slice x_38 x_39 x_40)/\∃ x_41 x_42 x_43,cell? w'_3 (add (mk g_2 0 none) 6)=some (slice x_41 x_42 x_43)/\∃ x_44 x_45 x_46,cell? w'_3 (add (mk g_2 0
 none) 7)=some (slice x_44 x_45 x_46)/\∃ x_47 x_48 x_49,cell? w'_3 (add (mk g_2 0 none) 8)=some (slice x_47 x_48 x_49)/\∃ x_50,cell? w'_3 (add (mk g_2 0 none)
 9)=some (int i64 x_50)/\∃ x_51,cell? w'_3 (add (mk g_1 0 none) 1)=some (int i64 x_51)/\CallsV Tryz.prog 112 #[agg #[int i64 x,int i64 x_30,int i64 x_31,slice x_32 x_33
 x_34,slice x_35 x_36 x_37,slice x_38 x_39 x_40,slice x_41 x_42 x_43,slice x_44 x_45 x_46,slice x_47 x_48 x_49,int i64 x_50],int i64 x_51] w'_3 fun v w'=>∃ x,v=bool x/\bif x then ∃ x,cell?
 w' (add (mk g_2 0 none) 0)=some (int i64 x)/\∃ x_52,cell? w' (add (mk g_2 0 none) 1)=some (int i64 x_52)/\∃ x_53,cell? w' (add (mk g_2 0 none) 2) =
 some (int i64 x_53)/\∃ x_54 x_55 x_56,cell? w' (add (mk g_2 0 none) 3)=some (slice x_54 x_55 x_56)/\∃ x_57 x_58 x_59,cell? w' (add (mk g_2 0 none) 4)=some
 (slice x_57 x_58 x_59)/\∃ x_60 x_61 x_62,cell? w' (add (mk g_2 0 none) 5)=some (slice x_60 x_61 x_62)/\∃ x_63 x_64 x_65,cell? w' (add (mk g_2 0 none) 6)=some (slice
 x_63 x_64 x_65)/\∃ x_66 x_67 x_68,cell? w' (add (mk g_2 0 none) 7)=some (slice x_66 x_67 x_68)/\∃ x_69 x_70 x_71,cell? w' (add (mk g_2 0 none) 8)=some (slice x_69
 x_70 x_71)/\∃ x_72,cell? w' (add (mk g_2 0 none) 9)=some (int i64 x_72)/\∃ x_73,cell? w' (add (mk g_1 0 none) 2)=some (int i64 x_73)/\CallsV Tryz.prog 112 #[agg
 #[int i64 x,int i64 x_52,int i64 x_53,slice x_54 x_55 x_56,slice x_57 x_58 x_59,slice x_60 x_61 x_62,slice x_63 x_64 x_65,slice x_66 x_67 x_68,slice x_69 x_70 x_71,int i64 x_72],int i64 x_73]
 w' fun v w'=>∃ x,v=bool x/\bif x then ∃ x,cell? w' (add (mk g_2 0 none) 0)=some (int i64 x)/\∃ x_74,cell? w' (add (mk g_2 0 none) 1)=some (int i64 x_74)/\∃
 x_75,cell? w' (add (mk g_2 0 none) 2)=some (int i64 x_75)/\∃ x_76 x_77 x_78,cell? w' (add (mk g_2 0 none) 3)=some (slice x_76 x_77 x_78)/\∃ x_79 x_80 x_81,cell? w'
 (add (mk g_2 0 none) 4)=some (slice x_79 x_80 x_81)/\∃ x_82 x_83 x_84,cell? w' (add (mk g_2 0 none) 5)=some (slice x_82 x_83 x_84)/\∃ x_85 x_86 x_87,cell? w' (add
 (mk g_2 0 none) 6)=some (slice x_85 x_86 x_87)/\∃ x_88 x_89 x_90,cell? w' (add (mk g_2 0 none) 7)=some (slice x_88 x_89 x_90)/\∃ x_91 x_92 x_93,cell? w' (add (mk g_2
 0 none) 8)=some (slice x_91 x_92 x_93)/\∃ x_94,cell? w' (add (mk g_2 0 none) 9)=some (int i64 x_94)/\∃ x_95,cell? w' (add (mk g_1 0 none) 3)=some
 (int i64 x_95)/\CallsV Tryz.prog 112 #[agg #[int i64 x,int i64 x_74,int i64 x_75,slice x_76 x_77 x_78,slice x_79 x_80 x_81,slice x_82 x_83 x_84,slice x_85 x_86 x_87,slice x_88 x_89 x_90,slice
 x_91 x_92 x_93,int i64 x_94],int i64 x_95] w' fun v w'=>∃ x,v=bool x/\bif x then ∃ x,cell? w' (add (mk g_1 0 none) 4)=some (int i64 x)/\CallsV Tryz.prog 57 #[int i64 x,int
 i64 0,int i64 15] w' fun v w'=>∃ x,v=bool x/\K (bool x) w' else K (bool false) w' else K (bool false) w' else K (bool false) w' else ∃ (J:Bool->World->Prop),(∀ x_30 w,J x_30
 w->bif x_30 then ∃ x,cell? w (add (mk g_2 0 none) 0)=some (int i64 x)/\∃ x_31,cell? w (add (mk g_2 0 none) 1)=some (int i64 x_31)/\∃ x_32,cell? w (add (mk g_2 0
 none) 2)=some (int i64 x_32)/\∃ x_33 x_34 x_35,cell? w (add (mk g_2 0 none) 3)=some (slice x_33 x_34 x_35)/\∃ x_36 x_37 x_38,cell? w (add (mk g_2 0 none) 4) =
 some (slice x_36 x_37 x_38)/\∃ x_39 x_40 x_41,cell? w (add (mk g_2 0 none) 5)=some (slice x_39 x_40 x_41)/\∃ x_42 x_43 x_44,cell? w (add (mk g_2 0 none) 6) =
 some (slice x_42 x_43 x_44)/\∃ x_45 x_46 x_47,cell? w (add (mk g_2 0 none) 7)=some (slice x_45 x_46 x_47)/\∃ x_48 x_49 x_50,cell? w (add (mk g_2 0 none) 8) =
 some (slice x_48 x_49 x_50)/\∃ x_51,cell? w (add (mk g_2 0 none) 9)=some (int i64 x_51)/\∃ x_52,cell? w (add (mk g_1 0 none) 1)=some (int i64 x_52)/\CallsV
 Tryz.prog 112 #[agg #[int i64 x,int i64 x_31,int i64 x_32,slice x_33 x_34 x_35,slice x_36 x_37 x_38,slice x_39 x_40 x_41,slice x_42 x_43 x_44,slice x_45 x_46 x_47,slice x_48 x_49 x_50,int i64
 x_51],int i64 x_52] w fun v w'=>∃ x,v=bool x/\bif x then ∃ x,cell? w' (add (mk g_2 0 none) 0)=some (int i64 x)/\∃ x_53,cell? w' (add (mk g_2 0 none) 1)=some
 (int i64 x_53)/\∃ x_54,cell? w' (add (mk g_2 0 none) 2)=some (int i64 x_54)/\∃ x_55 x_56 x_57,cell? w' (add (mk g_2 0 none) 3)=some (slice x_55 x_56 x_57)/\∃ x_58
 x_59 x_60,cell? w' (add (mk g_2 0 none) 4)=some (slice x_58 x_59 x_60)/\∃ x_61 x_62 x_63,cell? w' (add (mk g_2 0 none) 5)=some (slice x_61 x_62 x_63)/\∃ x_64 x_65
 x_66,cell? w' (add (mk g_2 0 none) 6)=some (slice x_64 x_65 x_66)/\∃ x_67 x_68 x_69,cell? w' (add (mk g_2 0 none) 7)=some (slice x_67 x_68 x_69)/\∃ x_70 x_71 x_72,
 cell? w' (add (mk g_2 0 none) 8)=some (slice x_70 x_71 x_72)/\∃ x_73,cell? w' (add (mk g_2 0 none) 9)=some (int i64 x_73)/\∃ x_74,cell? w' (add (mk g_1 0
 none) 2)=some (int i64 x_74)/\CallsV Tryz.prog 112 #[agg #[int i64 x,int i64 x_53,int i64 x_54,slice x_55 x_56 x_57,slice x_58 x_59 x_60,slice x_61 x_62 x_63,slice x_64 x_65
 x_66,slice x_67 x_68 x_69,slice x_70 x_71 x_72,int i64 x_73],int i64 x_74] w' fun v w'=>∃ x,v=bool x/\bif x then ∃ ad,some (mk g_3 0 none)=some ad/\((0: Int)<=2/\2
 < (↑4:Int))/\∃ x,cell? w' (add ad (Int.toNat (2: Int)*1))=some (bool x)/\bif x then ∃ x,cell? w' (add (mk g_1 0 none) 4)=some (int i64 x)/\CallsV Tryz.prog 57 #[int
 i64 x,int i64 0,int i64 2] w' fun v w'=>∃ x,v=bool x/\K (bool x) w' else K (bool false) w' else K (bool false) w' else K (bool false) w' else bif decide (x=8) then ∃
 x,cell? w (add (mk g_1 0 none) 4)=some (int i64 x)/\CallsV Tryz.prog 19 #[int i64 x] w fun v w'=>∃ (x:ByteArray) (x_31:Bool),v=tuple #[string x,bool x_31]/\∃ x_32,cell? w'
 (add (mk g_2 0 none) 0)=some (int i64 x_32)/\∃ x_33,cell? w' (add (mk g_2 0 none) 1)=some (int i64 x_33)/\∃ x_34,cell? w' (add (mk g_2 0 none) 2) =
 some (int i64 x_34)/\∃ x_35 x_36 x_37,cell? w' (add (mk g_2 0 none) 3)=some (slice x_35 x_36 x_37)/\∃ x_38 x_39 x_40,cell? w' (add (mk g_2 0 none) 4)=some
 (slice x_38 x_39 x_40)/\∃ x_41 x_42 x_43,cell? w' (add (mk g_2 0 none) 5)=some (slice x_41 x_42 x_43)/\∃ x_44 x_45 x_46,cell? w' (add (mk g_2 0 none) 6)=some (slice
 x_44 x_45 x_46)/\∃ x_47 x_48 x_49,cell? w' (add (mk g_2 0 none) 7)=some (slice x_47 x_48 x_49)/\∃ x_50 x_51 x_52,cell? w' (add (mk g_2 0 none) 8)=some (slice x_50
 x_51 x_52)/\∃ x_53,cell? w' (add (mk g_2 0 none) 9)=some (int i64 x_53)/\∃ x_54,cell? w' (add (mk g_1 0 none) 1)=some (int i64 x_54)/\CallsV Tryz.prog 112 #[agg
 #[int i64 x_32,int i64 x_33,int i64 x_34,slice x_35 x_36 x_37,slice x_38 x_39 x_40,slice x_41 x_42 x_43,slice x_44 x_45 x_46,slice x_47 x_48 x_49,slice x_50 x_51 x_52,int i64 x_53],int i64
 x_54] w' fun v w'=>∃ x_55,v=bool x_55/\bif x_55 then ∃ x_56,cell? w' (add (mk g_1 0 none) 3)=some (int i64 x_56)/\CallsV Tryz.prog 57 #[int i64 x_56,int i64 1,int i64 101] w'
 fun v w'=>∃ x_57,v=bool x_57/\bif x_57 then ∃ x_58,cell? w' (add (mk g_2 0 none) 0)=some (int i64 x_58)/\∃ x_59,cell? w' (add (mk g_2 0 none) 1)=some (int i64
 x_59)/\∃ x_60,cell? w' (add (mk g_2 0 none) 2)=some (int i64 x_60)/\∃ x_61 x_62 x_63,cell? w' (add (mk g_2 0 none) 3)=some (slice x_61 x_62 x_63)/\∃ x_64 x_65 x_66,
 cell? w' (add (mk g_2 0 none) 4)=some (slice x_64 x_65 x_66)/\∃ x_67 x_68 x_69,cell? w' (add (mk g_2 0 none) 5)=some (slice x_67 x_68 x_69)/\∃ x_70 x_71 x_72,cell?
 w' (add (mk g_2 0 none) 6)=some (slice x_70 x_71 x_72)/\∃ x_73 x_74 x_75,cell? w' (add (mk g_2 0 none) 7)=some (slice x_73 x_74 x_75)/\∃ x_76 x_77 x_78,cell? w' (add
 (mk g_2 0 none) 8)=some (slice x_76 x_77 x_78)/\∃ x_79,cell? w' (add (mk g_2 0 none) 9)=some (int i64 x_79)/\∃ x_80,cell? w' (add (mk g_1 0 none) 2) =
 some (int i64 x_80)/\∃ x_81,cell? w' (add (mk g_1 0 none) 3)=some (int i64 x_81)/\CallsV Tryz.prog 114 #[agg #[int i64 x_58,int i64 x_59,int i64 x_60,slice x_61 x_62 x_63,
 slice x_64 x_65 x_66,slice x_67 x_68 x_69,slice x_70 x_71 x_72,slice x_73 x_74 x_75,slice x_76 x_77 x_78,int i64 x_79],int i64 x_80,int i64 x_81] w' fun v w'=>∃ x_82,v=bool x_82/\bif x_82
 then bif x_31 then ∃ x_83,cell? w' (add (mk g_1 0 none) 3)=some (int i64 x_83)/\CallsV Tryz.prog 115 #[string x,int i64 x_83] w' fun v w'=>∃ x,v=bool x/\K (bool x) w' else K
 (bool false) w' else K (bool false) w' else K (bool false) w' else K (bool false) w' else bif decide (x=9) then ∃ x,cell? w (add (mk g_2 0 none) 0)=some
 (int i64 x)/\∃ x_31,cell? w (add (mk g_2 0 none) 1)=some (int i64 x_31)/\∃ x_32,cell? w (add (mk g_2 0 none) 2)=some (int i64 x_32)/\∃ x_33 x_34 x_35,cell? w (add
 (mk g_2 0 none) 3)=some (slice x_33 x_34 x_35)/\∃ x_36 x_37 x_38,cell? w (add (mk g_2 0 none) 4)=some (slice x_36 x_37 x_38)/\∃ x_39 x_40 x_41,cell? w (add (mk g_2 0
 none) 5)=some (slice x_39 x_40 x_41)/\∃ x_42 x_43 x_44,cell? w (add (mk g_2 0 none) 6)=some (slice x_42 x_43 x_44)/\∃ x_45 x_46 x_47,cell? w (add (mk g_2 0
 none) 7)=some (slice x_45 x_46 x_47)/\∃ x_48 x_49 x_50,cell? w (add (mk g_2 0 none) 8)=some (slice x_48 x_49 x_50)/\∃ x_51,cell? w (add (mk g_2 0 none) 9) =
 some (int i64 x_51)/\∃ x_52,cell? w (add (mk g_1 0 none) 1)=some (int i64 x_52)/\CallsV Tryz.prog 112 #[agg #[int i64 x,int i64 x_31,int i64 x_32,slice x_33 x_34 x_35,
 slice x_36 x_37 x_38,slice x_39 x_40 x_41,slice x_42 x_43 x_44,slice x_45 x_46 x_47,slice x_48 x_49 x_50,int i64 x_51],int i64 x_52] w fun v w'=>∃ x,v=bool x/\bif x then ∃ ad,some
 (mk g_3 0 none)=some ad/\((0: Int)<=1/\1<(↑4:Int))/\∃ x,cell? w' (add ad (Int.toNat (1: Int)*1))=some (bool x)/\bif x then ∃ ad,some (mk g_3 0 none)
 = some ad/\((0: Int)<=2/\2<(↑4:Int))/\∃ x,cell? w' (add ad (Int.toNat (2: Int)*1))=some (bool x)/\bif x then ∃ x,cell? w' (add (mk g_1 0 none) 4)=some (int
 i64 x)/\CallsV Tryz.prog 57 #[int i64 x,int i64 0,int i64 2] w' fun v w'=>∃ x,v=bool x/\K (bool x) w' else K (bool false) w' else K (bool false) w' else K (bool false) w' else
 bif decide (x=10) then ∃ x,cell? w (add (mk g_2 0 none) 0)=some (int i64 x)/\∃ x_31,cell? w (add (mk g_2 0 none) 1)=some (int i64 x_31)/\∃ x_32,cell? w
 (add (mk g_2 0 none) 2)=some (int i64 x_32)/\∃ x_33 x_34 x_35,cell? w (add (mk g_2 0 none) 3)=some (slice x_33 x_34 x_35)/\∃ x_36 x_37 x_38,cell? w (add (mk g_2 0
 none) 4)=some (slice x_36 x_37 x_38)/\∃ x_39 x_40 x_41,cell? w (add (mk g_2 0 none) 5)=some (slice x_39 x_40 x_41)/\∃ x_42 x_43 x_44,cell? w (add (mk g_2 0
 none) 6)=some (slice x_42 x_43 x_44)/\∃ x_45 x_46 x_47,cell? w (add (mk g_2 0 none) 7)=some (slice x_45 x_46 x_47)/\∃ x_48 x_49 x_50,cell? w (add (mk g_2 0
 none) 8)=some (slice x_48 x_49 x_50)/\∃ x_51,cell? w (add (mk g_2 0 none) 9)=some (int i64 x_51)/\∃ x_52,cell? w (add (mk g_1 0 none) 1)=some (int
 i64 x_52)/\CallsV Tryz.prog 116 #[agg #[int i64 x,int i64 x_31,int i64 x_32,slice x_33 x_34 x_35,slice x_36 x_37 x_38,slice x_39 x_40 x_41,slice x_42 x_43 x_44,slice x_45 x_46 x_47,slice x_48
 x_49 x_50,int i64 x_51],int i64 x_52] w fun v w'=>∃ x,v=bool x/\bif x then ∃ ad,some (mk g_3 0 none)=some ad/\((0: Int)<=1/\1<(↑4:Int))/\∃ x,cell? w' (add ad
 (Int.toNat (1: Int)*1))=some (bool x)/\bif x then ∃ ad,some (mk g_3 0 none)=some ad/\((0: Int)<=2/\2<(↑4:Int))/\∃ x,cell? w' (add ad (Int.toNat (2: Int) *
 1))=some (bool x)/\bif x then ∃ ad,some (mk g_3 0 none)=some ad/\((0: Int)<=3/\3<(↑4:Int))/\∃ x,cell? w' (add ad (Int.toNat (3: Int)*1))=some (bool
 x)/\K (bool x) w' else K (bool false) w' else K (bool false) w' else K (bool false) w' else bif decide (x=11) then ∃ x,cell? w (add (mk g_2 0 none) 0)=some
 (int i64 x)/\∃ x_31,cell? w (add (mk g_2 0 none) 1)=some (int i64 x_31)/\∃ x_32,cell? w (add (mk g_2 0 none) 2)=some (int i64 x_32)/\∃ x_33 x_34 x_35,cell? w (add
 (mk g_2 0 none) 3)=some (slice x_33 x_34 x_35)/\∃ x_36 x_37 x_38,cell? w (add (mk g_2 0 none) 4)=some (slice x_36 x_37 x_38)/\∃ x_39 x_40 x_41,cell? w (add (mk g_2 0
 none) 5)=some (slice x_39 x_40 x_41)/\∃ x_42 x_43 x_44,cell? w (add (mk g_2 0 none) 6)=some (slice x_42 x_43 x_44)/\∃ x_45 x_46 x_47,cell? w (add (mk g_2 0
 none) 7)=some (slice x_45 x_46 x_47)/\∃ x_48 x_49 x_50,cell? w (add (mk g_2 0 none) 8)=some (slice x_48 x_49 x_50)/\∃ x_51,cell? w (add (mk g_2 0 none) 9) =
 some (int i64 x_51)/\∃ x_52,cell? w (add (mk g_1 0 none) 1)=some (int i64 x_52)/\CallsV Tryz.prog 116 #[agg #[int i64 x,int i64 x_31,int i64 x_32,slice x_33 x_34 x_35,
 slice x_36 x_37 x_38,slice x_39 x_40 x_41,slice x_42 x_43 x_44,slice x_45 x_46 x_47,slice x_48 x_49 x_50,int i64 x_51],int i64 x_52] w fun v w'=>∃ x,v=bool x/\bif x then ∃ x,cell? w' (add
 (mk g_2 0 none) 0)=some (int i64 x)/\∃ x_53,cell? w' (add (mk g_2 0 none) 1)=some (int i64 x_53)/\∃ x_54,cell? w' (add (mk g_2 0 none) 2)=some (int
 i64 x_54)/\∃ x_55 x_56 x_57,cell? w' (add (mk g_2 0 none) 3)=some (slice x_55 x_56 x_57)/\∃ x_58 x_59 x_60,cell? w' (add (mk g_2 0 none) 4)=some (slice x_58 x_59
 x_60)/\∃ x_61 x_62 x_63,cell? w' (add (mk g_2 0 none) 5)=some (slice x_61 x_62 x_63)/\∃ x_64 x_65 x_66,cell? w' (add (mk g_2 0 none) 6)=some (slice x_64 x_65 x_66) /\
 ∃ x_67 x_68 x_69,cell? w' (add (mk g_2 0 none) 7)=some (slice x_67 x_68 x_69)/\∃ x_70 x_71 x_72,cell? w' (add (mk g_2 0 none) 8)=some (slice x_70 x_71 x_72)/\∃ x_73,
 cell? w' (add (mk g_2 0 none) 9)=some (int i64 x_73)/\∃ x_74,cell? w' (add (mk g_1 0 none) 2)=some (int i64 x_74)/\CallsV Tryz.prog 112 #[agg #[int i64 x,int i64
 x_53,int i64 x_54,slice x_55 x_56 x_57,slice x_58 x_59 x_60,slice x_61 x_62 x_63,slice x_64 x_65 x_66,slice x_67 x_68 x_69,slice x_70 x_71 x_72,int i64 x_73],int i64 x_74] w' fun v w'=>∃ x,
 v=bool x/\bif x then ∃ ad,some (mk g_3 0 none)=some ad/\((0: Int)<=2/\2<(↑4:Int))/\∃ x,cell? w' (add ad (Int.toNat (2: Int)*1))=some (bool x)/\bif x then
 ∃ ad,some (mk g_3 0 none)=some ad/\((0: Int)<=3/\3<(↑4:Int))/\∃ x,cell? w' (add ad (Int.toNat (3: Int)*1))=some (bool x)/\K (bool x) w' else K (bool
 false) w' else K (bool false) w' else K (bool false) w' else bif decide (x=12) then ∃ x,cell? w (add (mk g_2 0 none) 0)=some (int i64 x)/\∃ x_31,cell? w
 (add (mk g_2 0 none) 1)=some (int i64 x_31)/\∃ x_32,cell? w (add (mk g_2 0 none) 2)=some (int i64 x_32)/\∃ x_33 x_34 x_35,cell? w (add (mk g_2 0 none) 3) =
 some (slice x_33 x_34 x_35)/\∃ x_36 x_37 x_38,cell? w (add (mk g_2 0 none) 4)=some (slice x_36 x_37 x_38)/\∃ x_39 x_40 x_41,cell? w (add (mk g_2 0 none) 5) =
 some (slice x_39 x_40 x_41)/\∃ x_42 x_43 x_44,cell? w (add (mk g_2 0 none) 6)=some (slice x_42 x_43 x_44)/\∃ x_45 x_46 x_47,cell? w (add (mk g_2 0 none) 7) =
 some (slice x_45 x_46 x_47)/\∃ x_48 x_49 x_50,cell? w (add (mk g_2 0 none) 8)=some (slice x_48 x_49 x_50)/\∃ x_51,cell? w (add (mk g_2 0 none) 9)=some (int
 i64 x_51)/\∃ x_52,cell? w (add (mk g_1 0 none) 1)=some (int i64 x_52)/\CallsV Tryz.prog 116 #[agg #[int i64 x,int i64 x_31,int i64 x_32,slice x_33 x_34 x_35,slice x_36 x_37 x_38,
 slice x_39 x_40 x_41,slice x_42 x_43 x_44,slice x_45 x_46 x_47,slice x_48 x_49 x_50,int i64 x_51],int i64 x_52] w fun v w'=>∃ x,v=bool x/\bif x then ∃ x,cell? w' (add (mk g_1 0 none)
 4)=some (int i64 x)/\bif decide (1<=x) then ∃ x,cell? w' (add (mk g_2 0 none) 0)=some (int i64 x)/\∃ x_53,cell? w' (add (mk g_2 0 none) 1)=some
 (int i64 x_53)/\∃ x_54,cell? w' (add (mk g_2 0 none) 2)=some (int i64 x_54)/\∃ x_55 x_56 x_57,cell? w' (add (mk g_2 0 none) 3)=some (slice x_55 x_56 x_57)/\∃ x_58
 x_59 x_60,cell? w' (add (mk g_2 0 none) 4)=some (slice x_58 x_59 x_60)/\∃ x_61 x_62 x_63,cell? w' (add (mk g_2 0 none) 5)=some (slice x_61 x_62 x_63)/\∃ x_64 x_65
 x_66,cell? w' (add (mk g_2 0 none) 6)=some (slice x_64 x_65 x_66)/\∃ x_67 x_68 x_69,cell? w' (add (mk g_2 0 none) 7)=some (slice x_67 x_68 x_69)/\∃ x_70 x_71 x_72,
 cell? w' (add (mk g_2 0 none) 8)=some (slice x_70 x_71 x_72)/\∃ x_73,cell? w' (add (mk g_2 0 none) 9)=some (int i64 x_73)/\∃ x_74,cell? w' (add (mk g_1 0
 none) 2)=some (int i64 x_74)/\∃ x_75,cell? w' (add (mk g_1 0 none) 4)=some (int i64 x_75)/\CallsV Tryz.prog 114 #[agg #[int i64 x,int i64 x_53,int i64 x_54,slice
 x_55 x_56 x_57,slice x_58 x_59 x_60,slice x_61 x_62 x_63,slice x_64 x_65 x_66,slice x_67 x_68 x_69,slice x_70 x_71 x_72,int i64 x_73],int i64 x_74,int i64 x_75] w' fun v w'=>∃ x,v=bool x /\
 bif x then ∃ x,cell? w' (add (mk g_2 0 none) 0)=some (int i64 x)/\∃ x_76,cell? w' (add (mk g_2 0 none) 1)=some (int i64 x_76)/\∃ x_77,cell? w' (add (mk g_2 0
 none) 2)=some (int i64 x_77)/\∃ x_78 x_79 x_80,cell? w' (add (mk g_2 0 none) 3)=some (slice x_78 x_79 x_80)/\∃ x_81 x_82 x_83,cell? w' (add (mk g_2 0 none) 4)
 = some (slice x_81 x_82 x_83)/\∃ x_84 x_85 x_86,cell? w' (add (mk g_2 0 none) 5)=some (slice x_84 x_85 x_86)/\∃ x_87 x_88 x_89,cell? w' (add (mk g_2 0 none) 6) =
 some (slice x_87 x_88 x_89)/\∃ x_90 x_91 x_92,cell? w' (add (mk g_2 0 none) 7)=some (slice x_90 x_91 x_92)/\∃ x_93 x_94 x_95,cell? w' (add (mk g_2 0 none) 8) =
 some (slice x_93 x_94 x_95)/\∃ x_96,cell? w' (add (mk g_2 0 none) 9)=some (int i64 x_96)/\∃ x_97,cell? w' (add (mk g_1 0 none) 3)=some (int i64 x_97)/\∃
 x_98,cell? w' (add (mk g_1 0 none) 4)=some (int i64 x_98)/\CallsV Tryz.prog 114 #[agg #[int i64 x,int i64 x_76,int i64 x_77,slice x_78 x_79 x_80,slice x_81 x_82 x_83,slice x_84
 x_85 x_86,slice x_87 x_88 x_89,slice x_90 x_91 x_92,slice x_93 x_94 x_95,int i64 x_96],int i64 x_97,int i64 x_98] w' fun v w'=>∃ x,v=bool x/\K (bool x) w' else K (bool false) w' else K
 (bool false) w' else K (bool false) w' else bif decide (x=13) then ∃ x,cell? w (add (mk g_2 0 none) 0)=some (int i64 x)/\∃ x_31,cell? w (add (mk g_2 0
 none) 1)=some (int i64 x_31)/\∃ x_32,cell? w (add (mk g_2 0 none) 2)=some (int i64 x_32)/\∃ x_33 x_34 x_35,cell? w (add (mk g_2 0 none) 3)=some
 (slice x_33 x_34 x_35)/\∃ x_36 x_37 x_38,cell? w (add (mk g_2 0 none) 4)=some (slice x_36 x_37 x_38)/\∃ x_39 x_40 x_41,cell? w (add (mk g_2 0 none) 5)=some (slice
 x_39 x_40 x_41)/\∃ x_42 x_43 x_44,cell? w (add (mk g_2 0 none) 6)=some (slice x_42 x_43 x_44)/\∃ x_45 x_46 x_47,cell? w (add (mk g_2 0 none) 7)=some (slice x_45 x_46
 x_47)/\∃ x_48 x_49 x_50,cell? w (add (mk g_2 0 none) 8)=some (slice x_48 x_49 x_50)/\∃ x_51,cell? w (add (mk g_2 0 none) 9)=some (int i64 x_51)/\∃ x_52,cell? w
 (add (mk g_1 0 none) 1)=some (int i64 x_52)/\CallsV Tryz.prog 117 #[agg #[int i64 x,int i64 x_31,int i64 x_32,slice x_33 x_34 x_35,slice x_36 x_37 x_38,slice x_39 x_40 x_41,slice
 x_42 x_43 x_44,slice x_45 x_46 x_47,slice x_48 x_49 x_50,int i64 x_51],int i64 x_52] w fun v w'=>∃ x,v=bool x/\bif x then ∃ x,cell? w' (add (mk g_2 0 none) 0)=some (int i64
 x)/\∃ x_53,cell? w' (add (mk g_2 0 none) 1)=some (int i64 x_53)/\∃ x_54,cell? w' (add (mk g_2 0 none) 2)=some (int i64 x_54)/\∃ x_55 x_56 x_57,cell? w' (add (mk
 g_2 0 none) 3)=some (slice x_55 x_56 x_57)/\∃ x_58 x_59 x_60,cell? w' (add (mk g_2 0 none) 4)=some (slice x_58 x_59 x_60)/\∃ x_61 x_62 x_63,cell? w' (add (mk g_2 0
 none) 5)=some (slice x_61 x_62 x_63)/\∃ x_64 x_65 x_66,cell? w' (add (mk g_2 0 none) 6)=some (slice x_64 x_65 x_66)/\∃ x_67 x_68 x_69,cell? w' (add (mk g_2 0
 none) 7)=some (slice x_67 x_68 x_69)/\∃ x_70 x_71 x_72,cell? w' (add (mk g_2 0 none) 8)=some (slice x_70 x_71 x_72)/\∃ x_73,cell? w' (add (mk g_2 0 none) 9) =
 some (int i64 x_73)/\∃ x_74,cell? w' (add (mk g_1 0 none) 2)=some (int i64 x_74)/\CallsV Tryz.prog 116 #[agg #[int i64 x,int i64 x_53,int i64 x_54,slice x_55 x_56 x_57,
 slice x_58 x_59 x_60,slice x_61 x_62 x_63,slice x_64 x_65 x_66,slice x_67 x_68 x_69,slice x_70 x_71 x_72,int i64 x_73],int i64 x_74] w' fun v w'=>∃ x,v=bool x/\bif x then ∃ ad,some
 (mk g_3 0 none)=some ad/\((0: Int)<=2/\2<(↑4:Int))/\∃ x,cell? w' (add ad (Int.toNat (2: Int)*1))=some (bool x)/\bif x then ∃ ad,some (mk g_3 0 none)
 = some ad/\((0: Int)<=3/\3<(↑4:Int))/\∃ x,cell? w' (add ad (Int.toNat (3: Int)*1))=some (bool x)/\K (bool x) w' else K (bool false) w' else K (bool false) w' else
 K (bool false) w' else ∃ (J:Bool->World->Prop),(∀ x_31 w,J x_31 w->bif x_31 then ∃ x,cell? w (add (mk g_2 0 none) 0)=some (int i64 x)/\∃ x_32,cell? w (add (mk g_2 0
 none) 1)=some (int i64 x_32)/\∃ x_33,cell? w (add (mk g_2 0 none) 2)=some (int i64 x_33)/\∃ x_34 x_35 x_36,cell? w (add (mk g_2 0 none) 3)=some
 (slice x_34 x_35 x_36)/\∃ x_37 x_38 x_39,cell? w (add (mk g_2 0 none) 4)=some (slice x_37 x_38 x_39)/\∃ x_40 x_41 x_42,cell? w (add (mk g_2 0 none) 5)=some (slice
 x_40 x_41 x_42)/\∃ x_43 x_44 x_45,cell? w (add (mk g_2 0 none) 6)=some (slice x_43 x_44 x_45)/\∃ x_46 x_47 x_48,cell? w (add (mk g_2 0 none) 7)=some (slice x_46 x_47
 x_48)/\∃ x_49 x_50 x_51,cell? w (add (mk g_2 0 none) 8)=some (slice x_49 x_50 x_51)/\∃ x_52,cell? w (add (mk g_2 0 none) 9)=some (int i64 x_52)/\∃ x_53,cell? w
 (add (mk g_1 0 none) 1)=some (int i64 x_53)/\CallsV Tryz.prog 118 #[agg #[int i64 x,int i64 x_32,int i64 x_33,slice x_34 x_35 x_36,slice x_37 x_38 x_39,slice x_40 x_41 x_42,slice
 x_43 x_44 x_45,slice x_46 x_47 x_48,slice x_49 x_50 x_51,int i64 x_52],int i64 x_53] w fun v w'=>∃ x,v=bool x/\bif x then ∃ x,cell? w' (add (mk g_2 0 none) 0)=some (int i64
 x)/\∃ x_54,cell? w' (add (mk g_2 0 none) 1)=some (int i64 x_54)/\∃ x_55,cell? w' (add (mk g_2 0 none) 2)=some (int i64 x_55)/\∃ x_56 x_57 x_58,cell? w' (add (mk
 g_2 0 none) 3)=some (slice x_56 x_57 x_58)/\∃ x_59 x_60 x_61,cell? w' (add (mk g_2 0 none) 4)=some (slice x_59 x_60 x_61)/\∃ x_62 x_63 x_64,cell? w' (add (mk g_2 0
 none) 5)=some (slice x_62 x_63 x_64)/\∃ x_65 x_66 x_67,cell? w' (add (mk g_2 0 none) 6)=some (slice x_65 x_66 x_67)/\∃ x_68 x_69 x_70,cell? w' (add (mk g_2 0
 none) 7)=some (slice x_68 x_69 x_70)/\∃ x_71 x_72 x_73,cell? w' (add (mk g_2 0 none) 8)=some (slice x_71 x_72 x_73)/\∃ x_74,cell? w' (add (mk g_2 0 none) 9) =
 some (int i64 x_74)/\∃ x_75,cell? w' (add (mk g_1 0 none) 2)=some (int i64 x_75)/\CallsV Tryz.prog 116 #[agg #[int i64 x,int i64 x_54,int i64 x_55,slice x_56 x_57 x_58,
 slice x_59 x_60 x_61,slice x_62 x_63 x_64,slice x_65 x_66 x_67,slice x_68 x_69 x_70,slice x_71 x_72 x_73,int i64 x_74],int i64 x_75] w' fun v w'=>∃ x,v=bool x/\bif x then ∃ x,cell? w' (add
 (mk g_1 0 none) 4)=some (int i64 x)/\bif decide (1<=x) then ∃ x,cell? w' (add (mk g_2 0 none) 0)=some (int i64 x)/\∃ x_76,cell? w' (add (mk g_2 0
 none) 1)=some (int i64 x_76)/\∃ x_77,cell? w' (add (mk g_2 0 none) 2)=some (int i64 x_77)/\∃ x_78 x_79 x_80,cell? w' (add (mk g_2 0 none) 3)=some
 (slice x_78 x_79 x_80)/\∃ x_81 x_82 x_83,cell? w' (add (mk g_2 0 none) 4)=some (slice x_81 x_82 x_83)/\∃ x_84 x_85 x_86,cell? w' (add (mk g_2 0 none) 5)=some (slice
 x_84 x_85 x_86)/\∃ x_87 x_88 x_89,cell? w' (add (mk g_2 0 none) 6)=some (slice x_87 x_88 x_89)/\∃ x_90 x_91 x_92,cell? w' (add (mk g_2 0 none) 7)=some (slice x_90
 x_91 x_92)/\∃ x_93 x_94 x_95,cell? w' (add (mk g_2 0 none) 8)=some (slice x_93 x_94 x_95)/\∃ x_96,cell? w' (add (mk g_2 0 none) 9)=some (int i64 x_96)/\∃ x_97,
 cell? w' (add (mk g_1 0 none) 3)=some (int i64 x_97)/\∃ x_98,cell? w' (add (mk g_1 0 none) 4)=some (int i64 x_98)/\CallsV Tryz.prog 114 #[agg #[int i64 x,int i64
 x_76,int i64 x_77,slice x_78 x_79 x_80,slice x_81 x_82 x_83,slice x_84 x_85 x_86,slice x_87 x_88 x_89,slice x_90 x_91 x_92,slice x_93 x_94 x_95,int i64 x_96],int i64 x_97,int i64 x_98] w' fun
 v w'=>∃ x,v=bool x/\K (bool x) w' else K (bool false) w' else K (bool false) w' else K (bool false) w' else bif decide (x=15) then ∃ x,cell? w (add (mk g_2 0
 none) 0)=some (int i64 x)/\∃ x_32,cell? w (add (mk g_2 0 none) 1)=some (int i64 x_32)/\∃ x_33,cell? w (add (mk g_2 0 none) 2)=some (int i64 x_33)/\∃
 x_34 x_35 x_36,cell? w (add (mk g_2 0 none) 3)=some (slice x_34 x_35 x_36)/\∃ x_37 x_38 x_39,cell? w (add (mk g_2 0 none) 4)=some (slice x_37 x_38 x_39)/\∃ x_40 x_41
 x_42,cell? w (add (mk g_2 0 none) 5)=some (slice x_40 x_41 x_42)/\∃ x_43 x_44 x_45,cell? w (add (mk g_2 0 none) 6)=some (slice x_43 x_44 x_45)/\∃ x_46 x_47 x_48,
 cell? w (add (mk g_2 0 none) 7)=some (slice x_46 x_47 x_48)/\∃ x_49 x_50 x_51,cell? w (add (mk g_2 0 none) 8)=some (slice x_49 x_50 x_51)/\∃ x_52,cell? w (add (mk
 g_2 0 none) 9)=some (int i64 x_52)/\∃ x_53,cell? w (add (mk g_1 0 none) 1)=some (int i64 x_53)/\CallsV Tryz.prog 117 #[agg #[int i64 x,int i64 x_32,int i64 x_33,
 slice x_34 x_35 x_36,slice x_37 x_38 x_39,slice x_40 x_41 x_42,slice x_43 x_44 x_45,slice x_46 x_47 x_48,slice x_49 x_50 x_51,int i64 x_52],int i64 x_53] w fun v w'=>∃ x,v=bool x/\bif x
 then ∃ x,cell? w' (add (mk g_2 0 none) 0)=some (int i64 x)/\∃ x_54,cell? w' (add (mk g_2 0 none) 1)=some (int i64 x_54)/\∃ x_55,cell? w' (add (mk g_2 0 none)
 2)=some (int i64 x_55)/\∃ x_56 x_57 x_58,cell? w' (add (mk g_2 0 none) 3)=some (slice x_56 x_57 x_58)/\∃ x_59 x_60 x_61,cell? w' (add (mk g_2 0 none) 4) =
 some (slice x_59 x_60 x_61)/\∃ x_62 x_63 x_64,cell? w' (add (mk g_2 0 none) 5)=some (slice x_62 x_63 x_64)/\∃ x_65 x_66 x_67,cell? w' (add (mk g_2 0 none) 6) =
 some (slice x_65 x_66 x_67)/\∃ x_68 x_69 x_70,cell? w' (add (mk g_2 0 none) 7)=some (slice x_68 x_69 x_70)/\∃ x_71 x_72 x_73,cell? w' (add (mk g_2 0 none) 8) =
 some (slice x_71 x_72 x_73)/\∃ x_74,cell? w' (add (mk g_2 0 none) 9)=some (int i64 x_74)/\∃ x_75,cell? w' (add (mk g_1 0 none) 2)=some (int i64 x_75)/\CallsV
 Tryz.prog 119 #[agg #[int i64 x,int i64 x_54,int i64 x_55,slice x_56 x_57 x_58,slice x_59 x_60 x_61,slice x_62 x_63 x_64,slice x_65 x_66 x_67,slice x_68 x_69 x_70,slice x_71 x_72 x_73,int i64
 x_74],int i64 x_75] w' fun v w'=>∃ x,v=bool x/\bif x then ∃ ad,some (mk g_3 0 none)=some ad/\((0: Int)<=2/\2<(↑4:Int))/\∃ x,cell? w' (add ad (Int.toNat (2: Int)
 * 1))=some (bool x)/\bif x then ∃ ad,some (mk g_3 0 none)=some ad/\((0: Int)<=3/\3<(↑4:Int))/\∃ x,cell? w' (add ad (Int.toNat (3: Int)*1))=some
 (bool x)/\K (bool x) w' else K (bool false) w' else K (bool false) w' else K (bool false) w' else bif decide (x=17) then ∃ x,cell? w (add (mk g_2 0 none) 0) =
 some (int i64 x)/\∃ x_32,cell? w (add (mk g_2 0 none) 1)=some (int i64 x_32)/\∃ x_33,cell? w (add (mk g_2 0 none) 2)=some (int i64 x_33)/\∃ x_34 x_35 x_36,
 cell? w (add (mk g_2 0 none) 3)=some (slice x_34 x_35 x_36)/\∃ x_37 x_38 x_39,cell? w (add (mk g_2 0 none) 4)=some (slice x_37 x_38 x_39)/\∃ x_40 x_41 x_42,cell? w
 (add (mk g_2 0 none) 5)=some (slice x_40 x_41 x_42)/\∃ x_43 x_44 x_45,cell? w (add (mk g_2 0 none) 6)=some (slice x_43 x_44 x_45)/\∃ x_46 x_47 x_48,cell? w (add (mk
 g_2 0 none) 7)=some (slice x_46 x_47 x_48)/\∃ x_49 x_50 x_51,cell? w (add (mk g_2 0 none) 8)=some (slice x_49 x_50 x_51)/\∃ x_52,cell? w (add (mk g_2 0 none)
 9)=some (int i64 x_52)/\∃ x_53,cell? w (add (mk g_1 0 none) 1)=some (int i64 x_53)/\CallsV Tryz.prog 120 #[agg #[int i64 x,int i64 x_32,int i64 x_33,slice x_34 x_35 x_36,
 slice x_37 x_38 x_39,slice x_40 x_41 x_42,slice x_43 x_44 x_45,slice x_46 x_47 x_48,slice x_49 x_50 x_51,int i64 x_52],int i64 x_53] w fun v w'=>∃ x,v=bool x/\bif x then ∃ x,cell? w' (add
 (mk g_2 0 none) 0)=some (int i64 x)/\∃ x_54,cell? w' (add (mk g_2 0 none) 1)=some (int i64 x_54)/\∃ x_55,cell? w' (add (mk g_2 0 none) 2)=some (int
 i64 x_55)/\∃ x_56 x_57 x_58,cell? w' (add (mk g_2 0 none) 3)=some (slice x_56 x_57 x_58)/\∃ x_59 x_60 x_61,cell? w' (add (mk g_2 0 none) 4)=some (slice x_59 x_60
 x_61)/\∃ x_62 x_63 x_64,cell? w' (add (mk g_2 0 none) 5)=some (slice x_62 x_63 x_64)/\∃ x_65 x_66 x_67,cell? w' (add (mk g_2 0 none) 6)=some (slice x_65 x_66 x_67) /\
 ∃ x_68 x_69 x_70,cell? w' (add (mk g_2 0 none) 7)=some (slice x_68 x_69 x_70)/\∃ x_71 x_72 x_73,cell? w' (add (mk g_2 0 none) 8)=some (slice x_71 x_72 x_73)/\∃ x_74,
 cell? w' (add (mk g_2 0 none) 9)=some (int i64 x_74)/\∃ x_75,cell? w' (add (mk g_1 0 none) 2)=some (int i64 x_75)/\CallsV Tryz.prog 116 #[agg #[int i64 x,int i64
 x_54,int i64 x_55,slice x_56 x_57 x_58,slice x_59 x_60 x_61,slice x_62 x_63 x_64,slice x_65 x_66 x_67,slice x_68 x_69 x_70,slice x_71 x_72 x_73,int i64 x_74],int i64 x_75] w' fun v w'=>∃ x,
 v=bool x/\bif x then ∃ x,cell? w' (add (mk g_2 0 none) 0)=some (int i64 x)/\∃ x_76,cell? w' (add (mk g_2 0 none) 1)=some (int i64 x_76)/\∃ x_77,cell? w' (add (mk
 g_2 0 none) 2)=some (int i64 x_77)/\∃ x_78 x_79 x_80,cell? w' (add (mk g_2 0 none) 3)=some (slice x_78 x_79 x_80)/\∃ x_81 x_82 x_83,cell? w' (add (mk g_2 0
 none) 4)=some (slice x_81 x_82 x_83)/\∃ x_84 x_85 x_86,cell? w' (add (mk g_2 0 none) 5)=some (slice x_84 x_85 x_86)/\∃ x_87 x_88 x_89,cell? w' (add (mk g_2 0
 none) 6)=some (slice x_87 x_88 x_89)/\∃ x_90 x_91 x_92,cell? w' (add (mk g_2 0 none) 7)=some (slice x_90 x_91 x_92)/\∃ x_93 x_94 x_95,cell? w' (add (mk g_2 0
 none) 8)=some (slice x_93 x_94 x_95)/\∃ x_96,cell? w' (add (mk g_2 0 none) 9)=some (int i64 x_96)/\∃ x_97,cell? w' (add (mk g_1 0 none) 3)=some (int
 i64 x_97)/\CallsV Tryz.prog 112 #[agg #[int i64 x,int i64 x_76,int i64 x_77,slice x_78 x_79 x_80,slice x_81 x_82 x_83,slice x_84 x_85 x_86,slice x_87 x_88 x_89,slice x_90 x_91 x_92,slice x_93
 x_94 x_95,int i64 x_96],int i64 x_97] w' fun v w'=>∃ x,v=bool x/\bif x then ∃ ad,some (mk g_3 0 none)=some ad/\((0: Int)<=3/\3<(↑4:Int))/\∃ x,cell? w' (add ad
 (Int.toNat (3: Int)*1))=some (bool x)/\K (bool x) w' else K (bool false) w' else K (bool false) w' else K (bool false) w' else bif decide (x=18) then ∃ x,cell? w
 (add (mk g_2 0 none) 0)=some (int i64 x)/\∃ x_32,cell? w (add (mk g_2 0 none) 1)=some (int i64 x_32)/\∃ x_33,cell? w (add (mk g_2 0 none) 2)=some
 (int i64 x_33)/\∃ x_34 x_35 x_36,cell? w (add (mk g_2 0 none) 3)=some (slice x_34 x_35 x_36)/\∃ x_37 x_38 x_39,cell? w (add (mk g_2 0 none) 4)=some (slice x_37 x_38
 x_39)/\∃ x_40 x_41 x_42,cell? w (add (mk g_2 0 none) 5)=some (slice x_40 x_41 x_42)/\∃ x_43 x_44 x_45,cell? w (add (mk g_2 0 none) 6)=some (slice x_43 x_44 x_45)/\∃
 x_46 x_47 x_48,cell? w (add (mk g_2 0 none) 7)=some (slice x_46 x_47 x_48)/\∃ x_49 x_50 x_51,cell? w (add (mk g_2 0 none) 8)=some (slice x_49 x_50 x_51)/\∃ x_52,
 cell? w (add (mk g_2 0 none) 9)=some (int i64 x_52)/\∃ x_53,cell? w (add (mk g_1 0 none) 1)=some (int i64 x_53)/\CallsV Tryz.prog 112 #[agg #[int i64 x,int i64 x_32,
 int i64 x_33,slice x_34 x_35 x_36,slice x_37 x_38 x_39,slice x_40 x_41 x_42,slice x_43 x_44 x_45,slice x_46 x_47 x_48,slice x_49 x_50 x_51,int i64 x_52],int i64 x_53] w fun v w'=>∃ x,v =
 bool x/\bif x then ∃ x,cell? w' (add (mk g_2 0 none) 0)=some (int i64 x)/\∃ x_54,cell? w' (add (mk g_2 0 none) 1)=some (int i64 x_54)/\∃ x_55,cell? w' (add (mk g_2
 0 none) 2)=some (int i64 x_55)/\∃ x_56 x_57 x_58,cell? w' (add (mk g_2 0 none) 3)=some (slice x_56 x_57 x_58)/\∃ x_59 x_60 x_61,cell? w' (add (mk g_2 0 none)
 4)=some (slice x_59 x_60 x_61)/\∃ x_62 x_63 x_64,cell? w' (add (mk g_2 0 none) 5)=some (slice x_62 x_63 x_64)/\∃ x_65 x_66 x_67,cell? w' (add (mk g_2 0 none) 6) =
 some (slice x_65 x_66 x_67)/\∃ x_68 x_69 x_70,cell? w' (add (mk g_2 0 none) 7)=some (slice x_68 x_69 x_70)/\∃ x_71 x_72 x_73,cell? w' (add (mk g_2 0 none) 8) =
 some (slice x_71 x_72 x_73)/\∃ x_74,cell? w' (add (mk g_2 0 none) 9)=some (int i64 x_74)/\∃ x_75,cell? w' (add (mk g_1 0 none) 2)=some (int i64 x_75)/\CallsV
 Tryz.prog 117 #[agg #[int i64 x,int i64 x_54,int i64 x_55,slice x_56 x_57 x_58,slice x_59 x_60 x_61,slice x_62 x_63 x_64,slice x_65 x_66 x_67,slice x_68 x_69 x_70,slice x_71 x_72 x_73,int i64
 x_74],int i64 x_75] w' fun v w'=>∃ x,v=bool x/\bif x then ∃ x,cell? w' (add (mk g_1 0 none) 3)=some (int i64 x)/\CallsV Tryz.prog 57 #[int i64 x,int i64 0,int i64 30] w' fun
 v w'=>∃ x,v=bool x/\bif x then ∃ ad,some (mk g_3 0 none)=some ad/\((0: Int)<=3/\3<(↑4:Int))/\∃ x,cell? w' (add ad (Int.toNat (3: Int)*1))=some (bool x)
 /\ K (bool x) w' else K (bool false) w' else K (bool false) w' else K (bool false) w' else bif decide (x=19) then ∃ x,cell? w (add (mk g_2 0 none) 0)=some
 (int i64 x)/\∃ x_32,cell? w (add (mk g_2 0 none) 1)=some (int i64 x_32)/\∃ x_33,cell? w (add (mk g_2 0 none) 2)=some (int i64 x_33)/\∃ x_34 x_35 x_36,cell? w (add
 (mk g_2 0 none) 3)=some (slice x_34 x_35 x_36)/\∃ x_37 x_38 x_39,cell? w (add (mk g_2 0 none) 4)=some (slice x_37 x_38 x_39)/\∃ x_40 x_41 x_42,cell? w (add (mk g_2 0
 none) 5)=some (slice x_40 x_41 x_42)/\∃ x_43 x_44 x_45,cell? w (add (mk g_2 0 none) 6)=some (slice x_43 x_44 x_45)/\∃ x_46 x_47 x_48,cell? w (add (mk g_2 0
 none) 7)=some (slice x_46 x_47 x_48)/\∃ x_49 x_50 x_51,cell? w (add (mk g_2 0 none) 8)=some (slice x_49 x_50 x_51)/\∃ x_52,cell? w (add (mk g_2 0 none) 9) =
 some (int i64 x_52)/\∃ x_53,cell? w (add (mk g_1 0 none) 1)=some (int i64 x_53)/\CallsV Tryz.prog 112 #[agg #[int i64 x,int i64 x_32,int i64 x_33,slice x_34 x_35 x_36,
 slice x_37 x_38 x_39,slice x_40 x_41 x_42,slice x_43 x_44 x_45,slice x_46 x_47 x_48,slice x_49 x_50 x_51,int i64 x_52],int i64 x_53] w fun v w'=>∃ x,v=bool x/\bif x then ∃ x,cell? w' (add
 (mk g_2 0 none) 0)=some (int i64 x)/\∃ x_54,cell? w' (add (mk g_2 0 none) 1)=some (int i64 x_54)/\∃ x_55,cell? w' (add (mk g_2 0 none) 2)=some (int
 i64 x_55)/\∃ x_56 x_57 x_58,cell? w' (add (mk g_2 0 none) 3)=some (slice x_56 x_57 x_58)/\∃ x_59 x_60 x_61,cell? w' (add (mk g_2 0 none) 4)=some (slice x_59 x_60
 x_61)/\∃ x_62 x_63 x_64,cell? w' (add (mk g_2 0 none) 5)=some (slice x_62 x_63 x_64)/\∃ x_65 x_66 x_67,cell? w' (add (mk g_2 0 none) 6)=some (slice x_65 x_66 x_67) /\
 ∃ x_68 x_69 x_70,cell? w' (add (mk g_2 0 none) 7)=some (slice x_68 x_69 x_70)/\∃ x_71 x_72 x_73,cell? w' (add (mk g_2 0 none) 8)=some (slice x_71 x_72 x_73)/\∃ x_74,
 cell? w' (add (mk g_2 0 none) 9)=some (int i64 x_74)/\∃ x_75,cell? w' (add (mk g_1 0 none) 2)=some (int i64 x_75)/\CallsV Tryz.prog 117 #[agg #[int i64 x,int i64
 x_54,int i64 x_55,slice x_56 x_57 x_58,slice x_59 x_60 x_61,slice x_62 x_63 x_64,slice x_65 x_66 x_67,slice x_68 x_69 x_70,slice x_71 x_72 x_73,int i64 x_74],int i64 x_75] w' fun v w'=>∃ x,
 v=bool x/\bif x then ∃ ad,some (mk g_3 0 none)=some ad/\((0: Int)<=2/\2<(↑4:Int))/\∃ x,cell? w' (add ad (Int.toNat (2: Int)*1))=some (bool x)/\bif x then
 ∃ ad,some (mk g_3 0 none)=some ad/\((0: Int)<=3/\3<(↑4:Int))/\∃ x,cell? w' (add ad (Int.toNat (3: Int)*1))=some (bool x)/\K (bool x) w' else K (bool
 false) w' else K (bool false) w' else K (bool false) w' else bif decide (x=20) then ∃ (S:World->Prop),S (drew w)/\∃ x,(∀ u,S u->cell? u (add (mk g_2 0 none) 0)
 = some (int i64 x))/\∃ x_32,(∀ u,S u->cell? u (add (mk g_2 0 none) 1)=some (int i64 x_32))/\∃ x_33,(∀ u,S u->cell? u (add (mk g_2 0 none) 2)=some (int i64
 x_33))/\∃ x_34 x_35 x_36,(∀ u,S u->cell? u (add (mk g_2 0 none) 3)=some (slice x_34 x_35 x_36))/\∃ x_37 x_38 x_39,(∀ u,S u->cell? u (add (mk g_2 0 none) 4)=some
 (slice x_37 x_38 x_39))/\∃ x_40 x_41 x_42,(∀ u,S u->cell? u (add (mk g_2 0 none) 5)=some (slice x_40 x_41 x_42))/\∃ x_43 x_44 x_45,(∀ u,S u->cell? u (add (mk g_2 0 none)
 6)=some (slice x_43 x_44 x_45))/\∃ x_46 x_47 x_48,(∀ u,S u->cell? u (add (mk g_2 0 none) 7)=some (slice x_46 x_47 x_48))/\∃ x_49 x_50 x_51,(∀ u,S u->cell? u (add (mk
 g_2 0 none) 8)=some (slice x_49 x_50 x_51))/\∃ x_52,(∀ u,S u->cell? u (add (mk g_2 0 none) 9)=some (int i64 x_52))/\∃ x_53,(∀ u,S u->cell? u (add (mk g_1 0
 none) 1)=some (int i64 x_53))/\CallsV Tryz.prog 121 #[agg #[int i64 x,int i64 x_32,int i64 x_33,slice x_34 x_35 x_36,slice x_37 x_38 x_39,slice x_40 x_41 x_42,slice x_43 x_44
 x_45,slice x_46 x_47 x_48,slice x_49 x_50 x_51,int i64 x_52],int i64 x_53] (drew w) fun v w'=>∃ x,v=bool x/\bif x then ∃ (S:World->Prop),S w'/\∃ x,(∀ u,S u->cell? u (add (mk g_2 0
 none) 0)=some (int i64 x))/\∃ x_54,(∀ u,S u->cell? u (add (mk g_2 0 none) 1)=some (int i64 x_54))/\∃ x_55,(∀ u,S u->cell? u (add (mk g_2 0 none) 2) =
 some (int i64 x_55))/\∃ x_56 x_57 x_58,(∀ u,S u->cell? u (add (mk g_2 0 none) 3)=some (slice x_56 x_57 x_58))/\∃ x_59 x_60 x_61,(∀ u,S u->cell? u (add (mk g_2 0
 none) 4)=some (slice x_59 x_60 x_61))/\∃ x_62 x_63 x_64,(∀ u,S u->cell? u (add (mk g_2 0 none) 5)=some (slice x_62 x_63 x_64))/\∃ x_65 x_66 x_67,(∀ u,S u->cell?
 u (add (mk g_2 0 none) 6)=some (slice x_65 x_66 x_67))/\∃ x_68 x_69 x_70,(∀ u,S u->cell? u (add (mk g_2 0 none) 7)=some (slice x_68 x_69 x_70))/\∃ x_71 x_72 x_73,
 (∀ u,S u->cell? u (add (mk g_2 0 none) 8)=some (slice x_71 x_72 x_73))/\∃ x_74,(∀ u,S u->cell? u (add (mk g_2 0 none) 9)=some (int i64 x_74))/\∃ x_75,(∀ u,S u ->
 cell? u (add (mk g_1 0 none) 2)=some (int i64 x_75))/\∃ x_76 x_77 x_78,(∀ u,S u->cell? u (add (mk g 0 none) 6)=some (slice x_76 x_77 x_78))/\∃ x_79,(∀ u,S u ->
 cell? u (add (mk g_1 0 none) 1)=some (int i64 x_79))/\∃ ad,x_76=some ad/\(0<=x_79/\x_79<(x_77:Int))/\∃ x_80 x_81 x_82,(∀ u,S u->cell? u (add (add ad (Int.toNat
 x_79*3)) 0)=some (slice x_80 x_81 x_82))/\CallsV Tryz.prog 114 #[agg #[int i64 x,int i64 x_54,int i64 x_55,slice x_56 x_57 x_58,slice x_59 x_60 x_61,slice x_62 x_63 x_64,slice x_65
 x_66 x_67,slice x_68 x_69 x_70,slice x_71 x_72 x_73,int i64 x_74],int i64 x_75,int i64 (x_81:Int)] w' fun v w'=>∃ x,v=bool x/\S w'/\bif x then ∃ (S_1:World->Prop),S_1 w'/\∃ x,(∀ u,
 S_1 u->cell? u (add (mk g_2 0 none) 0)=some (int i64 x))/\∃ x_83,(∀ u,S_1 u->cell? u (add (mk g_2 0 none) 1)=some (int i64 x_83))/\∃ x_84,(∀ u,S_1 u->cell? u
 (add (mk g_2 0 none) 2)=some (int i64 x_84))/\∃ x_85 x_86 x_87,(∀ u,S_1 u->cell? u (add (mk g_2 0 none) 3)=some (slice x_85 x_86 x_87))/\∃ x_88 x_89 x_90,(∀ u,S_1
 u->cell? u (add (mk g_2 0 none) 4)=some (slice x_88 x_89 x_90))/\∃ x_91 x_92 x_93,(∀ u,S_1 u->cell? u (add (mk g_2 0 none) 5)=some (slice x_91 x_92 x_93))/\∃ x_94
 x_95 x_96,(∀ u,S_1 u->cell? u (add (mk g_2 0 none) 6)=some (slice x_94 x_95 x_96))/\∃ x_97 x_98 x_99,(∀ u,S_1 u->cell? u (add (mk g_2 0 none) 7)=some (slice x_97
 x_98 x_99))/\∃ x_100 x_101 x_102,(∀ u,S_1 u->cell? u (add (mk g_2 0 none) 8)=some (slice x_100 x_101 x_102))/\∃ x_103,(∀ u,S_1 u->cell? u (add (mk g_2 0 none) 9) =
 some (int i64 x_103))/\∃ x_104,(∀ u,S_1 u->cell? u (add (mk g_1 0 none) 3)=some (int i64 x_104))/\∃ x_105 x_106 x_107,(∀ u,S_1 u->cell? u (add (mk g 0 none) 6) =
 some (slice x_105 x_106 x_107))/\∃ x_108,(∀ u,S_1 u->cell? u (add (mk g_1 0 none) 1)=some (int i64 x_108))/\∃ ad,x_105=some ad/\(0<=x_108/\x_108<(x_106 :
 Int))/\∃ x_109,(∀ u,S_1 u->cell? u (add (add ad (Int.toNat x_108*3)) 1)=some (int i64 x_109))/\CallsV Tryz.prog 114 #[agg #[int i64 x,int i64 x_83,int i64 x_84,slice x_85 x_86 x_87,
 slice x_88 x_89 x_90,slice x_91 x_92 x_93,slice x_94 x_95 x_96,slice x_97 x_98 x_99,slice x_100 x_101 x_102,int i64 x_103],int i64 x_104,int i64 x_109] w' fun v w'=>∃ x,v=bool x/\S_1 w' /\
 S w'/\bif x then ∃ ad,some (mk g_3 0 none)=some ad/\((0: Int)<=3/\3<(↑4:Int))/\∃ (S:World->Prop),S w'/\∃ x,(∀ u,S u->cell? u (add ad (Int.toNat (3: Int)*1)) =
 some (bool x))/\K (bool x) w' else K (bool false) w' else K (bool false) w' else K (bool false) w' else bif decide (x=21) then ∃ x,cell? w (add (mk g_2 0
 none) 0)=some (int i64 x)/\∃ x_32,cell? w (add (mk g_2 0 none) 1)=some (int i64 x_32)/\∃ x_33,cell? w (add (mk g_2 0 none) 2)=some (int i64 x_33)/\∃
 x_34 x_35 x_36,cell? w (add (mk g_2 0 none) 3)=some (slice x_34 x_35 x_36)/\∃ x_37 x_38 x_39,cell? w (add (mk g_2 0 none) 4)=some (slice x_37 x_38 x_39)/\∃ x_40 x_41
 x_42,cell? w (add (mk g_2 0 none) 5)=some (slice x_40 x_41 x_42)/\∃ x_43 x_44 x_45,cell? w (add (mk g_2 0 none) 6)=some (slice x_43 x_44 x_45)/\∃ x_46 x_47 x_48,
 cell? w (add (mk g_2 0 none) 7)=some (slice x_46 x_47 x_48)/\∃ x_49 x_50 x_51,cell? w (add (mk g_2 0 none) 8)=some (slice x_49 x_50 x_51)/\∃ x_52,cell? w (add (mk
 g_2 0 none) 9)=some (int i64 x_52)/\∃ x_53,cell? w (add (mk g_1 0 none) 1)=some (int i64 x_53)/\CallsV Tryz.prog 121 #[agg #[int i64 x,int i64 x_32,int i64 x_33,
 slice x_34 x_35 x_36,slice x_37 x_38 x_39,slice x_40 x_41 x_42,slice x_43 x_44 x_45,slice x_46 x_47 x_48,slice x_49 x_50 x_51,int i64 x_52],int i64 x_53] w fun v w'=>∃ x,v=bool x/\bif x
 then ∃ x,cell? w' (add (mk g_2 0 none) 0)=some (int i64 x)/\∃ x_54,cell? w' (add (mk g_2 0 none) 1)=some (int i64 x_54)/\∃ x_55,cell? w' (add (mk g_2 0 none)
 2)=some (int i64 x_55)/\∃ x_56 x_57 x_58,cell? w' (add (mk g_2 0 none) 3)=some (slice x_56 x_57 x_58)/\∃ x_59 x_60 x_61,cell? w' (add (mk g_2 0 none) 4) =
 some (slice x_59 x_60 x_61)/\∃ x_62 x_63 x_64,cell? w' (add (mk g_2 0 none) 5)=some (slice x_62 x_63 x_64)/\∃ x_65 x_66 x_67,cell? w' (add (mk g_2 0 none) 6) =
 some (slice x_65 x_66 x_67)/\∃ x_68 x_69 x_70,cell? w' (add (mk g_2 0 none) 7)=some (slice x_68 x_69 x_70)/\∃ x_71 x_72 x_73,cell? w' (add (mk g_2 0 none) 8) =
 some (slice x_71 x_72 x_73)/\∃ x_74,cell? w' (add (mk g_2 0 none) 9)=some (int i64 x_74)/\∃ x_75,cell? w' (add (mk g_1 0 none) 2)=some (int i64 x_75)/\CallsV
 Tryz.prog 116 #[agg #[int i64 x,int i64 x_54,int i64 x_55,slice x_56 x_57 x_58,slice x_59 x_60 x_61,slice x_62 x_63 x_64,slice x_65 x_66 x_67,slice x_68 x_69 x_70,slice x_71 x_72 x_73,int i64
 x_74],int i64 x_75] w' fun v w'=>∃ x,v=bool x/\bif x then ∃ ad,some (mk g_3 0 none)=some ad/\((0: Int)<=2/\2<(↑4:Int))/\∃ x,cell? w' (add ad (Int.toNat (2: Int)
 * 1))=some (bool x)/\bif x then ∃ ad,some (mk g_3 0 none)=some ad/\((0: Int)<=3/\3<(↑4:Int))/\∃ x,cell? w' (add ad (Int.toNat (3: Int)*1))=some
 (bool x)/\K (bool x) w' else K (bool false) w' else K (bool false) w' else K (bool false) w' else bif decide (x=22) then ∃ x,cell? w (add (mk g_2 0 none) 0) =
 some (int i64 x)/\∃ x_32,cell? w (add (mk g_2 0 none) 1)=some (int i64 x_32)/\∃ x_33,cell? w (add (mk g_2 0 none) 2)=some (int i64 x_33)/\∃ x_34 x_35 x_36,
 cell? w (add (mk g_2 0 none) 3)=some (slice x_34 x_35 x_36)/\∃ x_37 x_38 x_39,cell? w (add (mk g_2 0 none) 4)=some (slice x_37 x_38 x_39)/\∃ x_40 x_41 x_42,cell? w
 (add (mk g_2 0 none) 5)=some (slice x_40 x_41 x_42)/\∃ x_43 x_44 x_45,cell? w (add (mk g_2 0 none) 6)=some (slice x_43 x_44 x_45)/\∃ x_46 x_47 x_48,cell? w (add (mk
 g_2 0 none) 7)=some (slice x_46 x_47 x_48)/\∃ x_49 x_50 x_51,cell? w (add (mk g_2 0 none) 8)=some (slice x_49 x_50 x_51)/\∃ x_52,cell? w (add (mk g_2 0 none)
 9)=some (int i64 x_52)/\∃ x_53,cell? w (add (mk g_1 0 none) 1)=some (int i64 x_53)/\CallsV Tryz.prog 121 #[agg #[int i64 x,int i64 x_32,int i64 x_33,slice x_34 x_35 x_36,
 slice x_37 x_38 x_39,slice x_40 x_41 x_42,slice x_43 x_44 x_45,slice x_46 x_47 x_48,slice x_49 x_50 x_51,int i64 x_52],int i64 x_53] w fun v w'=>∃ x,v=bool x/\bif x then ∃ x,cell? w' (add
 (mk g_2 0 none) 0)=some (int i64 x)/\∃ x_54,cell? w' (add (mk g_2 0 none) 1)=some (int i64 x_54)/\∃ x_55,cell? w' (add (mk g_2 0 none) 2)=some (int
 i64 x_55)/\∃ x_56 x_57 x_58,cell? w' (add (mk g_2 0 none) 3)=some (slice x_56 x_57 x_58)/\∃ x_59 x_60 x_61,cell? w' (add (mk g_2 0 none) 4)=some (slice x_59 x_60
 x_61)/\∃ x_62 x_63 x_64,cell? w' (add (mk g_2 0 none) 5)=some (slice x_62 x_63 x_64)/\∃ x_65 x_66 x_67,cell? w' (add (mk g_2 0 none) 6)=some (slice x_65 x_66 x_67) /\
 ∃ x_68 x_69 x_70,cell? w' (add (mk g_2 0 none) 7)=some (slice x_68 x_69 x_70)/\∃ x_71 x_72 x_73,cell? w' (add (mk g_2 0 none) 8)=some (slice x_71 x_72 x_73)/\∃ x_74,
 cell? w' (add (mk g_2 0 none) 9)=some (int i64 x_74)/\∃ x_75,cell? w' (add (mk g_1 0 none) 2)=some (int i64 x_75)/\CallsV Tryz.prog 119 #[agg #[int i64 x,int i64
 x_54,int i64 x_55,slice x_56 x_57 x_58,slice x_59 x_60 x_61,slice x_62 x_63 x_64,slice x_65 x_66 x_67,slice x_68 x_69 x_70,slice x_71 x_72 x_73,int i64 x_74],int i64 x_75] w' fun v w'=>∃ x,
 v=bool x/\bif x then ∃ ad,some (mk g_3 0 none)=some ad/\((0: Int)<=2/\2<(↑4:Int))/\∃ x,cell? w' (add ad (Int.toNat (2: Int)*1))=some (bool x)/\bif x then
 ∃ ad,some (mk g_3 0 none)=some ad/\((0: Int)<=3/\3<(↑4:Int))/\∃ x,cell? w' (add ad (Int.toNat (3: Int)*1))=some (bool x)/\K (bool x) w' else K (bool
 false) w' else K (bool false) w' else K (bool false) w' else bif decide (x=23) then ∃ (S:World->Prop),S (drew w)/\∃ x,(∀ u,S u->cell? u (add (mk g_2 0 none) 0)
 = some (int i64 x))/\∃ x_32,(∀ u,S u->cell? u (add (mk g_2 0 none) 1)=some (int i64 x_32))/\∃ x_33,(∀ u,S u->cell? u (add (mk g_2 0 none) 2)=some (int i64
 x_33))/\∃ x_34 x_35 x_36,(∀ u,S u->cell? u (add (mk g_2 0 none) 3)=some (slice x_34 x_35 x_36))/\∃ x_37 x_38 x_39,(∀ u,S u->cell? u (add (mk g_2 0 none) 4)=some
 (slice x_37 x_38 x_39))/\∃ x_40 x_41 x_42,(∀ u,S u->cell? u (add (mk g_2 0 none) 5)=some (slice x_40 x_41 x_42))/\∃ x_43 x_44 x_45,(∀ u,S u->cell? u (add (mk g_2 0 none)
 6)=some (slice x_43 x_44 x_45))/\∃ x_46 x_47 x_48,(∀ u,S u->cell? u (add (mk g_2 0 none) 7)=some (slice x_46 x_47 x_48))/\∃ x_49 x_50 x_51,(∀ u,S u->cell? u (add (mk
 g_2 0 none) 8)=some (slice x_49 x_50 x_51))/\∃ x_52,(∀ u,S u->cell? u (add (mk g_2 0 none) 9)=some (int i64 x_52))/\∃ x_53,(∀ u,S u->cell? u (add (mk g_1 0
 none) 1)=some (int i64 x_53))/\CallsV Tryz.prog 112 #[agg #[int i64 x,int i64 x_32,int i64 x_33,slice x_34 x_35 x_36,slice x_37 x_38 x_39,slice x_40 x_41 x_42,slice x_43 x_44
 x_45,slice x_46 x_47 x_48,slice x_49 x_50 x_51,int i64 x_52],int i64 x_53] (drew w) fun v w'=>∃ x,v=bool x/\bif x then ∃ (S:World->Prop),S w'/\∃ x,(∀ u,S u->cell? u (add (mk g_2 0
 none) 0)=some (int i64 x))/\∃ x_54,(∀ u,S u->cell? u (add (mk g_2 0 none) 1)=some (int i64 x_54))/\∃ x_55,(∀ u,S u->cell? u (add (mk g_2 0 none) 2) =
 some (int i64 x_55))/\∃ x_56 x_57 x_58,(∀ u,S u->cell? u (add (mk g_2 0 none) 3)=some (slice x_56 x_57 x_58))/\∃ x_59 x_60 x_61,(∀ u,S u->cell? u (add (mk g_2 0
 none) 4)=some (slice x_59 x_60 x_61))/\∃ x_62 x_63 x_64,(∀ u,S u->cell? u (add (mk g_2 0 none) 5)=some (slice x_62 x_63 x_64))/\∃ x_65 x_66 x_67,(∀ u,S u->cell?
 u (add (mk g_2 0 none) 6)=some (slice x_65 x_66 x_67))/\∃ x_68 x_69 x_70,(∀ u,S u->cell? u (add (mk g_2 0 none) 7)=some (slice x_68 x_69 x_70))/\∃ x_71 x_72 x_73,
 (∀ u,S u->cell? u (add (mk g_2 0 none) 8)=some (slice x_71 x_72 x_73))/\∃ x_74,(∀ u,S u->cell? u (add (mk g_2 0 none) 9)=some (int i64 x_74))/\∃ x_75,(∀ u,S u ->
 cell? u (add (mk g_1 0 none) 2)=some (int i64 x_75))/\CallsV Tryz.prog 121 #[agg #[int i64 x,int i64 x_54,int i64 x_55,slice x_56 x_57 x_58,slice x_59 x_60 x_61,slice x_62 x_63
 x_64,slice x_65 x_66 x_67,slice x_68 x_69 x_70,slice x_71 x_72 x_73,int i64 x_74],int i64 x_75] w' fun v w'=>∃ x,v=bool x/\bif x then ∃ (S:World->Prop),S w'/\∃ x,(∀ u,S u->cell? u
 (add (mk g_1 0 none) 3)=some (int i64 x))/\∃ x_76 x_77 x_78,(∀ u,S u->cell? u (add (mk g 0 none) 6)=some (slice x_76 x_77 x_78))/\∃ x_79,(∀ u,S u->cell? u (add
 (mk g_1 0 none) 2)=some (int i64 x_79))/\∃ ad,x_76=some ad/\(0<=x_79/\x_79<(x_77:Int))/\∃ x_80,(∀ u,S u->cell? u (add (add ad (Int.toNat x_79*3)) 1) =
 some (int i64 x_80))/\CallsV Tryz.prog 57 #[int i64 x,int i64 0,int i64 x_80] w' fun v w'=>∃ x,v=bool x/\S w'/\bif x then ∃ ad,some (mk g_3 0 none)=some ad /\
 ((0: Int)<=3/\3<(↑4:Int))/\∃ (S:World->Prop),S w'/\∃ x,(∀ u,S u->cell? u (add ad (Int.toNat (3: Int)*1))=some (bool x))/\K (bool x) w' else K (bool false) w' else K
 (bool false) w' else K (bool false) w' else bif decide (x=24) then ∃ x,cell? w (add (mk g_2 0 none) 0)=some (int i64 x)/\∃ x_32,cell? w (add (mk g_2 0
 none) 1)=some (int i64 x_32)/\∃ x_33,cell? w (add (mk g_2 0 none) 2)=some (int i64 x_33)/\∃ x_34 x_35 x_36,cell? w (add (mk g_2 0 none) 3)=some
 (slice x_34 x_35 x_36)/\∃ x_37 x_38 x_39,cell? w (add (mk g_2 0 none) 4)=some (slice x_37 x_38 x_39)/\∃ x_40 x_41 x_42,cell? w (add (mk g_2 0 none) 5)=some (slice
 x_40 x_41 x_42)/\∃ x_43 x_44 x_45,cell? w (add (mk g_2 0 none) 6)=some (slice x_43 x_44 x_45)/\∃ x_46 x_47 x_48,cell? w (add (mk g_2 0 none) 7)=some (slice x_46 x_47
 x_48)/\∃ x_49 x_50 x_51,cell? w (add (mk g_2 0 none) 8)=some (slice x_49 x_50 x_51)/\∃ x_52,cell? w (add (mk g_2 0 none) 9)=some (int i64 x_52)/\∃ x_53,cell? w
 (add (mk g_1 0 none) 1)=some (int i64 x_53)/\CallsV Tryz.prog 122 #[agg #[int i64 x,int i64 x_32,int i64 x_33,slice x_34 x_35 x_36,slice x_37 x_38 x_39,slice x_40 x_41 x_42,slice
 x_43 x_44 x_45,slice x_46 x_47 x_48,slice x_49 x_50 x_51,int i64 x_52],int i64 x_53] w fun v w'=>∃ x,v=bool x/\bif x then ∃ ad,some (mk g_3 0 none)=some ad/\((0: Int)
 <= 1/\1<(↑4:Int))/\∃ x,cell? w' (add ad (Int.toNat (1: Int)*1))=some (bool x)/\bif x then ∃ ad,some (mk g_3 0 none)=some ad/\((0: Int)<=2/\2<(↑4:Int)) /\
 ∃ x,cell? w' (add ad (Int.toNat (2: Int)*1))=some (bool x)/\bif x then ∃ ad,some (mk g_3 0 none)=some ad/\((0: Int)<=3/\3<(↑4:Int))/\∃ x,cell? w' (add ad
 (Int.toNat (3: Int)*1))=some (bool x)/\K (bool x) w' else K (bool false) w' else K (bool false) w' else K (bool false) w' else bif decide (x=25) then ∃ x,cell? w
 (add (mk g_2 0 none) 0)=some (int i64 x)/\∃ x_32,cell? w (add (mk g_2 0 none) 1)=some (int i64 x_32)/\∃ x_33,cell? w (add (mk g_2 0 none) 2)=some
 (int i64 x_33)/\∃ x_34 x_35 x_36,cell? w (add (mk g_2 0 none) 3)=some (slice x_34 x_35 x_36)/\∃ x_37 x_38 x_39,cell? w (add (mk g_2 0 none) 4)=some (slice x_37 x_38
 x_39)/\∃ x_40 x_41 x_42,cell? w (add (mk g_2 0 none) 5)=some (slice x_40 x_41 x_42)/\∃ x_43 x_44 x_45,cell? w (add (mk g_2 0 none) 6)=some (slice x_43 x_44 x_45)/\∃
 x_46 x_47 x_48,cell? w (add (mk g_2 0 none) 7)=some (slice x_46 x_47 x_48)/\∃ x_49 x_50 x_51,cell? w (add (mk g_2 0 none) 8)=some (slice x_49 x_50 x_51)/\∃ x_52,
 cell? w (add (mk g_2 0 none) 9)=some (int i64 x_52)/\∃ x_53,cell? w (add (mk g_1 0 none) 1)=some (int i64 x_53)/\CallsV Tryz.prog 122 #[agg #[int i64 x,int i64 x_32,
 int i64 x_33,slice x_34 x_35 x_36,slice x_37 x_38 x_39,slice x_40 x_41 x_42,slice x_43 x_44 x_45,slice x_46 x_47 x_48,slice x_49 x_50 x_51,int i64 x_52],int i64 x_53] w fun v w'=>∃ x,v =
 bool x/\bif x then ∃ x,cell? w' (add (mk g_2 0 none) 0)=some (int i64 x)/\∃ x_54,cell? w' (add (mk g_2 0 none) 1)=some (int i64 x_54)/\∃ x_55,cell? w' (add (mk g_2
 0 none) 2)=some (int i64 x_55)/\∃ x_56 x_57 x_58,cell? w' (add (mk g_2 0 none) 3)=some (slice x_56 x_57 x_58)/\∃ x_59 x_60 x_61,cell? w' (add (mk g_2 0 none)
 4)=some (slice x_59 x_60 x_61)/\∃ x_62 x_63 x_64,cell? w' (add (mk g_2 0 none) 5)=some (slice x_62 x_63 x_64)/\∃ x_65 x_66 x_67,cell? w' (add (mk g_2 0 none) 6) =
 some (slice x_65 x_66 x_67)/\∃ x_68 x_69 x_70,cell? w' (add (mk g_2 0 none) 7)=some (slice x_68 x_69 x_70)/\∃ x_71 x_72 x_73,cell? w' (add (mk g_2 0 none) 8) =
 some (slice x_71 x_72 x_73)/\∃ x_74,cell? w' (add (mk g_2 0 none) 9)=some (int i64 x_74)/\∃ x_75,cell? w' (add (mk g_1 0 none) 2)=some (int i64 x_75)/\CallsV
 Tryz.prog 112 #[agg #[int i64 x,int i64 x_54,int i64 x_55,slice x_56 x_57 x_58,slice x_59 x_60 x_61,slice x_62 x_63 x_64,slice x_65 x_66 x_67,slice x_68 x_69 x_70,slice x_71 x_72 x_73,int i64
 x_74],int i64 x_75] w' fun v w'=>∃ x,v=bool x/\bif x then ∃ ad,some (mk g_3 0 none)=some ad/\((0: Int)<=2/\2<(↑4:Int))/\∃ x,cell? w' (add ad (Int.toNat (2: Int)
 * 1))=some (bool x)/\bif x then ∃ ad,some (mk g_3 0 none)=some ad/\((0: Int)<=3/\3<(↑4:Int))/\∃ x,cell? w' (add ad (Int.toNat (3: Int)*1))=some
 (bool x)/\K (bool x) w' else K (bool false) w' else K (bool false) w' else K (bool false) w' else bif decide (x=26) then ∃ x,cell? w (add (mk g_2 0 none) 0) =
 some (int i64 x)/\∃ x_32,cell? w (add (mk g_2 0 none) 1)=some (int i64 x_32)/\∃ x_33,cell? w (add (mk g_2 0 none) 2)=some (int i64 x_33)/\∃ x_34 x_35 x_36,
 cell? w (add (mk g_2 0 none) 3)=some (slice x_34 x_35 x_36)/\∃ x_37 x_38 x_39,cell? w (add (mk g_2 0 none) 4)=some (slice x_37 x_38 x_39)/\∃ x_40 x_41 x_42,cell? w
 (add (mk g_2 0 none) 5)=some (slice x_40 x_41 x_42)/\∃ x_43 x_44 x_45,cell? w (add (mk g_2 0 none) 6)=some (slice x_43 x_44 x_45)/\∃ x_46 x_47 x_48,cell? w (add (mk
 g_2 0 none) 7)=some (slice x_46 x_47 x_48)/\∃ x_49 x_50 x_51,cell? w (add (mk g_2 0 none) 8)=some (slice x_49 x_50 x_51)/\∃ x_52,cell? w (add (mk g_2 0 none)
 9)=some (int i64 x_52)/\∃ x_53,cell? w (add (mk g_1 0 none) 1)=some (int i64 x_53)/\CallsV Tryz.prog 112 #[agg #[int i64 x,int i64 x_32,int i64 x_33,slice x_34 x_35 x_36,
 slice x_37 x_38 x_39,slice x_40 x_41 x_42,slice x_43 x_44 x_45,slice x_46 x_47 x_48,slice x_49 x_50 x_51,int i64 x_52],int i64 x_53] w fun v w'=>∃ x,v=bool x/\bif x then ∃ x,cell? w' (add
 (mk g_2 0 none) 0)=some (int i64 x)/\∃ x_54,cell? w' (add (mk g_2 0 none) 1)=some (int i64 x_54)/\∃ x_55,cell? w' (add (mk g_2 0 none) 2)=some (int
 i64 x_55)/\∃ x_56 x_57 x_58,cell? w' (add (mk g_2 0 none) 3)=some (slice x_56 x_57 x_58)/\∃ x_59 x_60 x_61,cell? w' (add (mk g_2 0 none) 4)=some (slice x_59 x_60
 x_61)/\∃ x_62 x_63 x_64,cell? w' (add (mk g_2 0 none) 5)=some (slice x_62 x_63 x_64)/\∃ x_65 x_66 x_67,cell? w' (add (mk g_2 0 none) 6)=some (slice x_65 x_66 x_67) /\
 ∃ x_68 x_69 x_70,cell? w' (add (mk g_2 0 none) 7)=some (slice x_68 x_69 x_70)/\∃ x_71 x_72 x_73,cell? w' (add (mk g_2 0 none) 8)=some (slice x_71 x_72 x_73)/\∃ x_74,
 cell? w' (add (mk g_2 0 none) 9)=some (int i64 x_74)/\∃ x_75,cell? w' (add (mk g_1 0 none) 2)=some (int i64 x_75)/\CallsV Tryz.prog 122 #[agg #[int i64 x,int i64
 x_54,int i64 x_55,slice x_56 x_57 x_58,slice x_59 x_60 x_61,slice x_62 x_63 x_64,slice x_65 x_66 x_67,slice x_68 x_69 x_70,slice x_71 x_72 x_73,int i64 x_74],int i64 x_75] w' fun v w'=>∃ x,
 v=bool x/\bif x then ∃ ad,some (mk g_3 0 none)=some ad/\((0: Int)<=2/\2<(↑4:Int))/\∃ x,cell? w' (add ad (Int.toNat (2: Int)*1))=some (bool x)/\bif x then
 ∃ ad,some (mk g_3 0 none)=some ad/\((0: Int)<=3/\3<(↑4:Int))/\∃ x,cell? w' (add ad (Int.toNat (3: Int)*1))=some (bool x)/\K (bool x) w' else K (bool
 false) w' else K (bool false) w' else K (bool false) w' else bif decide (x=27) then ∃ x,cell? w (add (mk g_2 0 none) 0)=some (int i64 x)/\∃ x_32,cell? w
 (add (mk g_2 0 none) 1)=some (int i64 x_32)/\∃ x_33,cell? w (add (mk g_2 0 none) 2)=some (int i64 x_33)/\∃ x_34 x_35 x_36,cell? w (add (mk g_2 0 none) 3) =
 some (slice x_34 x_35 x_36)/\∃ x_37 x_38 x_39,cell? w (add (mk g_2 0 none) 4)=some (slice x_37 x_38 x_39)/\∃ x_40 x_41 x_42,cell? w (add (mk g_2 0 none) 5) =
 some (slice x_40 x_41 x_42)/\∃ x_43 x_44 x_45,cell? w (add (mk g_2 0 none) 6)=some (slice x_43 x_44 x_45)/\∃ x_46 x_47 x_48,cell? w (add (mk g_2 0 none) 7) =
 some (slice x_46 x_47 x_48)/\∃ x_49 x_50 x_51,cell? w (add (mk g_2 0 none) 8)=some (slice x_49 x_50 x_51)/\∃ x_52,cell? w (add (mk g_2 0 none) 9)=some (int
 i64 x_52)/\∃ x_53,cell? w (add (mk g_1 0 none) 1)=some (int i64 x_53)/\∃ x_54 x_55 x_56,cell? w (add (mk g 0 none) 3)=some (slice x_54 x_55 x_56)/\CallsV Tryz.prog
 114 #[agg #[int i64 x,int i64 x_32,int i64 x_33,slice x_34 x_35 x_36,slice x_37 x_38 x_39,slice x_40 x_41 x_42,slice x_43 x_44 x_45,slice x_46 x_47 x_48,slice x_49 x_50 x_51,int i64 x_52],int
 i64 x_53,int i64 (x_55:Int)] w fun v w'=>∃ x,v=bool x/\bif x then ∃ ad,some (mk g_3 0 none)=some ad/\((0: Int)<=1/\1<(↑4:Int))/\∃ x,cell? w' (add ad (Int.toNat
 (1: Int)*1))=some (bool x)/\bif x then ∃ ad,some (mk g_3 0 none)=some ad/\((0: Int)<=2/\2<(↑4:Int))/\∃ x,cell? w' (add ad (Int.toNat (2: Int)*1)) =
 some (bool x)/\bif x then ∃ ad,some (mk g_3 0 none)=some ad/\((0: Int)<=3/\3<(↑4:Int))/\∃ x,cell? w' (add ad (Int.toNat (3: Int)*1))=some (bool x) /\
 K (bool x) w' else K (bool false) w' else K (bool false) w' else K (bool false) w' else bif decide (x=28) then ∃ x,cell? w (add (mk g_2 0 none) 0)=some (int
 i64 x)/\∃ x_32,cell? w (add (mk g_2 0 none) 1)=some (int i64 x_32)/\∃ x_33,cell? w (add (mk g_2 0 none) 2)=some (int i64 x_33)/\∃ x_34 x_35 x_36,cell? w (add (mk
 g_2 0 none) 3)=some (slice x_34 x_35 x_36)/\∃ x_37 x_38 x_39,cell? w (add (mk g_2 0 none) 4)=some (slice x_37 x_38 x_39)/\∃ x_40 x_41 x_42,cell? w (add (mk g_2 0
 none) 5)=some (slice x_40 x_41 x_42)/\∃ x_43 x_44 x_45,cell? w (add (mk g_2 0 none) 6)=some (slice x_43 x_44 x_45)/\∃ x_46 x_47 x_48,cell? w (add (mk g_2 0
 none) 7)=some (slice x_46 x_47 x_48)/\∃ x_49 x_50 x_51,cell? w (add (mk g_2 0 none) 8)=some (slice x_49 x_50 x_51)/\∃ x_52,cell? w (add (mk g_2 0 none) 9) =
 some (int i64 x_52)/\∃ x_53,cell? w (add (mk g_1 0 none) 1)=some (int i64 x_53)/\CallsV Tryz.prog 112 #[agg #[int i64 x,int i64 x_32,int i64 x_33,slice x_34 x_35 x_36,
 slice x_37 x_38 x_39,slice x_40 x_41 x_42,slice x_43 x_44 x_45,slice x_46 x_47 x_48,slice x_49 x_50 x_51,int i64 x_52],int i64 x_53] w fun v w'=>∃ x,v=bool x/\bif x then ∃ x,cell? w' (add
 (mk g_2 0 none) 0)=some (int i64 x)/\∃ x_54,cell? w' (add (mk g_2 0 none) 1)=some (int i64 x_54)/\∃ x_55,cell? w' (add (mk g_2 0 none) 2)=some (int
 i64 x_55)/\∃ x_56 x_57 x_58,cell? w' (add (mk g_2 0 none) 3)=some (slice x_56 x_57 x_58)/\∃ x_59 x_60 x_61,cell? w' (add (mk g_2 0 none) 4)=some (slice x_59 x_60
 x_61)/\∃ x_62 x_63 x_64,cell? w' (add (mk g_2 0 none) 5)=some (slice x_62 x_63 x_64)/\∃ x_65 x_66 x_67,cell? w' (add (mk g_2 0 none) 6)=some (slice x_65 x_66 x_67) /\
 ∃ x_68 x_69 x_70,cell? w' (add (mk g_2 0 none) 7)=some (slice x_68 x_69 x_70)/\∃ x_71 x_72 x_73,cell? w' (add (mk g_2 0 none) 8)=some (slice x_71 x_72 x_73)/\∃ x_74,
 cell? w' (add (mk g_2 0 none) 9)=some (int i64 x_74)/\∃ x_75,cell? w' (add (mk g_1 0 none) 2)=some (int i64 x_75)/\CallsV Tryz.prog 123 #[agg #[int i64 x,int i64
 x_54,int i64 x_55,slice x_56 x_57 x_58,slice x_59 x_60 x_61,slice x_62 x_63 x_64,slice x_65 x_66 x_67,slice x_68 x_69 x_70,slice x_71 x_72 x_73,int i64 x_74],int i64 x_75] w' fun v w'=>∃ x,
 v=bool x/\bif x then ∃ ad,some (mk g_3 0 none)=some ad/\((0: Int)<=2/\2<(↑4:Int))/\∃ x,cell? w' (add ad (Int.toNat (2: Int)*1))=some (bool x)/\bif x then
 ∃ ad,some (mk g_3 0 none)=some ad/\((0: Int)<=3/\3<(↑4:Int))/\∃ x,cell? w' (add ad (Int.toNat (3: Int)*1))=some (bool x)/\K (bool x) w' else K (bool
 false) w' else K (bool false) w' else K (bool false) w' else bif decide (x=29) then ∃ x,cell? w (add (mk g_2 0 none) 0)=some (int i64 x)/\∃ x_32,cell? w
 (add (mk g_2 0 none) 1)=some (int i64 x_32)/\∃ x_33,cell? w (add (mk g_2 0 none) 2)=some (int i64 x_33)/\∃ x_34 x_35 x_36,cell? w (add (mk g_2 0 none) 3) =
 some (slice x_34 x_35 x_36)/\∃ x_37 x_38 x_39,cell? w (add (mk g_2 0 none) 4)=some (slice x_37 x_38 x_39)/\∃ x_40 x_41 x_42,cell? w (add (mk g_2 0 none) 5) =
 some (slice x_40 x_41 x_42)/\∃ x_43 x_44 x_45,cell? w (add (mk g_2 0 none) 6)=some (slice x_43 x_44 x_45)/\∃ x_46 x_47 x_48,cell? w (add (mk g_2 0 none) 7) =
 some (slice x_46 x_47 x_48)/\∃ x_49 x_50 x_51,cell? w (add (mk g_2 0 none) 8)=some (slice x_49 x_50 x_51)/\∃ x_52,cell? w (add (mk g_2 0 none) 9)=some (int
 i64 x_52)/\∃ x_53,cell? w (add (mk g_1 0 none) 1)=some (int i64 x_53)/\CallsV Tryz.prog 123 #[agg #[int i64 x,int i64 x_32,int i64 x_33,slice x_34 x_35 x_36,slice x_37 x_38 x_39,
 slice x_40 x_41 x_42,slice x_43 x_44 x_45,slice x_46 x_47 x_48,slice x_49 x_50 x_51,int i64 x_52],int i64 x_53] w fun v w'=>∃ x,v=bool x/\bif x then ∃ x,cell? w' (add (mk g_2 0 none)
 0)=some (int i64 x)/\∃ x_54,cell? w' (add (mk g_2 0 none) 1)=some (int i64 x_54)/\∃ x_55,cell? w' (add (mk g_2 0 none) 2)=some (int i64 x_55)/\∃ x_56 x_57
 x_58,cell? w' (add (mk g_2 0 none) 3)=some (slice x_56 x_57 x_58)/\∃ x_59 x_60 x_61,cell? w' (add (mk g_2 0 none) 4)=some (slice x_59 x_60 x_61)/\∃ x_62 x_63 x_64,
 cell? w' (add (mk g_2 0 none) 5)=some (slice x_62 x_63 x_64)/\∃ x_65 x_66 x_67,cell? w' (add (mk g_2 0 none) 6)=some (slice x_65 x_66 x_67)/\∃ x_68 x_69 x_70,cell?
 w' (add (mk g_2 0 none) 7)=some (slice x_68 x_69 x_70)/\∃ x_71 x_72 x_73,cell? w' (add (mk g_2 0 none) 8)=some (slice x_71 x_72 x_73)/\∃ x_74,cell? w' (add (mk g_2 0
 none) 9)=some (int i64 x_74)/\∃ x_75,cell? w' (add (mk g_1 0 none) 2)=some (int i64 x_75)/\CallsV Tryz.prog 112 #[agg #[int i64 x,int i64 x_54,int i64 x_55,slice
 x_56 x_57 x_58,slice x_59 x_60 x_61,slice x_62 x_63 x_64,slice x_65 x_66 x_67,slice x_68 x_69 x_70,slice x_71 x_72 x_73,int i64 x_74],int i64 x_75] w' fun v w'=>∃ x,v=bool x/\bif x then ∃
 x,cell? w' (add (mk g_2 0 none) 0)=some (int i64 x)/\∃ x_76,cell? w' (add (mk g_2 0 none) 1)=some (int i64 x_76)/\∃ x_77,cell? w' (add (mk g_2 0 none) 2) =
 some (int i64 x_77)/\∃ x_78 x_79 x_80,cell? w' (add (mk g_2 0 none) 3)=some (slice x_78 x_79 x_80)/\∃ x_81 x_82 x_83,cell? w' (add (mk g_2 0 none) 4)=some
 (slice x_81 x_82 x_83)/\∃ x_84 x_85 x_86,cell? w' (add (mk g_2 0 none) 5)=some (slice x_84 x_85 x_86)/\∃ x_87 x_88 x_89,cell? w' (add (mk g_2 0 none) 6)=some (slice
 x_87 x_88 x_89)/\∃ x_90 x_91 x_92,cell? w' (add (mk g_2 0 none) 7)=some (slice x_90 x_91 x_92)/\∃ x_93 x_94 x_95,cell? w' (add (mk g_2 0 none) 8)=some (slice x_93
 x_94 x_95)/\∃ x_96,cell? w' (add (mk g_2 0 none) 9)=some (int i64 x_96)/\∃ x_97,cell? w' (add (mk g_1 0 none) 3)=some (int i64 x_97)/\CallsV Tryz.prog 112 #[agg
 #[int i64 x,int i64 x_76,int i64 x_77,slice x_78 x_79 x_80,slice x_81 x_82 x_83,slice x_84 x_85 x_86,slice x_87 x_88 x_89,slice x_90 x_91 x_92,slice x_93 x_94 x_95,int i64 x_96],int i64 x_97]
 w' fun v w'=>∃ x,v=bool x/\bif x then ∃ ad,some (mk g_3 0 none)=some ad/\((0: Int)<=3/\3<(↑4:Int))/\∃ x,cell? w' (add ad (Int.toNat (3: Int)*1))=some
 (bool x)/\K (bool x) w' else K (bool false) w' else K (bool false) w' else K (bool false) w' else bif decide (x=30) then ∃ x,cell? w (add (mk g_2 0 none) 0) =
 some (int i64 x)/\∃ x_32,cell? w (add (mk g_2 0 none) 1)=some (int i64 x_32)/\∃ x_33,cell? w (add (mk g_2 0 none) 2)=some (int i64 x_33)/\∃ x_34 x_35 x_36,
 cell? w (add (mk g_2 0 none) 3)=some (slice x_34 x_35 x_36)/\∃ x_37 x_38 x_39,cell? w (add (mk g_2 0 none) 4)=some (slice x_37 x_38 x_39)/\∃ x_40 x_41 x_42,cell? w
 (add (mk g_2 0 none) 5)=some (slice x_40 x_41 x_42)/\∃ x_43 x_44 x_45,cell? w (add (mk g_2 0 none) 6)=some (slice x_43 x_44 x_45)/\∃ x_46 x_47 x_48,cell? w (add (mk
 g_2 0 none) 7)=some (slice x_46 x_47 x_48)/\∃ x_49 x_50 x_51,cell? w (add (mk g_2 0 none) 8)=some (slice x_49 x_50 x_51)/\∃ x_52,cell? w (add (mk g_2 0 none)
 9)=some (int i64 x_52)/\∃ x_53,cell? w (add (mk g_1 0 none) 1)=some (int i64 x_53)/\CallsV Tryz.prog 123 #[agg #[int i64 x,int i64 x_32,int i64 x_33,slice x_34 x_35 x_36,
 slice x_37 x_38 x_39,slice x_40 x_41 x_42,slice x_43 x_44 x_45,slice x_46 x_47 x_48,slice x_49 x_50 x_51,int i64 x_52],int i64 x_53] w fun v w'=>∃ x,v=bool x/\bif x then ∃ x,cell? w' (add
 (mk g_2 0 none) 0)=some (int i64 x)/\∃ x_54,cell? w' (add (mk g_2 0 none) 1)=some (int i64 x_54)/\∃ x_55,cell? w' (add (mk g_2 0 none) 2)=some (int
 i64 x_55)/\∃ x_56 x_57 x_58,cell? w' (add (mk g_2 0 none) 3)=some (slice x_56 x_57 x_58)/\∃ x_59 x_60 x_61,cell? w' (add (mk g_2 0 none) 4)=some (slice x_59 x_60
 x_61)/\∃ x_62 x_63 x_64,cell? w' (add (mk g_2 0 none) 5)=some (slice x_62 x_63 x_64)/\∃ x_65 x_66 x_67,cell? w' (add (mk g_2 0 none) 6)=some (slice x_65 x_66 x_67) /\
 ∃ x_68 x_69 x_70,cell? w' (add (mk g_2 0 none) 7)=some (slice x_68 x_69 x_70)/\∃ x_71 x_72 x_73,cell? w' (add (mk g_2 0 none) 8)=some (slice x_71 x_72 x_73)/\∃ x_74,
 cell? w' (add (mk g_2 0 none) 9)=some (int i64 x_74)/\∃ x_75,cell? w' (add (mk g_1 0 none) 2)=some (int i64 x_75)/\CallsV Tryz.prog 112 #[agg #[int i64 x,int i64
 x_54,int i64 x_55,slice x_56 x_57 x_58,slice x_59 x_60 x_61,slice x_62 x_63 x_64,slice x_65 x_66 x_67,slice x_68 x_69 x_70,slice x_71 x_72 x_73,int i64 x_74],int i64 x_75] w' fun v w'=>∃ x,
 v=bool x/\bif x then ∃ ad,some (mk g_3 0 none)=some ad/\((0: Int)<=2/\2<(↑4:Int))/\∃ x,cell? w' (add ad (Int.toNat (2: Int)*1))=some (bool x)/\bif x then
 ∃ ad,some (mk g_3 0 none)=some ad/\((0: Int)<=3/\3<(↑4:Int))/\∃ x,cell? w' (add ad (Int.toNat (3: Int)*1))=some (bool x)/\K (bool x) w' else K (bool
 false) w' else K (bool false) w' else K (bool false) w' else bif decide (x=31) then ∃ x,cell? w (add (mk g_2 0 none) 0)=some (int i64 x)/\∃ x_32,cell? w
 (add (mk g_2 0 none) 1)=some (int i64 x_32)/\∃ x_33,cell? w (add (mk g_2 0 none) 2)=some (int i64 x_33)/\∃ x_34 x_35 x_36,cell? w (add (mk g_2 0 none) 3) =
 some (slice x_34 x_35 x_36)/\∃ x_37 x_38 x_39,cell? w (add (mk g_2 0 none) 4)=some (slice x_37 x_38 x_39)/\∃ x_40 x_41 x_42,cell? w (add (mk g_2 0 none) 5) =
 some (slice x_40 x_41 x_42)/\∃ x_43 x_44 x_45,cell? w (add (mk g_2 0 none) 6)=some (slice x_43 x_44 x_45)/\∃ x_46 x_47 x_48,cell? w (add (mk g_2 0 none) 7) =
 some (slice x_46 x_47 x_48)/\∃ x_49 x_50 x_51,cell? w (add (mk g_2 0 none) 8)=some (slice x_49 x_50 x_51)/\∃ x_52,cell? w (add (mk g_2 0 none) 9)=some (int
 i64 x_52)/\∃ x_53,cell? w (add (mk g_1 0 none) 1)=some (int i64 x_53)/\CallsV Tryz.prog 113 #[agg #[int i64 x,int i64 x_32,int i64 x_33,slice x_34 x_35 x_36,slice x_37 x_38 x_39,
 slice x_40 x_41 x_42,slice x_43 x_44 x_45,slice x_46 x_47 x_48,slice x_49 x_50 x_51,int i64 x_52],int i64 x_53] w fun v w'=>∃ x,v=bool x/\bif x then ∃ x x_54 x_55,cell? w' (add (mk g 0
 none) 4)=some (slice x x_54 x_55)/\∃ x_56,cell? w' (add (mk g_1 0 none) 1)=some (int i64 x_56)/\∃ ad,x=some ad/\(0<=x_56/\x_56<(x_54:Int))/\∃ x,
 cell? w' (add (add ad (Int.toNat x_56*3)) 0)=some (int u8 x)/\bif decide (x=2) then ∃ ad,some (mk g_3 0 none)=some ad/\((0: Int)<=1/\1<(↑4:Int)) /\
 ∃ x,cell? w' (add ad (Int.toNat (1: Int)*1))=some (bool x)/\bif x then ∃ ad,some (mk g_3 0 none)=some ad/\((0: Int)<=2/\2<(↑4:Int))/\∃ x,cell? w' (add ad
 (Int.toNat (2: Int)*1))=some (bool x)/\bif x then ∃ ad,some (mk g_3 0 none)=some ad/\((0: Int)<=3/\3<(↑4:Int))/\∃ x,cell? w' (add ad (Int.toNat (3: Int) *
 1))=some (bool x)/\bif x then bif decide (atx=0) then ∃ x x_57 x_58,cell? w' (add (mk g 0 none) 8)=some (slice x x_57 x_58)/\K (bool (decide ((x_57 :
 Int)=2))) w' else K (bool false) w' else K (bool false) w' else K (bool false) w' else K (bool false) w' else K (bool false) w' else K (bool false) w' else ∃ (J:Bool ->
 World->Prop),(∀ x_32 w,J x_32 w->bif x_32 then ∃ ad,some (mk g_3 0 none)=some ad/\((0: Int)<=0/\0<(↑4:Int))/\∃ x,cell? w (add ad (Int.toNat (0: Int)*1)) =
 some (bool x)/\bif x then ∃ ad,some (mk g_3 0 none)=some ad/\((0: Int)<=1/\1<(↑4:Int))/\∃ x,cell? w (add ad (Int.toNat (1: Int)*1))=some (bool x) /\
 bif x then ∃ ad,some (mk g_3 0 none)=some ad/\((0: Int)<=2/\2<(↑4:Int))/\∃ x,cell? w (add ad (Int.toNat (2: Int)*1))=some (bool x)/\bif x then ∃ ad,
 some (mk g_3 0 none)=some ad/\((0: Int)<=3/\3<(↑4:Int))/\∃ x,cell? w (add ad (Int.toNat (3: Int)*1))=some (bool x)/\bif x then bif decide (atx=0)
 then ∃ x x_33 x_34,cell? w (add (mk g 0 none) 8)=some (slice x x_33 x_34)/\K (bool (decide ((x_33:Int)=2))) w else K (bool false) w else K (bool false) w else
 K (bool false) w else K (bool false) w else K (bool false) w else bif decide (x=35) then ∃ ad,some (mk g_3 0 none)=some ad/\((0: Int)<=0/\0<(↑4 :
 Int))/\∃ x,cell? w (add ad (Int.toNat (0: Int)*1))=some (bool x)/\bif x then ∃ ad,some (mk g_3 0 none)=some ad/\((0: Int)<=1/\1<(↑4:Int))/\∃ x,cell? w
 (add ad (Int.toNat (1: Int)*1))=some (bool x)/\bif x then ∃ ad,some (mk g_3 0 none)=some ad/\((0: Int)<=2/\2<(↑4:Int))/\∃ x,cell? w (add ad (Int.toNat (2:
 Int)*1))=some (bool x)/\bif x then ∃ ad,some (mk g_3 0 none)=some ad/\((0: Int)<=3/\3<(↑4:Int))/\∃ x,cell? w (add ad (Int.toNat (3: Int)*1))=some
 (bool x)/\K (bool x) w else K (bool false) w else K (bool false) w else K (bool false) w else K (bool false) w)/\bif decide (x=32) then J (decide (x=32)) w
 else bif decide (x=33) then J (decide (x=33)) w else J (decide (x=34)) w)/\bif decide (x=14) then J (decide (x=14)) w else J
 (decide (x=16)) w)/\bif decide (x=5) then J (decide (x=5)) w'_3 else bif decide (x=6) then J (decide (x=6)) w'_3 else J (decide (x
 = 7)) w'_3
theorem cardindexref15_instr.calls (ok:Okay Tryz.prog) {p0 p1 p2 p3_A p3_n p3_c p4_A p4_n p4_c p5_A p5_n p5_c p6_A p6_n p6_c p7_A p7_n p7_c p8_A p8_n p8_c atx w K} (h:cardindexref15_instr.W p0 p1 p2 p3_A p3_n p3_c p4_A p4_n p4_c p5_A p5_n p5_c p6_A p6_n p6_c p7_A p7_n p7_c p8_A p8_n p8_c atx w K):CallsV Tryz.prog 60 #[.agg #[.int .i64 p0,.int .i64 p1,.int .i64 p2,.slice p3_A p3_n p3_c,.slice p4_A p4_n p4_c,.slice p5_A p5_n p5_c,.slice p6_A p6_n p6_c,.slice p7_A p7_n p7_c,.slice p8_A p8_n p8_c],.int .i64 atx] w K :=
  fnW_calls ok Tryz.func60 (an:=(.named (.seq .auto (.seq .auto (.seq .auto (.seq .auto (.seq (.seq .auto (.block (.seq .auto (.cond .auto (.seq .auto (.cond .auto (.seq .auto (.cond .auto (.seq .auto (.cond .auto (.join [(123,.one .bool)] .auto (.cond .auto (.seq .auto (.cond .auto (.seq .auto (.cond .auto (.seq .auto (.cond .auto (.seq .auto (.cond .auto (.seq .auto (.cond .auto (.seq .auto (.cond .auto (.join [(294,.one .bool)] .auto (.cond .auto (.seq .auto (.cond .auto (.seq .auto (.cond .auto (.seq .auto (.cond .auto (.seq .auto (.cond .auto (.seq .auto (.cond .auto (.seq .auto (.cond .auto (.seq .auto (.cond .auto (.seq .auto (.cond .auto (.seq .auto (.cond .auto (.seq .auto (.cond .auto (.seq .auto (.cond .auto (.seq .auto (.cond .auto (.seq .auto (.cond .auto (.seq .auto (.cond .auto (.seq .auto (.cond .auto (.seq .auto (.cond .auto (.join [(717,.one .bool)] .auto .auto))))))))))))))))))))))))))))))))))))))))))))))))))))))))))) .auto))))))) (args:=[.agg #[.int .i64 p0,.int .i64 p1,.int .i64 p2,.slice p3_A p3_n p3_c,.slice p4_A p4_n p4_c,.slice p5_A p5_n p5_c,.slice p6_A p6_n p6_c,.slice p7_A p7_n p7_c,.slice p8_A p8_n p8_c],.int .i64 atx]) (Eq.mp (by kernel_rfl) h)
noncomputable def cardindexref15_Check.W:Int->Int->Int->Option Addr->Nat->Nat->Option Addr->Nat->Nat->Option Addr->Nat->Nat->Option Addr->Nat->Nat->Option Addr->Nat->Nat->Option
 Addr->Nat->Nat->World->(Value->World->Prop)->Prop:=fun p0 p1 p2 p3_A p3_n p3_c p4_A p4_n p4_c p5_A p5_n p5_c p6_A p6_n p6_c p7_A p7_n p7_c p8_A p8_n p8_c w K=>∀ g w',Fresh w g w' [int i64
 p0,int i64 p1,int i64 p2,slice p3_A p3_n p3_c,slice p4_A p4_n p4_c,slice p5_A p5_n p5_c,slice p6_A p6_n p6_c,slice p7_A p7_n p7_c,slice p8_A p8_n p8_c] 29->∃ x,cell? w' (add (mk g 0
 none) 0)=some (int i64 x)/\CallsV Tryz.prog 57 #[int i64 x,int i64 1,int i64 1099511627777] w' fun v w'=>∃ x,v=bool x/\bif !x then K (int i64 140) w' else ∃ x,cell? w' (add
 (mk g 0 none) 1)=some (int i64 x)/\CallsV Tryz.prog 57 #[int i64 x,int i64 1,int i64 251] w' fun v w'=>∃ x,v=bool x/\bif !x then K (int i64 140) w' else ∃ x,cell? w' (add (mk
 g 0 none) 2)=some (int i64 x)/\CallsV Tryz.prog 57 #[int i64 x,int i64 0,int i64 1001] w' fun v w'=>∃ x,v=bool x/\bif !x then K (int i64 140) w' else ∃ x x_1 x_2,cell? w' (add
 (mk g 0 none) 3)=some (slice x x_1 x_2)/\bif decide (200<(x_1:Int)) then K (int i64 140) w' else ∃ x x_3 x_4,cell? w' (add (mk g 0 none) 4)=some (slice x
 x_3 x_4)/\bif decide (1000<(x_3:Int)) then K (int i64 140) w' else ∃ x x_5 x_6,cell? w' (add (mk g 0 none) 5)=some (slice x x_5 x_6)/\bif decide (12<(x_5 :
 Int)) then K (int i64 140) w' else ∃ x x_7 x_8,cell? w' (add (mk g 0 none) 6)=some (slice x x_7 x_8)/\bif decide (6<(x_7:Int)) then K (int i64 140) w' else ∃ x x_9 x_10,
 cell? w' (add (mk g 0 none) 7)=some (slice x x_9 x_10)/\bif decide (60<(x_9:Int)) then K (int i64 140) w' else ∃ x x_11 x_12,cell? w' (add (mk g 0 none) 8) =
 some (slice x x_11 x_12)/\bif decide ((x_11:Int)<1) then K (int i64 140) w' else ∃ x x_13 x_14,cell? w' (add (mk g 0 none) 8)=some (slice x x_13 x_14)/\bif
 decide (4000<(x_13:Int)) then K (int i64 140) w' else ∃ (I:Int->World->Prop) (μ:Int->World->Nat),I 0 w'/\∀ x w,I x w->∃ x_15 x_16 x_17,cell? w (add (mk g 0 none) 3) =
 some (slice x_15 x_16 x_17)/\bif decide (x<(x_16:Int)) then ∃ x_18 x_19 x_20,cell? w (add (mk g 0 none) 3)=some (slice x_18 x_19 x_20)/\∃ ad,x_18=some
 ad/\(0<=x/\x<(x_19:Int))/\∃ (x_21:ByteArray),cell? w (add ad (Int.toNat x*1))=some (string x_21)/\bif decide (200<(↑(ByteArray.size x_21):Int)) then K (int i64 140)
 w else I (wrap i64 (x+1)) w/\μ (wrap i64 (x+1)) w<μ x w else ∃ (I:Int->World->Prop) (μ:Int->World->Nat),I 0 w/\∀ x w,I x w->∃ x_18 x_19 x_20,cell? w (add (mk g 0 none) 4) =
 some (slice x_18 x_19 x_20)/\bif decide (x<(x_19:Int)) then ∃ x_21 x_22 x_23,cell? w (add (mk g 0 none) 4)=some (slice x_21 x_22 x_23)/\∃ ad,x_21=some
 ad/\(0<=x/\x<(x_22:Int))/\∃ x_24,cell? w (add (add ad (Int.toNat x*3)) 0)=some (int u8 x_24)/\∃ x_25,cell? w (add (add ad (Int.toNat x*3)) 1)=some (int i64 x_25)/\∃
 (x_26:ByteArray),cell? w (add (add ad (Int.toNat x*3)) 2)=some (string x_26)/\CallsV Tryz.prog 58 #[agg #[int u8 x_24,int i64 x_25,string x_26]] w fun v w'=>∃ x_27,v=bool x_27 /\
 bif !x_27 then K (int i64 140) w' else I (wrap i64 (x+1)) w'/\μ (wrap i64 (x+1)) w'<μ x w else ∃ (I:Int->World->Prop) (μ:Int->World->Nat),I 0 w/\∀ x w,I x w->∃ x_21 x_22 x_23,cell?
 w (add (mk g 0 none) 5)=some (slice x_21 x_22 x_23)/\bif decide (x<(x_22:Int)) then ∃ x_24 x_25 x_26,cell? w (add (mk g 0 none) 5)=some (slice x_24 x_25
 x_26)/\∃ ad,x_24=some ad/\(0<=x/\x<(x_25:Int))/\∃ (x_27:ByteArray),cell? w (add (add ad (Int.toNat x*3)) 0)=some (string x_27)/\∃ x_28,cell? w (add (add ad (Int.toNat
 x*3)) 1)=some (bool x_28)/\∃ x_29,cell? w (add (add ad (Int.toNat x*3)) 2)=some (bool x_29)/\∀ g w',Fresh w g w' [string (ByteArray.mk #[]),bool false,bool false]
 56->stOK (mk g 0 none) 0 [string x_27,bool x_28,bool x_29] w'/\∀ w'_1,w'_1=setAll (mk g 0 none) 0 [string x_27,bool x_28,bool x_29] w'->∃ (x_30:ByteArray),cell? w'_1 (add (mk
 g 0 none) 0)=some (string x_30)/\bif decide ((↑(ByteArray.size x_30):Int)<1) then K (int i64 140) w'_1 else ∃ (x_31:ByteArray),cell? w'_1 (add (mk g 0 none) 0)
 = some (string x_31)/\bif decide (200<(↑(ByteArray.size x_31):Int)) then K (int i64 140) w'_1 else ∃ x_32,cell? w'_1 (add (mk g 0 none) 1)=some (bool x_32)/\bif
 x_32 then ∃ x_33,cell? w'_1 (add (mk g 0 none) 2)=some (bool x_33)/\bif x_33 then K (int i64 140) w'_1 else I (wrap i64 (x+1)) w'_1/\μ (wrap i64 (x+1)) w'_1<μ x w else I (wrap
 i64 (x+1)) w'_1/\μ (wrap i64 (x+1)) w'_1<μ x w else ∃ (I:Int->World->Prop) (μ:Int->World->Nat),I 0 w/\∀ x w,I x w->∃ x_24 x_25 x_26,cell? w (add (mk g 0 none) 6) =
 some (slice x_24 x_25 x_26)/\bif decide (x<(x_25:Int)) then ∃ x_27 x_28 x_29,cell? w (add (mk g 0 none) 6)=some (slice x_27 x_28 x_29)/\∃ ad,x_27=some
 ad/\(0<=x/\x<(x_28:Int))/\∃ x_30 x_31 x_32,cell? w (add (add ad (Int.toNat x*3)) 0)=some (slice x_30 x_31 x_32)/\bif decide (30<(x_31:Int)) then K (int i64 140) w
 else ∃ x_33 x_34 x_35,cell? w (add (mk g 0 none) 6)=some (slice x_33 x_34 x_35)/\∃ ad,x_33=some ad/\(0<=x/\x<(x_34:Int))/\∃ x_36,cell? w (add (add ad (Int.toNat x *
 3)) 1)=some (int i64 x_36)/\CallsV Tryz.prog 57 #[int i64 x_36,int i64 1,int i64 61] w fun v w'=>∃ x_37,v=bool x_37/\bif !x_37 then K (int i64 140) w' else I (wrap i64 (x+1)) w'/\μ
 (wrap i64 (x+1)) w'<μ x w else ∃ (I:Int->World->Prop) (μ:Int->World->Nat),I 0 w/\∀ x w,I x w->∃ x_27 x_28 x_29,cell? w (add (mk g 0 none) 7)=some (slice x_27 x_28 x_29)
 /\ bif decide (x<(x_28:Int)) then ∃ (S:World->Prop),S (drew w)/\∃ x_30 x_31 x_32,(∀ u,S u->cell? u (add (mk g 0 none) 7)=some (slice x_30 x_31 x_32))/\∃ ad,x_30 =
 some ad/\(0<=x/\x<(x_31:Int))/\∃ (x_33:ByteArray),(∀ u,S u->cell? u (add (add ad (Int.toNat x*2)) 0)=some (string x_33))/\∃ x_34 x_35 x_36,(∀ u,S u->cell? u (add (mk
 g 0 none) 7)=some (slice x_34 x_35 x_36))/\∃ ad,x_34=some ad/\(0<=x/\x<(x_35:Int))/\∃ x_37,(∀ u,S u->cell? u (add (add ad (Int.toNat x*2)) 1)=some (bool
 x_37))/\CallsV Tryz.prog 59 #[string x_33,bool x_37] (drew w) fun v w'=>∃ x_38,v=int i64 x_38/\S w'/\bif !decide (x_38=0) then K (int i64 140) w' else I (wrap i64 (x+1)) w'/\μ
 (wrap i64 (x+1)) w'<μ x w else ∃ (I:Int->World->Prop) (μ:Int->World->Nat),I 0 w/\∀ x w,I x w->∃ x_30 x_31 x_32,cell? w (add (mk g 0 none) 8)=some (slice x_30 x_31 x_32)
 /\ bif decide (x<(x_31:Int)) then ∃ x_33,cell? w (add (mk g 0 none) 0)=some (int i64 x_33)/\∃ x_34,cell? w (add (mk g 0 none) 1)=some (int i64 x_34)/\∃
 x_35,cell? w (add (mk g 0 none) 2)=some (int i64 x_35)/\∃ x_36 x_37 x_38,cell? w (add (mk g 0 none) 3)=some (slice x_36 x_37 x_38)/\∃ x_39 x_40 x_41,cell? w (add
 (mk g 0 none) 4)=some (slice x_39 x_40 x_41)/\∃ x_42 x_43 x_44,cell? w (add (mk g 0 none) 5)=some (slice x_42 x_43 x_44)/\∃ x_45 x_46 x_47,cell? w (add (mk g 0
 none) 6)=some (slice x_45 x_46 x_47)/\∃ x_48 x_49 x_50,cell? w (add (mk g 0 none) 7)=some (slice x_48 x_49 x_50)/\∃ x_51 x_52 x_53,cell? w (add (mk g 0 none)
 8)=some (slice x_51 x_52 x_53)/\CallsV Tryz.prog 60 #[agg #[int i64 x_33,int i64 x_34,int i64 x_35,slice x_36 x_37 x_38,slice x_39 x_40 x_41,slice x_42 x_43 x_44,slice x_45 x_46 x_47,
 slice x_48 x_49 x_50,slice x_51 x_52 x_53],int i64 x] w fun v w'=>∃ x_54,v=bool x_54/\bif !x_54 then K (int i64 140) w' else I (wrap i64 (x+1)) w'/\μ (wrap i64 (x+1)) w'<μ x w else ∃ x
 x_33 x_34,cell? w (add (mk g 0 none) 8)=some (slice x x_33 x_34)/\∃ x_35 x_36 x_37,cell? w (add (mk g 0 none) 8)=some (slice x_35 x_36 x_37)/\∃ ad,x=some
 ad/\(0<=wrap i64 ((x_36:Int)-1)/\wrap i64 ((x_36:Int)-1)<(x_33:Int))/\∃ x,cell? w (add (add ad (Int.toNat (wrap i64 ((x_36:Int)-1))*5)) 0)=some (int u8 x)/\bif
 !decide (x=35) then K (int i64 140) w else K (int i64 0) w
theorem cardindexref15_Check.calls (ok:Okay Tryz.prog) {p0 p1 p2 p3_A p3_n p3_c p4_A p4_n p4_c p5_A p5_n p5_c p6_A p6_n p6_c p7_A p7_n p7_c p8_A p8_n p8_c w K} (h:cardindexref15_Check.W p0 p1 p2 p3_A p3_n p3_c p4_A p4_n p4_c p5_A p5_n p5_c p6_A p6_n p6_c p7_A p7_n p7_c p8_A p8_n p8_c w K):CallsV Tryz.prog 20 #[.agg #[.int .i64 p0,.int .i64 p1,.int .i64 p2,.slice p3_A p3_n p3_c,.slice p4_A p4_n p4_c,.slice p5_A p5_n p5_c,.slice p6_A p6_n p6_c,.slice p7_A p7_n p7_c,.slice p8_A p8_n p8_c]] w K :=
  fnW_calls ok Tryz.func20 (an:=(.named (.seq .auto (.seq .auto (.seq (.seq .auto (.block (.loop [(3,.one (.int .i64))] .auto))) (.seq (.seq .auto (.block (.loop [(4,.one (.int .i64))] .auto))) (.seq (.seq .auto (.block (.loop [(5,.one (.int .i64))] .auto))) (.seq (.seq .auto (.block (.loop [(7,.one (.int .i64))] .auto))) (.seq (.seq .auto (.block (.loop [(8,.one (.int .i64))] .auto))) (.seq (.seq .auto (.block (.loop [(9,.one (.int .i64))] .auto))) .auto)))))))))) (args:=[.agg #[.int .i64 p0,.int .i64 p1,.int .i64 p2,.slice p3_A p3_n p3_c,.slice p4_A p4_n p4_c,.slice p5_A p5_n p5_c,.slice p6_A p6_n p6_c,.slice p7_A p7_n p7_c,.slice p8_A p8_n p8_c]]) (Eq.mp (by kernel_rfl) h)
noncomputable def cardindexref02_Known.W:ByteArray->Int->World->(Value->World->Prop)->Prop:=fun name args w K=>∃ (J:Bool->World->Prop),(∀ x w,J x w->bif x then K (bool
 (decide (args=1))) w else ∃ (J:Bool->World->Prop),(∀ x w,J x w->bif x then K (bool (decide (args=2))) w else bif ByteArray.toList name == ByteArray.toList (ByteArray.mk
 #[(115:UInt8),(117:UInt8),(98:UInt8),(115:UInt8),(116:UInt8),(114:UInt8)]) then bif decide (args=2) then K (bool true) w else K (bool (decide (args=3))) w
 else bif ByteArray.toList name == ByteArray.toList (ByteArray.mk #[(99:UInt8),(111:UInt8),(97:UInt8),(108:UInt8),(101:UInt8),(115:UInt8),(99:UInt8),(101:UInt8)]) then bif
 decide (2<=args) then K (bool (decide (args<=100))) w else K (bool false) w else K (bool false) w)/\bif ByteArray.toList name == ByteArray.toList (ByteArray.mk #[(105 :
 UInt8),(102:UInt8),(110:UInt8),(117:UInt8),(108:UInt8),(108:UInt8)]) then J (ByteArray.toList name == ByteArray.toList (ByteArray.mk #[(105:UInt8),(102:UInt8),(110:UInt8),(117 :
 UInt8),(108:UInt8),(108:UInt8)])) w else J (ByteArray.toList name == ByteArray.toList (ByteArray.mk #[(105:UInt8),(110:UInt8),(115:UInt8),(116:UInt8),(114:UInt8)])) w)/\bif
 ByteArray.toList name == ByteArray.toList (ByteArray.mk #[(108:UInt8),(101:UInt8),(110:UInt8),(103:UInt8),(116:UInt8),(104:UInt8)]) then J (ByteArray.toList name == ByteArray.toList
 (ByteArray.mk #[(108:UInt8),(101:UInt8),(110:UInt8),(103:UInt8),(116:UInt8),(104:UInt8)])) w else bif ByteArray.toList name == ByteArray.toList (ByteArray.mk #[(117:UInt8),(112 :
 UInt8),(112:UInt8),(101:UInt8),(114:UInt8)]) then J (ByteArray.toList name == ByteArray.toList (ByteArray.mk #[(117:UInt8),(112:UInt8),(112:UInt8),(101:UInt8),(114:UInt8)])) w
 else bif ByteArray.toList name == ByteArray.toList (ByteArray.mk #[(108:UInt8),(111:UInt8),(119:UInt8),(101:UInt8),(114:UInt8)]) then J (ByteArray.toList name == ByteArray.toList
 (ByteArray.mk #[(108:UInt8),(111:UInt8),(119:UInt8),(101:UInt8),(114:UInt8)])) w else bif ByteArray.toList name == ByteArray.toList (ByteArray.mk #[(97:UInt8),(98:UInt8),(115 :
 UInt8)]) then J (ByteArray.toList name == ByteArray.toList (ByteArray.mk #[(97:UInt8),(98:UInt8),(115:UInt8)])) w else bif ByteArray.toList name == ByteArray.toList (ByteArray.mk #[(116 :
 UInt8),(121:UInt8),(112:UInt8),(101:UInt8),(111:UInt8),(102:UInt8)]) then J (ByteArray.toList name == ByteArray.toList (ByteArray.mk #[(116:UInt8),(121:UInt8),(112:UInt8),(101 :
 UInt8),(111:UInt8),(102:UInt8)])) w else J (ByteArray.toList name == ByteArray.toList (ByteArray.mk #[(104:UInt8),(101:UInt8),(120:UInt8)])) w
theorem cardindexref02_Known.calls (ok:Okay Tryz.prog) {name args w K} (h:cardindexref02_Known.W name args w K):CallsV Tryz.prog 115 #[.string name,.int .i64 args] w K :=
  fnW_calls ok Tryz.func115 (an:=(.named (.seq .auto (.seq (.seq .auto (.block (.join [(6,.one .bool)] .auto (.cond .auto (.join [(15,.one .bool)] .auto .auto))))) .auto)))) (args:=[.string name,.int .i64 args]) (Eq.mp (by kernel_rfl) h)
noncomputable def cardindexref08_New.W:ByteArray->Bool->World->(Value->World->Prop)->Prop:=fun name distinct w K=>CallsV Tryz.prog 111 #[string name] w fun v w'=>∃ x,v=bool x/\bif !x
 then K (int i64 21) w' else bif distinct then bif ByteArray.toList name == ByteArray.toList (ByteArray.mk #[(99:UInt8),(111:UInt8),(117:UInt8),(110:UInt8),(116:UInt8),(42:UInt8)]) then
 K (int i64 2) w' else K (int i64 0) w' else K (int i64 0) w'
theorem cardindexref08_New.calls (ok:Okay Tryz.prog) {name distinct w K} (h:cardindexref08_New.W name distinct w K):CallsV Tryz.prog 59 #[.string name,.bool distinct] w K :=
  fnW_calls ok Tryz.func59 (an:=(.named .auto)) (args:=[.string name,.bool distinct]) (Eq.mp (by kernel_rfl) h)
noncomputable def cardindexref08_Known.W:ByteArray->World->(Value->World->Prop)->Prop:=fun name w K=>bif ByteArray.toList name == ByteArray.toList (ByteArray.mk #[(99:UInt8),(111 :
 UInt8),(117:UInt8),(110:UInt8),(116:UInt8)]) then K (bool true) w else bif ByteArray.toList name == ByteArray.toList (ByteArray.mk #[(99:UInt8),(111:UInt8),(117:UInt8),(110 :
 UInt8),(116:UInt8),(42:UInt8)]) then K (bool true) w else bif ByteArray.toList name == ByteArray.toList (ByteArray.mk #[(115:UInt8),(117:UInt8),(109:UInt8)]) then K (bool true)
 w else bif ByteArray.toList name == ByteArray.toList (ByteArray.mk #[(116:UInt8),(111:UInt8),(116:UInt8),(97:UInt8),(108:UInt8)]) then K (bool true) w else bif ByteArray.toList name
 == ByteArray.toList (ByteArray.mk #[(109:UInt8),(105:UInt8),(110:UInt8)]) then K (bool true) w else bif ByteArray.toList name == ByteArray.toList (ByteArray.mk #[(109:UInt8),(97 :
 UInt8),(120:UInt8)]) then K (bool true) w else K (bool (ByteArray.toList name == ByteArray.toList (ByteArray.mk #[(103:UInt8),(114:UInt8),(111:UInt8),(117:UInt8),(112:UInt8),(95
 : UInt8),(99:UInt8),(111:UInt8),(110:UInt8),(99:UInt8),(97:UInt8),(116:UInt8)]))) w
theorem cardindexref08_Known.calls (ok:Okay Tryz.prog) {name w K} (h:cardindexref08_Known.W name w K):CallsV Tryz.prog 111 #[.string name] w K :=
  fnW_calls ok Tryz.func111 (an:=(.named .auto)) (args:=[.string name]) (Eq.mp (by kernel_rfl) h)
noncomputable def code_Sign.W:Int->World->(Value->World->Prop)->Prop:=fun d w K=>CallsV Tryz.prog 56 #[string (ByteArray.mk #[(43:UInt8),(32:UInt8),(45:UInt8),(32:UInt8),(42 :
 UInt8),(32:UInt8),(47:UInt8),(32:UInt8),(37:UInt8),(32:UInt8),(124:UInt8),(124:UInt8),(32:UInt8),(61:UInt8),(32:UInt8),(60:UInt8),(62:UInt8),(32:UInt8),(60 :
 UInt8),(32:UInt8),(60:UInt8),(61:UInt8),(32:UInt8),(62:UInt8),(32:UInt8),(62:UInt8),(61:UInt8),(32:UInt8),(97:UInt8),(110:UInt8),(100:UInt8),(32:UInt8),(111 :
 UInt8),(114:UInt8),(32:UInt8),(108:UInt8),(105:UInt8),(107:UInt8),(101:UInt8)]),int i64 d] w fun v w'=>∃ (x:ByteArray) (x_1:Bool),v=tuple #[string x,bool x_1]/\K (tuple
 #[string x,bool x_1]) w'
theorem code_Sign.calls (ok:Okay Tryz.prog) {d w K} (h:code_Sign.W d w K):CallsV Tryz.prog 16 #[.int .i64 d] w K :=
  fnW_calls ok Tryz.func16 (an:=(.named .auto)) (args:=[.int .i64 d]) (Eq.mp (by kernel_rfl) h)
end Go.Proofs.YtaifphjenebgoaaGreatDoor
set_option linter.unusedVariables false
set_option linter.unusedSimpArgs false
namespace R1
open Go.Sx
structure V where
  k:Int
  n:Int
  s:ByteArray
def right (v:V):Bool :=
  if v.k=0 then decide (v.n=0/\v.s.size=0) else if v.k=1 then decide (v.s.size=0) else if v.k=2\/v.k=3 then decide (v.n=0/\v.s.size<=65536) else false
def good (v:V):Prop:=(0<=v.k/\v.k<=255)/\(-9223372036854775808<=v.n/\v.n<=9223372036854775807)/\v.s.size<=Go.maxLen
def rightRow (l:List V):Int:=if 200<l.length then 3 else if l.all right then 0 else 2
/-! ## numbers -/
def fits (n:Int) (k:Nat):Bool:=decide (-(2 ^ (8*k-1):Nat)<=n/\n<(2 ^ (8*k-1):Nat))
def wideFrom (n:Int):Nat->Nat->Nat
  | 0,k=>k
  | f+1,k=>if fits n k then k else wideFrom n f (k+1)
def wide (n:Int):Nat:=wideFrom n 7 1
theorem wideFrom_le (n:Int):∀ f k,k<=wideFrom n f k/\wideFrom n f k<=f+k
  | 0,k=>by simp [wideFrom]
  | f+1,k=>by
    have:=wideFrom_le n f (k+1)
    unfold wideFrom;split<;>omega
theorem wide_pos (n:Int) : 1<=wide n:=(wideFrom_le n 7 1).1
theorem wide_le (n:Int):wide n<=8:=(wideFrom_le n 7 1).2
def hi (m:Nat):Nat->List UInt8
  | 0=>[]
  | k+1=>(m / 256 ^ k % 256).toUInt8::hi m k
theorem hi_length (m:Nat):∀ k,(hi m k).length=k
  | 0=>rfl
  | k+1=>by simp [hi,hi_length m k]
/-! ## keys -/
def esc:List UInt8->List UInt8
  | []=>[]
  | c::r=>if c=0 then 0::255::esc r else c::esc r
def kpart (v:V):List UInt8 :=
  if v.k=0 then [1] else if v.k=1 then 2::hi (v.n+9223372036854775808).toNat 8 else (if v.k=2 then 3 else 4)::esc (sb v.s)++[0,0]
def tn (d:Bool) (l:List UInt8):List UInt8:=if d then l.map (fun b=>~~~b) else l
def key:List V->List Bool->List UInt8
  | v::vs,d::ds=>tn d (kpart v)++key vs ds
  | _,_=>[]
/-! ## rows -/
def sort (v:V):Nat:=if v.k=1 then wide v.n else if v.k=3 then 2*v.s.size+10 else if v.k=2 then 2*v.s.size+11 else 0
def body (v:V):List UInt8:=(if v.k=1 then hi (v.n % 18446744073709551616).toNat (wide v.n) else [])++sb v.s
theorem right_size {v:V} (h:right v=true):v.s.size<=65536:=by
  unfold right at h
  split at h
  · have:=of_decide_eq_true h;omega
  · split at h
    · have:=of_decide_eq_true h;omega
    · split at h
      · have:=of_decide_eq_true h;omega
      · cases h
end R1
set_option linter.unusedVariables false
set_option linter.unusedSimpArgs false
namespace K15
open Go.Sx R1
structure Cur where
  name:ByteArray
  ix:Bool
  wr:Bool
structure Srt where
  desc:List Bool
  cols:Int
  dist:Bool
structure Tot where
  fn:ByteArray
  dist:Bool
structure Ins where
  op:Int
  a:Int
  b:Int
  c:Int
  d:Int
structure Prog where
  ver:Int
  regs:Int
  binds:Int
  names:List ByteArray
  consts:List V
  curs:List Cur
  sorts:List Srt
  tots:List Tot
  code:List Ins
def C0:Cur:=⟨ByteArray.empty,false,false⟩
def S0:Srt:=⟨[],0,false⟩
def I0:Ins:=⟨0,0,0,0,0⟩
def within (n low high:Int):Bool:=decide (low<=n) && decide (n<=high)
def longN (s:ByteArray):Bool:=decide (200<s.size)
def wrongV (v:V):Bool:=!right v
def badCur (c:Cur):Bool:=decide (c.name.size=0) || (decide (200<c.name.size) || (c.ix && c.wr))
def badSrt (s:Srt):Bool:=decide (30<s.desc.length) || !within s.cols 1 60
def knownT (n:List UInt8):Bool:=decide (n=[99,111,117,110,116]\/n=[99,111,117,110,116,42]\/n=[115,117,109]\/n=[116,111,116,97,108]\/n=[109,105,110]\/n=[109,97,120]\/n=[103,114,111,117,112,95,99,111,110,99,97,116])
def newT (n:List UInt8) (d:Bool):Int:=if knownT n then (if d && decide (n=[99,111,117,110,116,42]) then 2 else 0) else 21
def badTot (t:Tot):Bool:=!decide (newT (sb t.fn) t.dist=0)
def partsP (p:Prog):Bool :=
  within p.ver 1 1099511627776 && (within p.regs 1 250 && (within p.binds 0 1000 && (decide (p.names.length<=200) && (decide (p.consts.length<=1000) && (decide (p.curs.length<=12) && (decide (p.sorts.length<=6) && (decide (p.tots.length<=60) &&
  (!p.names.any longN && (!p.consts.any wrongV && (!p.curs.any badCur && (!p.sorts.any badSrt && !p.tots.any badTot)))))))))))
end K15
set_option linter.unusedVariables false
set_option linter.unusedSimpArgs false
namespace K15
open Go.Sx R1
def below (n high:Int):Bool:=decide (0<=n) && decide (n<high)
def curAt (p:Prog) (n:Int):Cur:=p.curs.getD n.toNat C0
def constAt (p:Prog) (n:Int):V:=p.consts.getD n.toNat ⟨0,0,ByteArray.empty⟩
def fieldP (p:Prog) (t l n:Int):Bool :=
  if l=45 then decide (n=0)
  else if l=114 then below n p.regs
  else if l=107 then below n p.consts.length
  else if l=98 then below n p.binds
  else if l=115 then below n p.sorts.length
  else if l=116 then below n p.tots.length
  else if l=99 then below n p.curs.length
  else if l=50 then below n 15
  else if l=49 then below n 2
  else if l=102 then below n 10
  else if l=120 then below n 60
  else if l=106 then decide (t<n) && decide (n<p.code.length)
  else if l=110 then decide (1<=n) && decide (n<=t)
  else if l=109 then decide (1<=n) && decide (n<=p.regs)
  else if l=105 then below n p.curs.length && (curAt p n).ix
  else if l=108 then below n p.curs.length && !(curAt p n).ix
  else if l=119 then below n p.curs.length && (!(curAt p n).ix && (curAt p n).wr)
  else if l=113 then below n p.consts.length && decide ((constAt p n).k=2)
  else false
def shapes:List (Int×List UInt8):=[(1,[114,107,45,45]),(2,[114,98,45,45]),(3,[114,114,45,45]),(4,[114,114,114,50]),(5,[114,114,45,49]),(6,[114,114,45,49]),(7,[114,114,45,49]),(8,[114,114,109,102]),(9,[114,45,45,49]),(10,[106,45,45,45]),(11,[106,114,45,45]),(12,[106,114,114,109]),(13,[99,106,45,45]),(14,[105,106,114,109]),(15,[99,110,45,45]),(16,[105,106,114,109]),(17,[108,106,114,45]),(18,[114,99,120,45]),(19,[114,99,45,45]),(20,[115,114,114,45]),(21,[115,106,45,45]),(22,[115,110,45,45]),(23,[114,115,120,45]),(24,[116,45,45,45]),(25,[116,114,45,45]),(26,[114,116,45,45]),(27,[114,45,45,45]),(28,[114,119,45,45]),(29,[119,114,114,45]),(30,[119,114,45,45]),(31,[113,45,45,45]),(32,[45,45,45,45]),(33,[45,45,45,45]),(34,[45,45,45,45]),(35,[45,45,45,45])]
def lookS:List (Int×List UInt8)->Int->List UInt8
  | [],_=>[]
  | (k,l)::r,o=>if o=k then l else lookS r o
def shapeP (o:Int):List UInt8:=lookS shapes o
def letters:List Int:=[45,114,107,98,115,116,99,50,49,102,120,106,110,109,105,108,119,113]
def srtAt (p:Prog) (n:Int):Srt:=p.sorts.getD n.toNat S0
def fieldsL (p:Prog) (t:Int) (i:Ins):List UInt8->Bool
  | [x,y,z,u]=>fieldP p t x.toNat i.a && (fieldP p t y.toNat i.b && (fieldP p t z.toNat i.c && fieldP p t u.toNat i.d))
  | _=>false
def fieldsP (p:Prog) (t:Int) (i:Ins):Bool:=fieldsL p t i (shapeP i.op)
def fnNames:List (List UInt8):=[[108,101,110,103,116,104],[117,112,112,101,114],[108,111,119,101,114],[97,98,115],[116,121,112,101,111,102],[104,101,120],[105,102,110,117,108,108],[105,110,115,116,114],[115,117,98,115,116,114],[99,111,97,108,101,115,99,101]]
def knownF (n:List UInt8) (c:Int):Bool :=
  if n=[108,101,110,103,116,104]\/n=[117,112,112,101,114]\/n=[108,111,119,101,114]\/n=[97,98,115]\/n=[116,121,112,101,111,102]\/n=[104,101,120] then decide (c=1)
  else if n=[105,102,110,117,108,108]\/n=[105,110,115,116,114] then decide (c=2)
  else if n=[115,117,98,115,116,114] then decide (c=2) || decide (c=3)
  else if n=[99,111,97,108,101,115,99,101] then decide (2<=c) && decide (c<=100) else false
def fnAt (d:Int):List UInt8:=if d<0\/(fnNames.length:Int)<=d then [] else fnNames.getD d.toNat []
def fitsP (p:Prog) (f m:Int):Bool:=decide (m<=p.regs-f)
def runsP (p:Prog) (t:Int) (i:Ins):Bool :=
  if i.op=8 then decide (i.c<=100) && (fitsP p i.b i.c && knownF (fnAt i.d) i.c)
  else if i.op=12 then fitsP p i.b i.d && fitsP p i.c i.d
  else if i.op=14\/i.op=16 then fitsP p i.c i.d
  else if i.op=18 then decide (i.c<30)
  else if i.op=23 then decide (i.c<(srtAt p i.b).cols)
  else if i.op=20 then fitsP p i.b (srtAt p i.a).desc.length && fitsP p i.c (srtAt p i.a).cols
  else if i.op=27 then fitsP p i.a p.names.length
  else if i.op=31\/i.op=32\/i.op=33\/i.op=34 then decide (t=0) && decide (p.code.length=2)
  else true
def okAt (p:Prog) (t:Nat) (i:Ins):Bool:=fieldsP p t i && runsP p t i
def okFrom (p:Prog):Nat->List Ins->Bool
  | _,[]=>true
  | t,i::l=>okAt p t i && okFrom p (t+1) l
def checkP (p:Prog):Bool:=partsP p && (decide (1<=p.code.length) && (decide (p.code.length<=4000) && (decide ((p.code.getD (p.code.length-1) I0).op=35) && okFrom p 0 p.code)))
end K15
set_option linter.unusedVariables false
set_option linter.unusedSimpArgs false
namespace K15
open Go.Sx R1
theorem okFrom_at (p:Prog):∀ (l:List Ins) (s:Nat),okFrom p s l=true->∀ (t:Nat) (h:t<l.length),okAt p (s+t) l[t]=true
  | [],s,_,t,h=>by simp at h
  | i::l,s,ho,t,h=>by
    rw [okFrom,Bool.and_eq_true] at ho
    cases t with
    | zero=>exact ho.1
    | succ t =>
      have:=okFrom_at p l (s+1) ho.2 t (by simpa using h)
      rw [show s+(t+1)=s+1+t by omega]
      simpa using this
structure Checked (p:Prog):Prop where
  parts:partsP p=true
  lo : 1<=p.code.length
  hi:p.code.length<=4000
  last:(p.code.getD (p.code.length-1) I0).op=35
  at_:∀ (t:Nat) (h:t<p.code.length),okAt p t p.code[t]=true
theorem checked {p:Prog} (h:checkP p=true):Checked p:=by
  simp only [checkP,Bool.and_eq_true,decide_eq_true_eq] at h
  obtain ⟨h1,h2,h3,h4,h5⟩:=h
  exact ⟨h1,h2,h3,h4,fun t ht=>by have:=okFrom_at p p.code 0 h5 t ht;rwa [Nat.zero_add] at this⟩
end K15
set_option linter.unusedVariables false
set_option linter.unusedSimpArgs false
namespace K15
open Go.Sx R1
section
variable {p:Prog} {t:Int} {n:Nat} {i:Ins}
def inB (n low high:Int):Bool:=decide (low<=n) && decide (n<high)
def rB (p:Prog) (n:Int):Bool:=below n p.regs
def manyB (p:Prog) (n c:Int):Bool:=rB p n && decide (c<=p.regs-n)
def jB (p:Prog) (t n:Int):Bool:=decide (t<n) && decide (n<p.code.length)
def backB (t n:Int):Bool:=decide (1<=n) && decide (n<=t)
def cB (p:Prog) (n:Int):Bool:=below n p.curs.length
def ixB (p:Prog) (n:Int):Bool:=cB p n && (curAt p n).ix
def tabB (p:Prog) (n:Int):Bool:=cB p n && !(curAt p n).ix
def wrB (p:Prog) (n:Int):Bool:=tabB p n && (curAt p n).wr
def sB (p:Prog) (n:Int):Bool:=below n p.sorts.length
def tB (p:Prog) (n:Int):Bool:=below n p.tots.length
def kB (p:Prog) (n:Int):Bool:=below n p.consts.length
def zB (n:Int):Bool:=decide (n=0)
def okJ (p:Prog) (t:Int) (i:Ins):Bool:=fieldsP p t i && runsP p t i
theorem okJ_at:okAt p n i=okJ p (n:Int) i:=rfl
theorem okJ_1 (h:i.op=1):okJ p t i=(rB p i.a && (kB p i.b && (zB i.c && (zB i.d)))):=by
  unfold okJ fieldsP runsP
  rw [h]
  show ((fieldP p t _ i.a && (fieldP p t _ i.b && (fieldP p t _ i.c && fieldP p t _ i.d))) && _)=_
  rw [Bool.eq_iff_iff]
  simp [fieldP,fitsP,inB,rB,manyB,jB,backB,cB,ixB,tabB,wrB,sB,tB,kB,zB,below]
  try (constructor<;>intro h<;>simp_all<;>omega)
theorem okJ_2 (h:i.op=2):okJ p t i=(rB p i.a && (inB i.b 0 p.binds && (zB i.c && (zB i.d)))):=by
  unfold okJ fieldsP runsP
  rw [h]
  show ((fieldP p t _ i.a && (fieldP p t _ i.b && (fieldP p t _ i.c && fieldP p t _ i.d))) && _)=_
  rw [Bool.eq_iff_iff]
  simp [fieldP,fitsP,inB,rB,manyB,jB,backB,cB,ixB,tabB,wrB,sB,tB,kB,zB,below]
  try (constructor<;>intro h<;>simp_all<;>omega)
theorem okJ_3 (h:i.op=3):okJ p t i=(rB p i.a && (rB p i.b && (zB i.c && (zB i.d)))):=by
  unfold okJ fieldsP runsP
  rw [h]
  show ((fieldP p t _ i.a && (fieldP p t _ i.b && (fieldP p t _ i.c && fieldP p t _ i.d))) && _)=_
  rw [Bool.eq_iff_iff]
  simp [fieldP,fitsP,inB,rB,manyB,jB,backB,cB,ixB,tabB,wrB,sB,tB,kB,zB,below]
  try (constructor<;>intro h<;>simp_all<;>omega)
theorem okJ_4 (h:i.op=4):okJ p t i=(rB p i.a && (rB p i.b && (rB p i.c && (inB i.d 0 15)))):=by
  unfold okJ fieldsP runsP
  rw [h]
  show ((fieldP p t _ i.a && (fieldP p t _ i.b && (fieldP p t _ i.c && fieldP p t _ i.d))) && _)=_
  rw [Bool.eq_iff_iff]
  simp [fieldP,fitsP,inB,rB,manyB,jB,backB,cB,ixB,tabB,wrB,sB,tB,kB,zB,below]
  try (constructor<;>intro h<;>simp_all<;>omega)
theorem okJ_5 (h:i.op=5):okJ p t i=(rB p i.a && (rB p i.b && (zB i.c && (inB i.d 0 2)))):=by
  unfold okJ fieldsP runsP
  rw [h]
  show ((fieldP p t _ i.a && (fieldP p t _ i.b && (fieldP p t _ i.c && fieldP p t _ i.d))) && _)=_
  rw [Bool.eq_iff_iff]
  simp [fieldP,fitsP,inB,rB,manyB,jB,backB,cB,ixB,tabB,wrB,sB,tB,kB,zB,below]
  try (constructor<;>intro h<;>simp_all<;>omega)
theorem okJ_6 (h:i.op=6):okJ p t i=(rB p i.a && (rB p i.b && (zB i.c && (inB i.d 0 2)))):=by
  unfold okJ fieldsP runsP
  rw [h]
  show ((fieldP p t _ i.a && (fieldP p t _ i.b && (fieldP p t _ i.c && fieldP p t _ i.d))) && _)=_
  rw [Bool.eq_iff_iff]
  simp [fieldP,fitsP,inB,rB,manyB,jB,backB,cB,ixB,tabB,wrB,sB,tB,kB,zB,below]
  try (constructor<;>intro h<;>simp_all<;>omega)
theorem okJ_7 (h:i.op=7):okJ p t i=(rB p i.a && (rB p i.b && (zB i.c && (inB i.d 0 2)))):=by
  unfold okJ fieldsP runsP
  rw [h]
  show ((fieldP p t _ i.a && (fieldP p t _ i.b && (fieldP p t _ i.c && fieldP p t _ i.d))) && _)=_
  rw [Bool.eq_iff_iff]
  simp [fieldP,fitsP,inB,rB,manyB,jB,backB,cB,ixB,tabB,wrB,sB,tB,kB,zB,below]
  try (constructor<;>intro h<;>simp_all<;>omega)
theorem okJ_8 (h:i.op=8):okJ p t i=(rB p i.a && (inB i.c 1 101 && (manyB p i.b i.c && (below i.d 10 && (knownF (fnAt i.d) i.c))))):=by
  unfold okJ fieldsP runsP
  rw [h]
  show ((fieldP p t _ i.a && (fieldP p t _ i.b && (fieldP p t _ i.c && fieldP p t _ i.d))) && _)=_
  rw [Bool.eq_iff_iff]
  simp [fieldP,fitsP,inB,rB,manyB,jB,backB,cB,ixB,tabB,wrB,sB,tB,kB,zB,below]
  try (constructor<;>intro h<;>simp_all<;>omega)
theorem okJ_9 (h:i.op=9):okJ p t i=(rB p i.a && (zB i.b && (zB i.c && (inB i.d 0 2)))):=by
  unfold okJ fieldsP runsP
  rw [h]
  show ((fieldP p t _ i.a && (fieldP p t _ i.b && (fieldP p t _ i.c && fieldP p t _ i.d))) && _)=_
  rw [Bool.eq_iff_iff]
  simp [fieldP,fitsP,inB,rB,manyB,jB,backB,cB,ixB,tabB,wrB,sB,tB,kB,zB,below]
  try (constructor<;>intro h<;>simp_all<;>omega)
theorem okJ_10 (h:i.op=10):okJ p t i=(jB p t i.a && (zB i.b && (zB i.c && (zB i.d)))):=by
  unfold okJ fieldsP runsP
  rw [h]
  show ((fieldP p t _ i.a && (fieldP p t _ i.b && (fieldP p t _ i.c && fieldP p t _ i.d))) && _)=_
  rw [Bool.eq_iff_iff]
  simp [fieldP,fitsP,inB,rB,manyB,jB,backB,cB,ixB,tabB,wrB,sB,tB,kB,zB,below]
  try (constructor<;>intro h<;>simp_all<;>omega)
theorem okJ_11 (h:i.op=11):okJ p t i=(jB p t i.a && (rB p i.b && (zB i.c && (zB i.d)))):=by
  unfold okJ fieldsP runsP
  rw [h]
  show ((fieldP p t _ i.a && (fieldP p t _ i.b && (fieldP p t _ i.c && fieldP p t _ i.d))) && _)=_
  rw [Bool.eq_iff_iff]
  simp [fieldP,fitsP,inB,rB,manyB,jB,backB,cB,ixB,tabB,wrB,sB,tB,kB,zB,below]
  try (constructor<;>intro h<;>simp_all<;>omega)
theorem okJ_12 (h:i.op=12):okJ p t i=(jB p t i.a && (decide (1<=i.d) && (manyB p i.b i.d && (manyB p i.c i.d)))):=by
  unfold okJ fieldsP runsP
  rw [h]
  show ((fieldP p t _ i.a && (fieldP p t _ i.b && (fieldP p t _ i.c && fieldP p t _ i.d))) && _)=_
  rw [Bool.eq_iff_iff]
  simp [fieldP,fitsP,inB,rB,manyB,jB,backB,cB,ixB,tabB,wrB,sB,tB,kB,zB,below]
  try (constructor<;>intro h<;>simp_all<;>omega)
theorem okJ_13 (h:i.op=13):okJ p t i=(cB p i.a && (jB p t i.b && (zB i.c && (zB i.d)))):=by
  unfold okJ fieldsP runsP
  rw [h]
  show ((fieldP p t _ i.a && (fieldP p t _ i.b && (fieldP p t _ i.c && fieldP p t _ i.d))) && _)=_
  rw [Bool.eq_iff_iff]
  simp [fieldP,fitsP,inB,rB,manyB,jB,backB,cB,ixB,tabB,wrB,sB,tB,kB,zB,below]
  try (constructor<;>intro h<;>simp_all<;>omega)
theorem okJ_14 (h:i.op=14):okJ p t i=(ixB p i.a && (jB p t i.b && (decide (1<=i.d) && (manyB p i.c i.d)))):=by
  unfold okJ fieldsP runsP
  rw [h]
  show ((fieldP p t _ i.a && (fieldP p t _ i.b && (fieldP p t _ i.c && fieldP p t _ i.d))) && _)=_
  rw [Bool.eq_iff_iff]
  simp [fieldP,fitsP,inB,rB,manyB,jB,backB,cB,ixB,tabB,wrB,sB,tB,kB,zB,below]
  try (constructor<;>intro h<;>simp_all<;>omega)
theorem okJ_15 (h:i.op=15):okJ p t i=(cB p i.a && (backB t i.b && (zB i.c && (zB i.d)))):=by
  unfold okJ fieldsP runsP
  rw [h]
  show ((fieldP p t _ i.a && (fieldP p t _ i.b && (fieldP p t _ i.c && fieldP p t _ i.d))) && _)=_
  rw [Bool.eq_iff_iff]
  simp [fieldP,fitsP,inB,rB,manyB,jB,backB,cB,ixB,tabB,wrB,sB,tB,kB,zB,below]
  try (constructor<;>intro h<;>simp_all<;>omega)
theorem okJ_16 (h:i.op=16):okJ p t i=(ixB p i.a && (jB p t i.b && (decide (1<=i.d) && (manyB p i.c i.d)))):=by
  unfold okJ fieldsP runsP
  rw [h]
  show ((fieldP p t _ i.a && (fieldP p t _ i.b && (fieldP p t _ i.c && fieldP p t _ i.d))) && _)=_
  rw [Bool.eq_iff_iff]
  simp [fieldP,fitsP,inB,rB,manyB,jB,backB,cB,ixB,tabB,wrB,sB,tB,kB,zB,below]
  try (constructor<;>intro h<;>simp_all<;>omega)
theorem okJ_17 (h:i.op=17):okJ p t i=(tabB p i.a && (jB p t i.b && (rB p i.c && (zB i.d)))):=by
  unfold okJ fieldsP runsP
  rw [h]
  show ((fieldP p t _ i.a && (fieldP p t _ i.b && (fieldP p t _ i.c && fieldP p t _ i.d))) && _)=_
  rw [Bool.eq_iff_iff]
  simp [fieldP,fitsP,inB,rB,manyB,jB,backB,cB,ixB,tabB,wrB,sB,tB,kB,zB,below]
  try (constructor<;>intro h<;>simp_all<;>omega)
theorem okJ_18 (h:i.op=18):okJ p t i=(rB p i.a && (cB p i.b && (inB i.c 0 30 && (zB i.d)))):=by
  unfold okJ fieldsP runsP
  rw [h]
  show ((fieldP p t _ i.a && (fieldP p t _ i.b && (fieldP p t _ i.c && fieldP p t _ i.d))) && _)=_
  rw [Bool.eq_iff_iff]
  simp [fieldP,fitsP,inB,rB,manyB,jB,backB,cB,ixB,tabB,wrB,sB,tB,kB,zB,below]
  try (constructor<;>intro h<;>simp_all<;>omega)
theorem okJ_19 (h:i.op=19):okJ p t i=(rB p i.a && (cB p i.b && (zB i.c && (zB i.d)))):=by
  unfold okJ fieldsP runsP
  rw [h]
  show ((fieldP p t _ i.a && (fieldP p t _ i.b && (fieldP p t _ i.c && fieldP p t _ i.d))) && _)=_
  rw [Bool.eq_iff_iff]
  simp [fieldP,fitsP,inB,rB,manyB,jB,backB,cB,ixB,tabB,wrB,sB,tB,kB,zB,below]
  try (constructor<;>intro h<;>simp_all<;>omega)
theorem okJ_20 (h:i.op=20):okJ p t i=(sB p i.a && (manyB p i.b (srtAt p i.a).desc.length && (manyB p i.c (srtAt p i.a).cols && (zB i.d)))):=by
  unfold okJ fieldsP runsP
  rw [h]
  show ((fieldP p t _ i.a && (fieldP p t _ i.b && (fieldP p t _ i.c && fieldP p t _ i.d))) && _)=_
  rw [Bool.eq_iff_iff]
  simp [fieldP,fitsP,inB,rB,manyB,jB,backB,cB,ixB,tabB,wrB,sB,tB,kB,zB,below]
  try (constructor<;>intro h<;>simp_all<;>omega)
theorem okJ_21 (h:i.op=21):okJ p t i=(sB p i.a && (jB p t i.b && (zB i.c && (zB i.d)))):=by
  unfold okJ fieldsP runsP
  rw [h]
  show ((fieldP p t _ i.a && (fieldP p t _ i.b && (fieldP p t _ i.c && fieldP p t _ i.d))) && _)=_
  rw [Bool.eq_iff_iff]
  simp [fieldP,fitsP,inB,rB,manyB,jB,backB,cB,ixB,tabB,wrB,sB,tB,kB,zB,below]
  try (constructor<;>intro h<;>simp_all<;>omega)
theorem okJ_22 (h:i.op=22):okJ p t i=(sB p i.a && (backB t i.b && (zB i.c && (zB i.d)))):=by
  unfold okJ fieldsP runsP
  rw [h]
  show ((fieldP p t _ i.a && (fieldP p t _ i.b && (fieldP p t _ i.c && fieldP p t _ i.d))) && _)=_
  rw [Bool.eq_iff_iff]
  simp [fieldP,fitsP,inB,rB,manyB,jB,backB,cB,ixB,tabB,wrB,sB,tB,kB,zB,below]
  try (constructor<;>intro h<;>simp_all<;>omega)
theorem okJ_23 (hs:(srtAt p i.b).cols<=60) (h:i.op=23):okJ p t i=(rB p i.a && (sB p i.b && (inB i.c 0 (srtAt p i.b).cols && (zB i.d)))):=by
  unfold okJ fieldsP runsP
  rw [h]
  show ((fieldP p t _ i.a && (fieldP p t _ i.b && (fieldP p t _ i.c && fieldP p t _ i.d))) && _)=_
  rw [Bool.eq_iff_iff]
  simp [fieldP,fitsP,inB,rB,manyB,jB,backB,cB,ixB,tabB,wrB,sB,tB,kB,zB,below]
  try (constructor<;>intro h<;>simp_all<;>omega)
theorem okJ_24 (h:i.op=24):okJ p t i=(tB p i.a && (zB i.b && (zB i.c && (zB i.d)))):=by
  unfold okJ fieldsP runsP
  rw [h]
  show ((fieldP p t _ i.a && (fieldP p t _ i.b && (fieldP p t _ i.c && fieldP p t _ i.d))) && _)=_
  rw [Bool.eq_iff_iff]
  simp [fieldP,fitsP,inB,rB,manyB,jB,backB,cB,ixB,tabB,wrB,sB,tB,kB,zB,below]
  try (constructor<;>intro h<;>simp_all<;>omega)
theorem okJ_25 (h:i.op=25):okJ p t i=(tB p i.a && (rB p i.b && (zB i.c && (zB i.d)))):=by
  unfold okJ fieldsP runsP
  rw [h]
  show ((fieldP p t _ i.a && (fieldP p t _ i.b && (fieldP p t _ i.c && fieldP p t _ i.d))) && _)=_
  rw [Bool.eq_iff_iff]
  simp [fieldP,fitsP,inB,rB,manyB,jB,backB,cB,ixB,tabB,wrB,sB,tB,kB,zB,below]
  try (constructor<;>intro h<;>simp_all<;>omega)
theorem okJ_26 (h:i.op=26):okJ p t i=(rB p i.a && (tB p i.b && (zB i.c && (zB i.d)))):=by
  unfold okJ fieldsP runsP
  rw [h]
  show ((fieldP p t _ i.a && (fieldP p t _ i.b && (fieldP p t _ i.c && fieldP p t _ i.d))) && _)=_
  rw [Bool.eq_iff_iff]
  simp [fieldP,fitsP,inB,rB,manyB,jB,backB,cB,ixB,tabB,wrB,sB,tB,kB,zB,below]
  try (constructor<;>intro h<;>simp_all<;>omega)
theorem okJ_27 (h:i.op=27):okJ p t i=(manyB p i.a p.names.length && (zB i.b && (zB i.c && (zB i.d)))):=by
  unfold okJ fieldsP runsP
  rw [h]
  show ((fieldP p t _ i.a && (fieldP p t _ i.b && (fieldP p t _ i.c && fieldP p t _ i.d))) && _)=_
  rw [Bool.eq_iff_iff]
  simp [fieldP,fitsP,inB,rB,manyB,jB,backB,cB,ixB,tabB,wrB,sB,tB,kB,zB,below]
  try (constructor<;>intro h<;>simp_all<;>omega)
theorem okJ_28 (h:i.op=28):okJ p t i=(rB p i.a && (wrB p i.b && (zB i.c && (zB i.d)))):=by
  unfold okJ fieldsP runsP
  rw [h]
  show ((fieldP p t _ i.a && (fieldP p t _ i.b && (fieldP p t _ i.c && fieldP p t _ i.d))) && _)=_
  rw [Bool.eq_iff_iff]
  simp [fieldP,fitsP,inB,rB,manyB,jB,backB,cB,ixB,tabB,wrB,sB,tB,kB,zB,below,and_assoc]
  try (constructor<;>intro h<;>simp_all<;>omega)
theorem okJ_29 (h:i.op=29):okJ p t i=(wrB p i.a && (rB p i.b && (rB p i.c && (zB i.d)))):=by
  unfold okJ fieldsP runsP
  rw [h]
  show ((fieldP p t _ i.a && (fieldP p t _ i.b && (fieldP p t _ i.c && fieldP p t _ i.d))) && _)=_
  rw [Bool.eq_iff_iff]
  simp [fieldP,fitsP,inB,rB,manyB,jB,backB,cB,ixB,tabB,wrB,sB,tB,kB,zB,below,and_assoc]
  try (constructor<;>intro h<;>simp_all<;>omega)
theorem okJ_30 (h:i.op=30):okJ p t i=(wrB p i.a && (rB p i.b && (zB i.c && (zB i.d)))):=by
  unfold okJ fieldsP runsP
  rw [h]
  show ((fieldP p t _ i.a && (fieldP p t _ i.b && (fieldP p t _ i.c && fieldP p t _ i.d))) && _)=_
  rw [Bool.eq_iff_iff]
  simp [fieldP,fitsP,inB,rB,manyB,jB,backB,cB,ixB,tabB,wrB,sB,tB,kB,zB,below,and_assoc]
  try (constructor<;>intro h<;>simp_all<;>omega)
theorem okJ_31 (h:i.op=31):okJ p t i=(kB p i.a && (decide ((constAt p i.a).k=2) && (zB i.b && (zB i.c && (zB i.d && (decide (t=0) && (decide (p.code.length=2)))))))):=by
  unfold okJ fieldsP runsP
  rw [h]
  show ((fieldP p t _ i.a && (fieldP p t _ i.b && (fieldP p t _ i.c && fieldP p t _ i.d))) && _)=_
  rw [Bool.eq_iff_iff]
  simp [fieldP,fitsP,inB,rB,manyB,jB,backB,cB,ixB,tabB,wrB,sB,tB,kB,zB,below]
  try (constructor<;>intro h<;>simp_all<;>omega)
theorem okJ_32 (h:i.op=32):okJ p t i=(zB i.a && (zB i.b && (zB i.c && (zB i.d && (decide (t=0) && (decide (p.code.length=2))))))):=by
  unfold okJ fieldsP runsP
  rw [h]
  show ((fieldP p t _ i.a && (fieldP p t _ i.b && (fieldP p t _ i.c && fieldP p t _ i.d))) && _)=_
  rw [Bool.eq_iff_iff]
  simp [fieldP,fitsP,inB,rB,manyB,jB,backB,cB,ixB,tabB,wrB,sB,tB,kB,zB,below]
  try (constructor<;>intro h<;>simp_all<;>omega)
theorem okJ_33 (h:i.op=33):okJ p t i=(zB i.a && (zB i.b && (zB i.c && (zB i.d && (decide (t=0) && (decide (p.code.length=2))))))):=by
  unfold okJ fieldsP runsP
  rw [h]
  show ((fieldP p t _ i.a && (fieldP p t _ i.b && (fieldP p t _ i.c && fieldP p t _ i.d))) && _)=_
  rw [Bool.eq_iff_iff]
  simp [fieldP,fitsP,inB,rB,manyB,jB,backB,cB,ixB,tabB,wrB,sB,tB,kB,zB,below]
  try (constructor<;>intro h<;>simp_all<;>omega)
theorem okJ_34 (h:i.op=34):okJ p t i=(zB i.a && (zB i.b && (zB i.c && (zB i.d && (decide (t=0) && (decide (p.code.length=2))))))):=by
  unfold okJ fieldsP runsP
  rw [h]
  show ((fieldP p t _ i.a && (fieldP p t _ i.b && (fieldP p t _ i.c && fieldP p t _ i.d))) && _)=_
  rw [Bool.eq_iff_iff]
  simp [fieldP,fitsP,inB,rB,manyB,jB,backB,cB,ixB,tabB,wrB,sB,tB,kB,zB,below]
  try (constructor<;>intro h<;>simp_all<;>omega)
theorem okJ_35 (h:i.op=35):okJ p t i=(zB i.a && (zB i.b && (zB i.c && (zB i.d)))):=by
  unfold okJ fieldsP runsP
  rw [h]
  show ((fieldP p t _ i.a && (fieldP p t _ i.b && (fieldP p t _ i.c && fieldP p t _ i.d))) && _)=_
  rw [Bool.eq_iff_iff]
  simp [fieldP,fitsP,inB,rB,manyB,jB,backB,cB,ixB,tabB,wrB,sB,tB,kB,zB,below]
  try (constructor<;>intro h<;>simp_all<;>omega)
end
end K15
set_option linter.unusedVariables false
set_option maxRecDepth 100000
namespace Go.Proofs.YtaifphjenebgoaaGreatDoor
open Go Go.Sx Value IntKind World Addr Builtin
noncomputable def code_writer_put.W:Option Addr->Option Addr->Nat->Nat->World->(Value->World->Prop)->Prop:=fun wx l_A l_n l_c w K=>∃ (I:Int->World->Prop) (μ:Int->World->Nat),I 0
 w/\∀ x w,I x w->bif decide (x<(l_n:Int)) then ∃ ad,l_A=some ad/\(0<=x/\x<(l_n:Int))/\∃ x_1,cell? w (add ad (Int.toNat x*1))=some (int i64 x_1)/\∃ a,wx =
 some a/\∃ x_2 x_3 x_4,cell? w (add a 0)=some (slice x_2 x_3 x_4)/\CallsV Tryz.prog 63 #[slice x_2 x_3 x_4,int u64 (wrap u64 x_1)] w fun v w'=>∃ x_5 x_6 x_7,v=slice x_5 x_6 x_7
 /\ ∃ a,wx=some a/\stOK (add a 0) 0 [slice x_5 x_6 x_7] w'/\∀ w'_1,w'_1=setAll (add a 0) 0 [slice x_5 x_6 x_7] w'->I (wrap i64 (x+1)) w'_1/\μ (wrap i64 (x+1)) w'_1<μ x w else K
 (tuple #[]) w
theorem code_writer_put.calls (ok:Okay Tryz.prog) {wx l_A l_n l_c w K} (h:code_writer_put.W wx l_A l_n l_c w K):CallsV Tryz.prog 25 #[.pointer wx,.slice l_A l_n l_c] w K :=
  fnW_calls ok Tryz.func25 (an:=(.named (.seq .auto (.block (.loop [(8,.one (.int .i64))] .auto))))) (args:=[.pointer wx,.slice l_A l_n l_c]) (Eq.mp (by kernel_rfl) h)
noncomputable def code_writer_flag.W:Option Addr->Option Addr->Nat->Nat->World->(Value->World->Prop)->Prop:=fun wx l_A l_n l_c w K=>∃ (I:Int->World->Prop) (μ:Int->World->Nat),I 0
 w/\∀ x w,I x w->bif decide (x<(l_n:Int)) then ∃ ad,l_A=some ad/\(0<=x/\x<(l_n:Int))/\∃ x_1,cell? w (add ad (Int.toNat x*1))=some (bool x_1)/\bif x_1 then
 ∀ g w',Fresh w g w' [int i64 1] 3->CallsV Tryz.prog 25 #[pointer wx,slice (some (mk g 0 none)) 1 1] w' fun v w'=>v=tuple #[]/\I (wrap i64 (x+1)) w'/\μ (wrap i64 (x+1)) w'<μ
 x w else ∀ g w',Fresh w g w' [int i64 0] 3->CallsV Tryz.prog 25 #[pointer wx,slice (some (mk g 0 none)) 1 1] w' fun v w'=>v=tuple #[]/\I (wrap i64 (x+1)) w'/\μ (wrap i64 (x +
 1)) w'<μ x w else K (tuple #[]) w
theorem code_writer_flag.calls (ok:Okay Tryz.prog) {wx l_A l_n l_c w K} (h:code_writer_flag.W wx l_A l_n l_c w K):CallsV Tryz.prog 29 #[.pointer wx,.slice l_A l_n l_c] w K :=
  fnW_calls ok Tryz.func29 (an:=(.named (.seq .auto (.block (.loop [(9,.one (.int .i64))] .auto))))) (args:=[.pointer wx,.slice l_A l_n l_c]) (Eq.mp (by kernel_rfl) h)
noncomputable def code_writer_text.W:Option Addr->ByteArray->World->(Value->World->Prop)->Prop:=fun wx s w K=>∃ a,wx=some a/\∃ x x_1 x_2,cell? w (add a 0)=some (slice x
 x_1 x_2)/\∃ x_3 x_4 x_5 w',RunsTo Tryz.prog (convert 9 32 (string s)) w (slice x_3 x_4 x_5) w'/\CallsV Tryz.prog 28 #[slice x x_1 x_2,slice x_3 x_4 x_5] w' fun v w'=>∃ x x_6 x_7,v=slice x x_6
 x_7/\∃ a,wx=some a/\stOK (add a 0) 0 [slice x x_6 x_7] w'/\∀ w'_1,w'_1=setAll (add a 0) 0 [slice x x_6 x_7] w'->K (tuple #[]) w'_1
theorem code_writer_text.calls (ok:Okay Tryz.prog) {wx s w K} (h:code_writer_text.W wx s w K):CallsV Tryz.prog 26 #[.pointer wx,.string s] w K :=
  fnW_calls ok Tryz.func26 (an:=(.named .auto)) (args:=[.pointer wx,.string s]) (Eq.mp (by kernel_rfl) h)
noncomputable def code_Bytes.W:Int->Int->Int->Option Addr->Nat->Nat->Option Addr->Nat->Nat->Option Addr->Nat->Nat->Option Addr->Nat->Nat->Option Addr->Nat->Nat->Option Addr->Nat ->
 Nat->World->(Value->World->Prop)->Prop:=fun p0 p1 p2 p3_A p3_n p3_c p4_A p4_n p4_c p5_A p5_n p5_c p6_A p6_n p6_c p7_A p7_n p7_c p8_A p8_n p8_c w K=>∀ g w',Fresh w g w' [int i64 p0,int i64
 p1,int i64 p2,slice p3_A p3_n p3_c,slice p4_A p4_n p4_c,slice p5_A p5_n p5_c,slice p6_A p6_n p6_c,slice p7_A p7_n p7_c,slice p8_A p8_n p8_c] 29->∃ x,cell? w' (add (mk g 0 none) 0) =
 some (int i64 x)/\∃ x_1,cell? w' (add (mk g 0 none) 1)=some (int i64 x_1)/\∃ x_2,cell? w' (add (mk g 0 none) 2)=some (int i64 x_2)/\∃ x_3 x_4 x_5,cell? w'
 (add (mk g 0 none) 3)=some (slice x_3 x_4 x_5)/\∃ x_6 x_7 x_8,cell? w' (add (mk g 0 none) 4)=some (slice x_6 x_7 x_8)/\∃ x_9 x_10 x_11,cell? w' (add (mk g 0
 none) 5)=some (slice x_9 x_10 x_11)/\∃ x_12 x_13 x_14,cell? w' (add (mk g 0 none) 6)=some (slice x_12 x_13 x_14)/\∃ x_15 x_16 x_17,cell? w' (add (mk g 0 none)
 7)=some (slice x_15 x_16 x_17)/\∃ x_18 x_19 x_20,cell? w' (add (mk g 0 none) 8)=some (slice x_18 x_19 x_20)/\CallsV Tryz.prog 12 #[agg #[int i64 x,int i64 x_1,int i64 x_2,
 slice x_3 x_4 x_5,slice x_6 x_7 x_8,slice x_9 x_10 x_11,slice x_12 x_13 x_14,slice x_15 x_16 x_17,slice x_18 x_19 x_20]] w' fun v w'=>∃ x,v=int i64 x/\bif !decide (x=0) then K
 (tuple #[slice none 0 0,int i64 x]) w' else ∀ g_1 w'_1,Fresh w' g_1 w'_1 [slice none 0 0] 64->∃ x,cell? w'_1 (add (mk g 0 none) 0)=some (int i64 x)/\∃ x_21,cell?
 w'_1 (add (mk g 0 none) 1)=some (int i64 x_21)/\∃ x_22,cell? w'_1 (add (mk g 0 none) 2)=some (int i64 x_22)/\∃ x_23 x_24 x_25,cell? w'_1 (add (mk g 0 none) 3)
 = some (slice x_23 x_24 x_25)/\∀ g_2 w',Fresh w'_1 g_2 w' [int i64 x,int i64 x_21,int i64 x_22,int i64 (x_24:Int)] 3->CallsV Tryz.prog 25 #[pointer (some (mk g_1 0 none)),
 slice (some (mk g_2 0 none)) 4 4] w' fun v w'=>v=tuple #[]/\∃ x x_26 x_27,cell? w' (add (mk g 0 none) 3)=some (slice x x_26 x_27)/\∃ (I:Int->World->Prop) (μ :
 Int->World->Nat),I 0 w'/\∀ x_28 w,I x_28 w->bif decide (x_28<(x_26:Int)) then ∃ ad,x=some ad/\(0<=x_28/\x_28<(x_26:Int))/\∃ (x:ByteArray),cell? w (add ad
 (Int.toNat x_28*1))=some (string x)/\CallsV Tryz.prog 26 #[pointer (some (mk g_1 0 none)),string x] w fun v w'=>v=tuple #[]/\I (wrap i64 (x_28+1)) w'/\μ (wrap i64
 (x_28+1)) w'<μ x_28 w else ∃ x x_29 x_30,cell? w (add (mk g 0 none) 4)=some (slice x x_29 x_30)/\∀ g_3 w',Fresh w g_3 w' [int i64 (x_29:Int)] 3->CallsV Tryz.prog 25 #[pointer
 (some (mk g_1 0 none)),slice (some (mk g_3 0 none)) 1 1] w' fun v w'=>v=tuple #[]/\∃ x x_31 x_32,cell? w' (add (mk g 0 none) 4)=some (slice x x_31
 x_32)/\∃ (I:Int->World->Prop) (μ:Int->World->Nat),I 0 w'/\∀ x_33 w,I x_33 w->bif decide (x_33<(x_31:Int)) then ∃ ad,x=some ad/\(0<=x_33/\x_33<(x_31:Int))/\∃
 x,cell? w (add (add ad (Int.toNat x_33*3)) 0)=some (int u8 x)/\∃ x_34,cell? w (add (add ad (Int.toNat x_33*3)) 1)=some (int i64 x_34)/\∃ (x_35:ByteArray),cell? w (add (add
 ad (Int.toNat x_33*3)) 2)=some (string x_35)/\∀ g w',Fresh w g w' [int u8 0,int i64 0,string (ByteArray.mk #[])] 54->stOK (mk g 0 none) 0 [int u8 x,int i64 x_34,string x_35] w'
 /\ ∀ w'_2,w'_2=setAll (mk g 0 none) 0 [int u8 x,int i64 x_34,string x_35] w'->∃ x,cell? w'_2 (add (mk g 0 none) 0)=some (int u8 x)/\∃ x_36,cell? w'_2 (add (mk g 0
 none) 1)=some (int i64 x_36)/\∃ (x_37:ByteArray),cell? w'_2 (add (mk g 0 none) 2)=some (string x_37)/\∀ g w',Fresh w'_2 g w' [int u8 x,int i64 x_36,string x_37]
 54->CallsV Tryz.prog 27 #[slice (some (mk g 0 none)) 1 1] w' fun v w'=>∃ x x_38 x_39 x_40,v=tuple #[slice x x_38 x_39,int i64 x_40]/\∃ a,some (mk g_1 0 none) =
 some a/\∃ x_41 x_42 x_43,cell? w' (add a 0)=some (slice x_41 x_42 x_43)/\CallsV Tryz.prog 28 #[slice x_41 x_42 x_43,slice x x_38 x_39] w' fun v w'=>∃ x x_44 x_45,v=slice x x_44
 x_45/\∃ a,some (mk g_1 0 none)=some a/\stOK (add a 0) 0 [slice x x_44 x_45] w'/\∀ w'_3,w'_3=setAll (add a 0) 0 [slice x x_44 x_45] w'->∃ a,some (mk g_1 0
 none)=some a/\∃ x x_46 x_47,cell? w'_3 (add a 0)=some (slice x x_46 x_47)/\bif decide (1048576<(x_46:Int)) then K (tuple #[slice none 0 0,int i64 3])
 w'_3 else I (wrap i64 (x_33+1)) w'_3/\μ (wrap i64 (x_33+1)) w'_3<μ x_33 w else ∃ x x_34 x_35,cell? w (add (mk g 0 none) 5)=some (slice x x_34 x_35)/\∀ g_4 w',Fresh w g_4 w'
 [int i64 (x_34:Int)] 3->CallsV Tryz.prog 25 #[pointer (some (mk g_1 0 none)),slice (some (mk g_4 0 none)) 1 1] w' fun v w'=>v=tuple #[]/\∃ x x_36 x_37,cell? w'
 (add (mk g 0 none) 5)=some (slice x x_36 x_37)/\∃ (I:Int->World->Prop) (μ:Int->World->Nat),I 0 w'/\∀ x_38 w,I x_38 w->bif decide (x_38<(x_36:Int)) then ∃ ad,
 x=some ad/\(0<=x_38/\x_38<(x_36:Int))/\∃ (x:ByteArray),cell? w (add (add ad (Int.toNat x_38*3)) 0)=some (string x)/\∃ x_39,cell? w (add (add ad (Int.toNat x_38*3)) 1)
 = some (bool x_39)/\∃ x_40,cell? w (add (add ad (Int.toNat x_38*3)) 2)=some (bool x_40)/\∀ g w',Fresh w g w' [string (ByteArray.mk #[]),bool false,bool false] 56 ->
 stOK (mk g 0 none) 0 [string x,bool x_39,bool x_40] w'/\∀ w'_2,w'_2=setAll (mk g 0 none) 0 [string x,bool x_39,bool x_40] w'->∃ (x:ByteArray),cell? w'_2 (add (mk g 0
 none) 0)=some (string x)/\CallsV Tryz.prog 26 #[pointer (some (mk g_1 0 none)),string x] w'_2 fun v w'=>v=tuple #[]/\∃ x,cell? w' (add (mk g 0 none) 1) =
 some (bool x)/\∃ x_41,cell? w' (add (mk g 0 none) 2)=some (bool x_41)/\∀ g w'_3,Fresh w' g w'_3 [bool x,bool x_41] 4->CallsV Tryz.prog 29 #[pointer (some (mk g_1 0
 none)),slice (some (mk g 0 none)) 2 2] w'_3 fun v w'=>v=tuple #[]/\I (wrap i64 (x_38+1)) w'/\μ (wrap i64 (x_38+1)) w'<μ x_38 w else ∃ x x_39 x_40,cell? w (add (mk g 0
 none) 6)=some (slice x x_39 x_40)/\∀ g_5 w',Fresh w g_5 w' [int i64 (x_39:Int)] 3->CallsV Tryz.prog 25 #[pointer (some (mk g_1 0 none)),slice (some (mk g_5 0
 none)) 1 1] w' fun v w'=>v=tuple #[]/\∃ x x_41 x_42,cell? w' (add (mk g 0 none) 6)=some (slice x x_41 x_42)/\∃ (I:Int->World->Prop) (μ:Int->World->Nat),I 0 w'/\∀
 x_43 w,I x_43 w->bif decide (x_43<(x_41:Int)) then ∃ ad,x=some ad/\(0<=x_43/\x_43<(x_41:Int))/\∃ x x_44 x_45,cell? w (add (add ad (Int.toNat x_43*3)) 0) =
 some (slice x x_44 x_45)/\∃ x_46,cell? w (add (add ad (Int.toNat x_43*3)) 1)=some (int i64 x_46)/\∃ x_47,cell? w (add (add ad (Int.toNat x_43*3)) 2)=some (bool x_47) /\
 ∀ g w',Fresh w g w' [slice none 0 0,int i64 0,bool false] 59->stOK (mk g 0 none) 0 [slice x x_44 x_45,int i64 x_46,bool x_47] w'/\∀ w'_2,w'_2=setAll (mk g 0 none) 0
 [slice x x_44 x_45,int i64 x_46,bool x_47] w'->∃ x x_48 x_49,cell? w'_2 (add (mk g 0 none) 0)=some (slice x x_48 x_49)/\∀ g_6 w',Fresh w'_2 g_6 w' [int i64 (x_48:Int)] 3 ->
 CallsV Tryz.prog 25 #[pointer (some (mk g_1 0 none)),slice (some (mk g_6 0 none)) 1 1] w' fun v w'=>v=tuple #[]/\∃ x x_50 x_51,cell? w' (add (mk g 0 none) 0) =
 some (slice x x_50 x_51)/\CallsV Tryz.prog 29 #[pointer (some (mk g_1 0 none)),slice x x_50 x_51] w' fun v w'=>v=tuple #[]/\∃ x,cell? w' (add (mk g 0 none) 1) =
 some (int i64 x)/\∀ g_7 w'_3,Fresh w' g_7 w'_3 [int i64 x] 3->CallsV Tryz.prog 25 #[pointer (some (mk g_1 0 none)),slice (some (mk g_7 0 none)) 1 1] w'_3 fun v w'
 => v=tuple #[]/\∃ x,cell? w' (add (mk g 0 none) 2)=some (bool x)/\∀ g w'_4,Fresh w' g w'_4 [bool x] 4->CallsV Tryz.prog 29 #[pointer (some (mk g_1 0 none)),slice
 (some (mk g 0 none)) 1 1] w'_4 fun v w'=>v=tuple #[]/\I (wrap i64 (x_43+1)) w'/\μ (wrap i64 (x_43+1)) w'<μ x_43 w else ∃ x x_44 x_45,cell? w (add (mk g 0 none) 7) =
 some (slice x x_44 x_45)/\∀ g_6 w',Fresh w g_6 w' [int i64 (x_44:Int)] 3->CallsV Tryz.prog 25 #[pointer (some (mk g_1 0 none)),slice (some (mk g_6 0 none)) 1 1]
 w' fun v w'=>v=tuple #[]/\∃ x x_46 x_47,cell? w' (add (mk g 0 none) 7)=some (slice x x_46 x_47)/\∃ (I:Int->World->Prop) (μ:Int->World->Nat),I 0 w'/\∀ x_48 w,I x_48 w ->
 bif decide (x_48<(x_46:Int)) then ∃ ad,x=some ad/\(0<=x_48/\x_48<(x_46:Int))/\∃ (x:ByteArray),cell? w (add (add ad (Int.toNat x_48*2)) 0)=some (string x) /\
 ∃ x_49,cell? w (add (add ad (Int.toNat x_48*2)) 1)=some (bool x_49)/\∀ g w',Fresh w g w' [string (ByteArray.mk #[]),bool false] 61->stOK (mk g 0 none) 0 [string x,bool
 x_49] w'/\∀ w'_2,w'_2=setAll (mk g 0 none) 0 [string x,bool x_49] w'->∃ (x:ByteArray),cell? w'_2 (add (mk g 0 none) 0)=some (string x)/\CallsV Tryz.prog 26 #[pointer
 (some (mk g_1 0 none)),string x] w'_2 fun v w'=>v=tuple #[]/\∃ x,cell? w' (add (mk g 0 none) 1)=some (bool x)/\∀ g w'_3,Fresh w' g w'_3 [bool x] 4->CallsV
 Tryz.prog 29 #[pointer (some (mk g_1 0 none)),slice (some (mk g 0 none)) 1 1] w'_3 fun v w'=>v=tuple #[]/\I (wrap i64 (x_48+1)) w'/\μ (wrap i64 (x_48+1)) w'<μ
 x_48 w else ∃ x x_49 x_50,cell? w (add (mk g 0 none) 8)=some (slice x x_49 x_50)/\∀ g_7 w',Fresh w g_7 w' [int i64 (x_49:Int)] 3->CallsV Tryz.prog 25 #[pointer (some (mk
 g_1 0 none)),slice (some (mk g_7 0 none)) 1 1] w' fun v w'=>v=tuple #[]/\∃ x x_51 x_52,cell? w' (add (mk g 0 none) 8)=some (slice x x_51 x_52)/\∃ (I:Int ->
 World->Prop) (μ:Int->World->Nat),I 0 w'/\∀ x_53 w,I x_53 w->bif decide (x_53<(x_51:Int)) then ∃ ad,x=some ad/\(0<=x_53/\x_53<(x_51:Int))/\∃ x,cell? w (add (add
 ad (Int.toNat x_53*5)) 0)=some (int u8 x)/\∃ x_54,cell? w (add (add ad (Int.toNat x_53*5)) 1)=some (int i64 x_54)/\∃ x_55,cell? w (add (add ad (Int.toNat x_53*5)) 2) =
 some (int i64 x_55)/\∃ x_56,cell? w (add (add ad (Int.toNat x_53*5)) 3)=some (int i64 x_56)/\∃ x_57,cell? w (add (add ad (Int.toNat x_53*5)) 4)=some (int i64 x_57)/\∀
 g w',Fresh w g w' [int u8 0,int i64 0,int i64 0,int i64 0,int i64 0] 46->stOK (mk g 0 none) 0 [int u8 x,int i64 x_54,int i64 x_55,int i64 x_56,int i64 x_57] w'/\∀ w'_2,w'_2=setAll
 (mk g 0 none) 0 [int u8 x,int i64 x_54,int i64 x_55,int i64 x_56,int i64 x_57] w'->∃ x,cell? w'_2 (add (mk g 0 none) 0)=some (int u8 x)/\∃ x_58,cell? w'_2 (add (mk g 0
 none) 1)=some (int i64 x_58)/\∃ x_59,cell? w'_2 (add (mk g 0 none) 2)=some (int i64 x_59)/\∃ x_60,cell? w'_2 (add (mk g 0 none) 3)=some (int i64
 x_60)/\∃ x_61,cell? w'_2 (add (mk g 0 none) 4)=some (int i64 x_61)/\∀ g w',Fresh w'_2 g w' [int i64 (wrap i64 x),int i64 x_58,int i64 x_59,int i64 x_60,int i64 x_61] 3->CallsV
 Tryz.prog 25 #[pointer (some (mk g_1 0 none)),slice (some (mk g 0 none)) 5 5] w' fun v w'=>v=tuple #[]/\I (wrap i64 (x_53+1)) w'/\μ (wrap i64 (x_53+1)) w'<μ
 x_53 w else ∃ a,some (mk g_1 0 none)=some a/\∃ x x_54 x_55,cell? w (add a 0)=some (slice x x_54 x_55)/\bif decide (1048576<(x_54:Int)) then K (tuple
 #[slice none 0 0,int i64 3]) w else ∃ a,some (mk g_1 0 none)=some a/\∃ x x_56 x_57,cell? w (add a 0)=some (slice x x_56 x_57)/\K (tuple #[slice x x_56 x_57,
 int i64 0]) w
theorem code_Bytes.calls (ok:Okay Tryz.prog) {p0 p1 p2 p3_A p3_n p3_c p4_A p4_n p4_c p5_A p5_n p5_c p6_A p6_n p6_c p7_A p7_n p7_c p8_A p8_n p8_c w K} (h:code_Bytes.W p0 p1 p2 p3_A p3_n p3_c p4_A p4_n p4_c p5_A p5_n p5_c p6_A p6_n p6_c p7_A p7_n p7_c p8_A p8_n p8_c w K):CallsV Tryz.prog 8 #[.agg #[.int .i64 p0,.int .i64 p1,.int .i64 p2,.slice p3_A p3_n p3_c,.slice p4_A p4_n p4_c,.slice p5_A p5_n p5_c,.slice p6_A p6_n p6_c,.slice p7_A p7_n p7_c,.slice p8_A p8_n p8_c]] w K :=
  fnW_calls ok Tryz.func8 (an:=(.named (.seq .auto (.seq .auto (.seq .auto (.seq .auto (.seq (.seq .auto (.block (.loop [(42,.one (.int .i64))] .auto))) (.seq .auto (.seq (.seq .auto (.block (.loop [(59,.one (.int .i64))] .auto))) (.seq .auto (.seq (.seq .auto (.block (.loop [(94,.one (.int .i64))] .auto))) (.seq .auto (.seq (.seq .auto (.block (.loop [(119,.one (.int .i64))] .auto))) (.seq .auto (.seq (.seq .auto (.block (.loop [(153,.one (.int .i64))] .auto))) (.seq .auto (.seq (.seq .auto (.block (.loop [(176,.one (.int .i64))] .auto))) .auto))))))))))))))))) (args:=[.agg #[.int .i64 p0,.int .i64 p1,.int .i64 p2,.slice p3_A p3_n p3_c,.slice p4_A p4_n p4_c,.slice p5_A p5_n p5_c,.slice p6_A p6_n p6_c,.slice p7_A p7_n p7_c,.slice p8_A p8_n p8_c]]) (Eq.mp (by kernel_rfl) h)
noncomputable def cardindexlaw15_Same.W:Int->Int->Int->Option Addr->Nat->Nat->Option Addr->Nat->Nat->Option Addr->Nat->Nat->Option Addr->Nat->Nat->Option Addr->Nat->Nat->Option Addr
 -> Nat->Nat->Int->Int->Int->Option Addr->Nat->Nat->Option Addr->Nat->Nat->Option Addr->Nat->Nat->Option Addr->Nat->Nat->Option Addr->Nat->Nat->Option Addr->Nat->Nat->World ->
 (Value->World->Prop)->Prop:=fun a0 a1 a2 a3_A a3_n a3_c a4_A a4_n a4_c a5_A a5_n a5_c a6_A a6_n a6_c a7_A a7_n a7_c a8_A a8_n a8_c b0 b1 b2 b3_A b3_n b3_c b4_A b4_n b4_c b5_A b5_n b5_c b6_A b6_n
 b6_c b7_A b7_n b7_c b8_A b8_n b8_c w K=>∀ g w',Fresh w g w' [int i64 a0,int i64 a1,int i64 a2,slice a3_A a3_n a3_c,slice a4_A a4_n a4_c,slice a5_A a5_n a5_c,slice a6_A a6_n a6_c,slice a7_A
 a7_n a7_c,slice a8_A a8_n a8_c] 29->∀ g_1 w'_1,Fresh w' g_1 w'_1 [int i64 b0,int i64 b1,int i64 b2,slice b3_A b3_n b3_c,slice b4_A b4_n b4_c,slice b5_A b5_n b5_c,slice b6_A b6_n b6_c,slice
 b7_A b7_n b7_c,slice b8_A b8_n b8_c] 29->∃ x,cell? w'_1 (add (mk g 0 none) 0)=some (int i64 x)/\∃ x_1,cell? w'_1 (add (mk g_1 0 none) 0)=some (int i64 x_1)/\bif
 !decide (x=x_1) then K (bool false) w'_1 else ∃ x,cell? w'_1 (add (mk g 0 none) 1)=some (int i64 x)/\∃ x_2,cell? w'_1 (add (mk g_1 0 none) 1)=some
 (int i64 x_2)/\bif !decide (x=x_2) then K (bool false) w'_1 else ∃ x,cell? w'_1 (add (mk g 0 none) 2)=some (int i64 x)/\∃ x_3,cell? w'_1 (add (mk g_1 0 none)
 2)=some (int i64 x_3)/\bif !decide (x=x_3) then K (bool false) w'_1 else ∃ x x_4 x_5,cell? w'_1 (add (mk g 0 none) 3)=some (slice x x_4 x_5)/\∃ x_6 x_7 x_8,
 cell? w'_1 (add (mk g_1 0 none) 3)=some (slice x_6 x_7 x_8)/\CallsV Tryz.prog 44 #[slice x x_4 x_5,slice x_6 x_7 x_8] w'_1 fun v w'=>∃ x,v=bool x/\bif !x then K (bool
 false) w' else ∃ x x_9 x_10,cell? w' (add (mk g 0 none) 4)=some (slice x x_9 x_10)/\∃ x x_11 x_12,cell? w' (add (mk g_1 0 none) 4)=some (slice x x_11 x_12)/\bif
 !decide ((x_9:Int)=(x_11:Int)) then K (bool false) w' else ∃ x x_13 x_14,cell? w' (add (mk g 0 none) 5)=some (slice x x_13 x_14)/\∃ x x_15 x_16,cell? w' (add (mk
 g_1 0 none) 5)=some (slice x x_15 x_16)/\bif !decide ((x_13:Int)=(x_15:Int)) then K (bool false) w' else ∃ x x_17 x_18,cell? w' (add (mk g 0 none) 6) =
 some (slice x x_17 x_18)/\∃ x x_19 x_20,cell? w' (add (mk g_1 0 none) 6)=some (slice x x_19 x_20)/\bif !decide ((x_17:Int)=(x_19:Int)) then K (bool false)
 w' else ∃ x x_21 x_22,cell? w' (add (mk g 0 none) 7)=some (slice x x_21 x_22)/\∃ x x_23 x_24,cell? w' (add (mk g_1 0 none) 7)=some (slice x x_23 x_24)/\bif
 !decide ((x_21:Int)=(x_23:Int)) then K (bool false) w' else ∃ x x_25 x_26,cell? w' (add (mk g 0 none) 8)=some (slice x x_25 x_26)/\∃ x x_27 x_28,cell? w' (add
 (mk g_1 0 none) 8)=some (slice x x_27 x_28)/\bif !decide ((x_25:Int)=(x_27:Int)) then K (bool false) w' else ∃ x x_29 x_30,cell? w' (add (mk g 0 none) 4) =
 some (slice x x_29 x_30)/\∃ (I:Int->World->Prop) (μ:Int->World->Nat),I 0 w'/\∀ x w,I x w->bif decide (x<(x_29:Int)) then ∃ (S:World->Prop),S (drew w)/\∃ x_31 x_32
 x_33,(∀ u,S u->cell? u (add (mk g 0 none) 4)=some (slice x_31 x_32 x_33))/\∃ ad,x_31=some ad/\(0<=x/\x<(x_32:Int))/\∃ x_34,(∀ u,S u->cell? u (add (add ad
 (Int.toNat x*3)) 0)=some (int u8 x_34))/\∃ x_35,(∀ u,S u->cell? u (add (add ad (Int.toNat x*3)) 1)=some (int i64 x_35))/\∃ (x_36:ByteArray),(∀ u,S u->cell? u (add (add
 ad (Int.toNat x*3)) 2)=some (string x_36))/\∃ x_37 x_38 x_39,(∀ u,S u->cell? u (add (mk g_1 0 none) 4)=some (slice x_37 x_38 x_39))/\∃ ad,x_37=some ad/\(0<=x
 /\ x<(x_38:Int))/\∃ x_40,(∀ u,S u->cell? u (add (add ad (Int.toNat x*3)) 0)=some (int u8 x_40))/\∃ x_41,(∀ u,S u->cell? u (add (add ad (Int.toNat x*3)) 1)=some (int i64
 x_41))/\∃ (x_42:ByteArray),(∀ u,S u->cell? u (add (add ad (Int.toNat x*3)) 2)=some (string x_42))/\bif Program.stoodInHeld Tryz.prog 54 || Program.eqGuardType Tryz.prog (Program.depth
 Tryz.prog) 54 || List.any (Array.toList #[Field.mk "Kind" 52 0 false "" "" 0, Field.mk "N" 2 1 false "" "" 8, Field.mk "S" 9 2 false "" "" 16]) fun (f : Field) => Field.name f == "_"
 then False else bif !(decide (x_34=x_40) && (decide (x_35=x_41) && (ByteArray.toList x_36 == ByteArray.toList x_42 && true))) then K (bool false) (drew w) else I (wrap
 i64 (x+1)) (drew w)/\μ (wrap i64 (x+1)) (drew w)<μ x w else ∃ x x_31 x_32,cell? w (add (mk g 0 none) 5)=some (slice x x_31 x_32)/\∃ (I:Int->World->Prop) (μ:Int->World ->
 Nat),I 0 w/\∀ x w,I x w->bif decide (x<(x_31:Int)) then ∃ (S:World->Prop),S (drew w)/\∃ x_33 x_34 x_35,(∀ u,S u->cell? u (add (mk g 0 none) 5)=some (slice x_33
 x_34 x_35))/\∃ ad,x_33=some ad/\(0<=x/\x<(x_34:Int))/\∃ (x_36:ByteArray),(∀ u,S u->cell? u (add (add ad (Int.toNat x*3)) 0)=some (string x_36))/\∃ x_37,(∀ u,S u ->
 cell? u (add (add ad (Int.toNat x*3)) 1)=some (bool x_37))/\∃ x_38,(∀ u,S u->cell? u (add (add ad (Int.toNat x*3)) 2)=some (bool x_38))/\∃ x_39 x_40 x_41,(∀ u,S u->cell? u
 (add (mk g_1 0 none) 5)=some (slice x_39 x_40 x_41))/\∃ ad,x_39=some ad/\(0<=x/\x<(x_40:Int))/\∃ (x_42:ByteArray),(∀ u,S u->cell? u (add (add ad (Int.toNat x *
 3)) 0)=some (string x_42))/\∃ x_43,(∀ u,S u->cell? u (add (add ad (Int.toNat x*3)) 1)=some (bool x_43))/\∃ x_44,(∀ u,S u->cell? u (add (add ad (Int.toNat x*3)) 2) =
 some (bool x_44)) ∧ bif Program.stoodInHeld Tryz.prog 56 || Program.eqGuardType Tryz.prog (Program.depth Tryz.prog) 56 || List.any (Array.toList #[Field.mk "Name" 9 0 false "" "" 0,
 Field.mk "Index" 4 1 false "" "" 16, Field.mk "Write" 4 2 false "" "" 17]) fun (f : Field) => Field.name f == "_" then False else bif !(ByteArray.toList x_36 == ByteArray.toList x_42 &&
 (decide (x_37=x_43) && (decide (x_38=x_44) && true))) then K (bool false) (drew w) else I (wrap i64 (x+1)) (drew w)/\μ (wrap i64 (x+1)) (drew w)<μ x w else ∃ x
 x_33 x_34,cell? w (add (mk g 0 none) 6)=some (slice x x_33 x_34)/\∃ (I:Int->World->Prop) (μ:Int->World->Nat),I 0 w/\∀ x w,I x w->bif decide (x<(x_33:Int))
 then ∃ (S:World->Prop),S (drew w)/\∃ x_35 x_36 x_37,(∀ u,S u->cell? u (add (mk g 0 none) 6)=some (slice x_35 x_36 x_37))/\∃ ad,x_35=some ad/\(0<=x/\x<(x_36 :
 Int))/\∃ x_38 x_39 x_40,(∀ u,S u->cell? u (add (add ad (Int.toNat x*3)) 0)=some (slice x_38 x_39 x_40))/\∃ x_41,(∀ u,S u->cell? u (add (add ad (Int.toNat x*3)) 1)=some
 (int i64 x_41))/\∃ x_42,(∀ u,S u->cell? u (add (add ad (Int.toNat x*3)) 2)=some (bool x_42))/\∃ x_43 x_44 x_45,(∀ u,S u->cell? u (add (mk g_1 0 none) 6)=some (slice
 x_43 x_44 x_45))/\∃ ad,x_43=some ad/\(0<=x/\x<(x_44:Int))/\∃ x_46 x_47 x_48,(∀ u,S u->cell? u (add (add ad (Int.toNat x*3)) 0)=some (slice x_46 x_47 x_48))/\∃ x_49,(∀
 u,S u->cell? u (add (add ad (Int.toNat x*3)) 1)=some (int i64 x_49))/\∃ x_50,(∀ u,S u->cell? u (add (add ad (Int.toNat x*3)) 2)=some (bool x_50))/\(∀ g w',Fresh (drew w) g
 w' [slice none 0 0,int i64 0,bool false] 59->S w'/\∀ g_2 w'_2,Fresh w' g_2 w'_2 [slice none 0 0,int i64 0,bool false] 59->S w'_2/\stOK (mk g 0 none) 0 [slice
 x_38 x_39 x_40,int i64 x_41,bool x_42] w'_2/\∀ w',w'=setAll (mk g 0 none) 0 [slice x_38 x_39 x_40,int i64 x_41,bool x_42] w'_2->S w'/\stOK (mk g_2 0 none) 0 [slice x_46 x_47
 x_48,int i64 x_49,bool x_50] w'/\∀ w'_3,w'_3=setAll (mk g_2 0 none) 0 [slice x_46 x_47 x_48,int i64 x_49,bool x_50] w'->∃ x_51,cell? w'_3 (add (mk g 0 none) 1)=some
 (int i64 x_51)/\∃ x_52,cell? w'_3 (add (mk g_2 0 none) 1)=some (int i64 x_52)/\bif !decide (x_51=x_52) then K (bool false) w'_3 else ∃ x_53,cell? w'_3 (add (mk g 0
 none) 2)=some (bool x_53)/\∃ x_54,cell? w'_3 (add (mk g_2 0 none) 2)=some (bool x_54)/\bif !decide (x_53=x_54) then K (bool false) w'_3 else ∃ x_55
 x_56 x_57,cell? w'_3 (add (mk g 0 none) 0)=some (slice x_55 x_56 x_57)/\∃ x_58 x_59 x_60,cell? w'_3 (add (mk g_2 0 none) 0)=some (slice x_58 x_59 x_60)/\bif
 !decide ((x_56:Int)=(x_59:Int)) then K (bool false) w'_3 else ∃ x_61 x_62 x_63,cell? w'_3 (add (mk g 0 none) 0)=some (slice x_61 x_62 x_63)/\∃ (I_1:Int->World
 -> Prop) (μ_1:Int->World->Nat),I_1 0 w'_3/\∀ x_64 w_1,I_1 x_64 w_1->bif decide (x_64<(x_62:Int)) then ∃ (S:World->Prop),S (drew w_1)/\∃ x x_65 x_66,(∀ u,S u->cell? u (add
 (mk g 0 none) 0)=some (slice x x_65 x_66))/\∃ ad,x=some ad/\(0<=x_64/\x_64<(x_65:Int))/\∃ x,(∀ u,S u->cell? u (add ad (Int.toNat x_64*1))=some (bool x))
 /\ ∃ x_67 x_68 x_69,(∀ u,S u->cell? u (add (mk g_2 0 none) 0)=some (slice x_67 x_68 x_69))/\∃ ad,x_67=some ad/\(0<=x_64/\x_64<(x_68:Int))/\∃ x_70,(∀ u,S u->cell?
 u (add ad (Int.toNat x_64*1))=some (bool x_70))/\bif !decide (x=x_70) then K (bool false) (drew w_1) else I_1 (wrap i64 (x_64+1)) (drew w_1)/\μ_1 (wrap i64 (x_64+1))
 (drew w_1)<μ_1 x_64 w_1 else I (wrap i64 (x+1)) w_1/\μ (wrap i64 (x+1)) w_1<μ x w)/\∀ g w',Fresh (drew w) g w' [slice none 0 0,int i64 0,bool false] 59->S w'/\∀ g_2 w'_2,
 Fresh w' g_2 w'_2 [slice none 0 0,int i64 0,bool false] 59->S w'_2/\stOK (mk g_2 0 none) 0 [slice x_38 x_39 x_40,int i64 x_41,bool x_42] w'_2/\∀ w',w'=setAll (mk g_2 0
 none) 0 [slice x_38 x_39 x_40,int i64 x_41,bool x_42] w'_2->S w'/\stOK (mk g 0 none) 0 [slice x_46 x_47 x_48,int i64 x_49,bool x_50] w'/\∀ w'_3,w'_3=setAll (mk g 0 none)
 0 [slice x_46 x_47 x_48,int i64 x_49,bool x_50] w'->∃ x_51,cell? w'_3 (add (mk g_2 0 none) 1)=some (int i64 x_51)/\∃ x_52,cell? w'_3 (add (mk g 0 none) 1)=some
 (int i64 x_52)/\bif !decide (x_51=x_52) then K (bool false) w'_3 else ∃ x_53,cell? w'_3 (add (mk g_2 0 none) 2)=some (bool x_53)/\∃ x_54,cell? w'_3 (add (mk g 0
 none) 2)=some (bool x_54)/\bif !decide (x_53=x_54) then K (bool false) w'_3 else ∃ x_55 x_56 x_57,cell? w'_3 (add (mk g_2 0 none) 0)=some (slice x_55
 x_56 x_57)/\∃ x_58 x_59 x_60,cell? w'_3 (add (mk g 0 none) 0)=some (slice x_58 x_59 x_60)/\bif !decide ((x_56:Int)=(x_59:Int)) then K (bool false) w'_3 else ∃
 x_61 x_62 x_63,cell? w'_3 (add (mk g_2 0 none) 0)=some (slice x_61 x_62 x_63)/\∃ (I_1:Int->World->Prop) (μ_1:Int->World->Nat),I_1 0 w'_3/\∀ x_64 w_1,I_1 x_64 w_1->bif
 decide (x_64<(x_62:Int)) then ∃ (S:World->Prop),S (drew w_1)/\∃ x x_65 x_66,(∀ u,S u->cell? u (add (mk g_2 0 none) 0)=some (slice x x_65 x_66))/\∃ ad,x =
 some ad/\(0<=x_64/\x_64<(x_65:Int))/\∃ x,(∀ u,S u->cell? u (add ad (Int.toNat x_64*1))=some (bool x))/\∃ x_67 x_68 x_69,(∀ u,S u->cell? u (add (mk g 0 none) 0) =
 some (slice x_67 x_68 x_69))/\∃ ad,x_67=some ad/\(0<=x_64/\x_64<(x_68:Int))/\∃ x_70,(∀ u,S u->cell? u (add ad (Int.toNat x_64*1))=some (bool x_70))/\bif
 !decide (x=x_70) then K (bool false) (drew w_1) else I_1 (wrap i64 (x_64+1)) (drew w_1)/\μ_1 (wrap i64 (x_64+1)) (drew w_1)<μ_1 x_64 w_1 else I (wrap i64 (x+1)) w_1/\μ (wrap
 i64 (x+1)) w_1<μ x w else ∃ x x_35 x_36,cell? w (add (mk g 0 none) 7)=some (slice x x_35 x_36)/\∃ (I:Int->World->Prop) (μ:Int->World->Nat),I 0 w/\∀ x w,I x w->bif
 decide (x<(x_35:Int)) then ∃ (S:World->Prop),S (drew w)/\∃ x_37 x_38 x_39,(∀ u,S u->cell? u (add (mk g 0 none) 7)=some (slice x_37 x_38 x_39))/\∃ ad,x_37 =
 some ad/\(0<=x/\x<(x_38:Int))/\∃ (x_40:ByteArray),(∀ u,S u->cell? u (add (add ad (Int.toNat x*2)) 0)=some (string x_40))/\∃ x_41,(∀ u,S u->cell? u (add (add ad
 (Int.toNat x*2)) 1)=some (bool x_41))/\∃ x_42 x_43 x_44,(∀ u,S u->cell? u (add (mk g_1 0 none) 7)=some (slice x_42 x_43 x_44))/\∃ ad,x_42=some ad/\(0<=x/\x
 < (x_43:Int))/\∃ (x_45:ByteArray),(∀ u,S u->cell? u (add (add ad (Int.toNat x*2)) 0)=some (string x_45))/\∃ x_46,(∀ u,S u->cell? u (add (add ad (Int.toNat x*2)) 1) =
 some (bool x_46)) ∧ bif Program.stoodInHeld Tryz.prog 61 || Program.eqGuardType Tryz.prog (Program.depth Tryz.prog) 61 || List.any (Array.toList #[Field.mk "Func" 9 0 false "" "" 0,
 Field.mk "Distinct" 4 1 false "" "" 16]) fun (f : Field) => Field.name f == "_" then False else bif !(ByteArray.toList x_40 == ByteArray.toList x_45 && (decide (x_41 = x_46) &&
 true)) then K (bool false) (drew w) else I (wrap i64 (x+1)) (drew w)/\μ (wrap i64 (x+1)) (drew w)<μ x w else ∃ x x_37 x_38,cell? w (add (mk g 0 none) 8)=some (slice x
 x_37 x_38)/\∃ (I:Int->World->Prop) (μ:Int->World->Nat),I 0 w/\∀ x w,I x w->bif decide (x<(x_37:Int)) then ∃ (S:World->Prop),S (drew w)/\∃ x_39 x_40 x_41,(∀ u,S u ->
 cell? u (add (mk g 0 none) 8)=some (slice x_39 x_40 x_41))/\∃ ad,x_39=some ad/\(0<=x/\x<(x_40:Int))/\∃ x_42,(∀ u,S u->cell? u (add (add ad (Int.toNat x*5)) 0) =
 some (int u8 x_42))/\∃ x_43,(∀ u,S u->cell? u (add (add ad (Int.toNat x*5)) 1)=some (int i64 x_43))/\∃ x_44,(∀ u,S u->cell? u (add (add ad (Int.toNat x*5)) 2)=some
 (int i64 x_44))/\∃ x_45,(∀ u,S u->cell? u (add (add ad (Int.toNat x*5)) 3)=some (int i64 x_45))/\∃ x_46,(∀ u,S u->cell? u (add (add ad (Int.toNat x*5)) 4)=some (int i64
 x_46))/\∃ x_47 x_48 x_49,(∀ u,S u->cell? u (add (mk g_1 0 none) 8)=some (slice x_47 x_48 x_49))/\∃ ad,x_47=some ad/\(0<=x/\x<(x_48:Int))/\∃ x_50,(∀ u,S u ->
 cell? u (add (add ad (Int.toNat x*5)) 0)=some (int u8 x_50))/\∃ x_51,(∀ u,S u->cell? u (add (add ad (Int.toNat x*5)) 1)=some (int i64 x_51))/\∃ x_52,(∀ u,S u->cell? u (add
 (add ad (Int.toNat x*5)) 2)=some (int i64 x_52))/\∃ x_53,(∀ u,S u->cell? u (add (add ad (Int.toNat x*5)) 3)=some (int i64 x_53))/\∃ x_54,(∀ u,S u->cell? u (add (add ad
 (Int.toNat x * 5)) 4) = some (int i64 x_54)) ∧ bif Program.stoodInHeld Tryz.prog 46 || Program.eqGuardType Tryz.prog (Program.depth Tryz.prog) 46 || List.any (Array.toList #[Field.mk "Op" 44 0
 false "" "" 0, Field.mk "A" 3 1 false "" "" 8, Field.mk "B" 3 2 false "" "" 16, Field.mk "C" 3 3 false "" "" 24, Field.mk "D" 3 4 false "" "" 32]) fun (f : Field) => Field.name
 f == "_" then False else bif !(decide (x_42 = x_50) && (decide (x_43 = x_51) && (decide (x_44 = x_52) && (decide (x_45 = x_53) && (decide (x_46 = x_54)
 && true))))) then K (bool false) (drew w) else I (wrap i64 (x+1)) (drew w)/\μ (wrap i64 (x+1)) (drew w)<μ x w else K (bool true) w
theorem cardindexlaw15_Same.calls (ok:Okay Tryz.prog) {a0 a1 a2 a3_A a3_n a3_c a4_A a4_n a4_c a5_A a5_n a5_c a6_A a6_n a6_c a7_A a7_n a7_c a8_A a8_n a8_c b0 b1 b2 b3_A b3_n b3_c b4_A b4_n b4_c b5_A b5_n b5_c b6_A b6_n b6_c b7_A b7_n b7_c b8_A b8_n b8_c w K} (h:cardindexlaw15_Same.W a0 a1 a2 a3_A a3_n a3_c a4_A a4_n a4_c a5_A a5_n a5_c a6_A a6_n a6_c a7_A a7_n a7_c a8_A a8_n a8_c b0 b1 b2 b3_A b3_n b3_c b4_A b4_n b4_c b5_A b5_n b5_c b6_A b6_n b6_c b7_A b7_n b7_c b8_A b8_n b8_c w K):CallsV Tryz.prog 11 #[.agg #[.int .i64 a0,.int .i64 a1,.int .i64 a2,.slice a3_A a3_n a3_c,.slice a4_A a4_n a4_c,.slice a5_A a5_n a5_c,.slice a6_A a6_n a6_c,.slice a7_A a7_n a7_c,.slice a8_A a8_n a8_c],.agg #[.int .i64 b0,.int .i64 b1,.int .i64 b2,.slice b3_A b3_n b3_c,.slice b4_A b4_n b4_c,.slice b5_A b5_n b5_c,.slice b6_A b6_n b6_c,.slice b7_A b7_n b7_c,.slice b8_A b8_n b8_c]] w K :=
  fnW_calls ok Tryz.func11 (an:=(.named (.seq .auto (.seq .auto (.seq (.seq .auto (.block (.loop [(88,.one (.int .i64))] .auto))) (.seq (.seq .auto (.block (.loop [(106,.one (.int .i64))] .auto))) (.seq (.seq .auto (.block (.loop [(124,.one (.int .i64))] (.seq .auto (.seq .auto (.seq (.block (.seq .auto (.seq .auto (.seq .auto (.seq .auto (.block (.loop [(161,.one (.int .i64))] .auto))))))) .auto)))))) (.seq (.seq .auto (.block (.loop [(180,.one (.int .i64))] .auto))) (.seq (.seq .auto (.block (.loop [(198,.one (.int .i64))] .auto))) .auto))))))))) (args:=[.agg #[.int .i64 a0,.int .i64 a1,.int .i64 a2,.slice a3_A a3_n a3_c,.slice a4_A a4_n a4_c,.slice a5_A a5_n a5_c,.slice a6_A a6_n a6_c,.slice a7_A a7_n a7_c,.slice a8_A a8_n a8_c],.agg #[.int .i64 b0,.int .i64 b1,.int .i64 b2,.slice b3_A b3_n b3_c,.slice b4_A b4_n b4_c,.slice b5_A b5_n b5_c,.slice b6_A b6_n b6_c,.slice b7_A b7_n b7_c,.slice b8_A b8_n b8_c]]) (Eq.mp (by kernel_rfl) h)
noncomputable def cardindexkit_SameTexts.W:Option Addr->Nat->Nat->Option Addr->Nat->Nat->World->(Value->World->Prop)->Prop:=fun a_A a_n a_c b_A b_n b_c w K=>bif !decide ((a_n
 : Int)=(b_n:Int)) then K (bool false) w else ∃ (I:Int->World->Prop) (μ:Int->World->Nat),I 0 w/\∀ x w,I x w->bif decide (x<(a_n:Int)) then ∃ ad,a_A=some ad /\
 (0<=x/\x<(a_n:Int))/\∃ (S:World->Prop),S (drew w)/\∃ (x_1:ByteArray),(∀ u,S u->cell? u (add ad (Int.toNat x*1))=some (string x_1))/\∃ ad,b_A=some ad/\(0<=x/\x
 < (b_n:Int))/\∃ (x_2:ByteArray),(∀ u,S u->cell? u (add ad (Int.toNat x*1))=some (string x_2))/\bif !ByteArray.toList x_1 == ByteArray.toList x_2 then K (bool false) (drew w)
 else I (wrap i64 (x+1)) (drew w)/\μ (wrap i64 (x+1)) (drew w)<μ x w else K (bool true) w
theorem cardindexkit_SameTexts.calls (ok:Okay Tryz.prog) {a_A a_n a_c b_A b_n b_c w K} (h:cardindexkit_SameTexts.W a_A a_n a_c b_A b_n b_c w K):CallsV Tryz.prog 44 #[.slice a_A a_n a_c,.slice b_A b_n b_c] w K :=
  fnW_calls ok Tryz.func44 (an:=(.named (.seq .auto (.seq .auto (.seq (.seq .auto (.block (.loop [(5,.one (.int .i64))] .auto))) .auto))))) (args:=[.slice a_A a_n a_c,.slice b_A b_n b_c]) (Eq.mp (by kernel_rfl) h)
end Go.Proofs.YtaifphjenebgoaaGreatDoor
set_option linter.unusedVariables false
set_option maxRecDepth 100000
namespace Go.Proofs.YtaifphjenebgoaaGreatDoor
open Go Go.Sx Value IntKind World Addr Builtin
noncomputable def bytes_digit.W:Int->Int->World->(Value->World->Prop)->Prop:=fun n k w K=>0<=wrap i64 (7*k)/\(128: Int)≠0/\K (int u8 (wrap u8 (Int.tmod (Int.fdiv n (2 ^ Min.min
 (Int.toNat (wrap i64 (7*k))) 64)) 128))) w
theorem bytes_digit.calls (ok:Okay Tryz.prog) {n k w K} (h:bytes_digit.W n k w K):CallsV Tryz.prog 125 #[.int .u64 n,.int .i64 k] w K :=
  fnW_calls ok Tryz.func125 (an:=.auto) (args:=[.int .u64 n,.int .i64 k]) (Eq.mp (by kernel_rfl) h)
noncomputable def bytes_Uint.W:Option Addr->Nat->Nat->Int->World->(Value->World->Prop)->Prop:=fun out_A out_n out_c n w K=>∃ (I:Int->Int->World->Prop) (μ:Int->Int->World->Nat),
 I 0 0 w/\∀ x x_1 w,I x x_1 w->bif decide (x_1<10) then CallsV Tryz.prog 125 #[int u64 n,int i64 x_1] w fun v w'=>∃ x_2,v=int u8 x_2/\bif decide (0<x_2) then I x_1
 (wrap i64 (x_1+1)) w'/\μ x_1 (wrap i64 (x_1+1)) w'<μ x x_1 w else I x (wrap i64 (x_1+1)) w'/\μ x (wrap i64 (x_1+1)) w'<μ x x_1 w else ∃ (I:Option Addr->Nat->Nat->Int->World->Prop)
 (μ:Option Addr->Nat->Nat->Int->World->Nat),I out_A out_n out_c 0 w/\∀ x_2 x_3 x_4 x_5 w,I x_2 x_3 x_4 x_5 w->bif decide (x_5<x) then CallsV Tryz.prog 125 #[int u64 n,int i64
 x_5] w fun v w'=>∃ x,v=int u8 x/\∃ x_6 x_7 x_8 w'_1,RunsTo Tryz.prog (append_ (Array.mk [32,32]) 32 #[slice x_2 x_3 x_4,slice (some (mk (Array.size (heap w')) 0 none)) 1 1])
 (alloc w' (Obj.cells #[int u8 (wrap u8 (x+128))] 5)) (slice x_6 x_7 x_8) w'_1/\I x_6 x_7 x_8 (wrap i64 (x_5+1)) w'_1/\μ x_6 x_7 x_8 (wrap i64 (x_5+1)) w'_1<μ x_2 x_3 x_4 x_5 w else CallsV
 Tryz.prog 125 #[int u64 n,int i64 x] w fun v w'=>∃ x,v=int u8 x/\∃ x_6 x_7 x_8 w'_1,RunsTo Tryz.prog (append_ (Array.mk [32,32]) 32 #[slice x_2 x_3 x_4,slice (some (mk (Array.size
 (heap w')) 0 none)) 1 1]) (alloc w' (Obj.cells #[int u8 x] 5)) (slice x_6 x_7 x_8) w'_1/\K (slice x_6 x_7 x_8) w'_1
theorem bytes_Uint.calls (ok:Okay Tryz.prog) {out_A out_n out_c n w K} (h:bytes_Uint.W out_A out_n out_c n w K):CallsV Tryz.prog 63 #[.slice out_A out_n out_c,.int .u64 n] w K :=
  fnW_calls ok Tryz.func63 (an:=(.seq .auto (.seq .auto (.seq (.seq .auto (.block (.loop [(5,.one (.int .i64)),(8,.one (.int .i64))] .auto))) (.seq (.seq .auto (.block (.loop [(0,.one .slc),(18,.one (.int .i64))] .auto))) .auto))))) (args:=[.slice out_A out_n out_c,.int .u64 n]) (Eq.mp (by kernel_rfl) h)
noncomputable def bytes_Blob.W:Option Addr->Nat->Nat->Option Addr->Nat->Nat->World->(Value->World->Prop)->Prop:=fun out_A out_n out_c b_A b_n b_c w K=>CallsV Tryz.prog 63 #[slice out_A
 out_n out_c,int u64 (wrap u64 (b_n:Int))] w fun v w'=>∃ x x_1 x_2,v=slice x x_1 x_2/\∃ x_3 x_4 x_5 w'_1,RunsTo Tryz.prog (append_ (Array.mk [32,32]) 32 #[slice x x_1 x_2,slice b_A b_n b_c])
 w' (slice x_3 x_4 x_5) w'_1/\K (slice x_3 x_4 x_5) w'_1
theorem bytes_Blob.calls (ok:Okay Tryz.prog) {out_A out_n out_c b_A b_n b_c w K} (h:bytes_Blob.W out_A out_n out_c b_A b_n b_c w K):CallsV Tryz.prog 28 #[.slice out_A out_n out_c,.slice b_A b_n b_c] w K :=
  fnW_calls ok Tryz.func28 (an:=.auto) (args:=[.slice out_A out_n out_c,.slice b_A b_n b_c]) (Eq.mp (by kernel_rfl) h)
noncomputable def record_Put.W:Option Addr->Nat->Nat->World->(Value->World->Prop)->Prop:=fun row_A row_n row_c w K=>CallsV Tryz.prog 64 #[slice row_A row_n row_c] w fun v w'=>∃ x,v =
 int i64 x/\bif !decide (x=0) then K (tuple #[slice none 0 0,int i64 x]) w' else CallsV Tryz.prog 63 #[slice none 0 0,int u64 (wrap u64 (row_n:Int))] w' fun v w'=>∃ x
 x_1 x_2,v=slice x x_1 x_2/\∃ (I:Option Addr->Nat->Nat->Int->World->Prop) (μ:Option Addr->Nat->Nat->Int->World->Nat),I x x_1 x_2 0 w'/\∀ x x_3 x_4 x_5 w,I x x_3 x_4 x_5 w->bif
 decide (x_5<(row_n:Int)) then ∃ ad,row_A=some ad/\(0<=x_5/\x_5<(row_n:Int))/\∃ x_6,cell? w (add (add ad (Int.toNat x_5*3)) 0)=some (int u8 x_6)/\∃ x_7,
 cell? w (add (add ad (Int.toNat x_5*3)) 1)=some (int i64 x_7)/\∃ (x_8:ByteArray),cell? w (add (add ad (Int.toNat x_5*3)) 2)=some (string x_8)/\(Option.isSome (cell? (alloc w
 (Obj.cells #[int u8 0,int i64 0,string (ByteArray.mk #[])] 54)) (add (mk (Array.size (heap w)) 0 none) 0))=true/\frozen? (alloc w (Obj.cells #[int u8 0,int i64 0,string (ByteArray.mk
 #[])] 54)) (add (mk (Array.size (heap w)) 0 none) 0)=false)/\(Option.isSome (cell? (setCell (alloc w (Obj.cells #[int u8 0,int i64 0,string (ByteArray.mk #[])] 54)) (add (mk
 (Array.size (heap w)) 0 none) 0) (int u8 x_6)) (add (mk (Array.size (heap w)) 0 none) 1))=true/\frozen? (setCell (alloc w (Obj.cells #[int u8 0,int i64 0,string (ByteArray.mk
 #[])] 54)) (add (mk (Array.size (heap w)) 0 none) 0) (int u8 x_6)) (add (mk (Array.size (heap w)) 0 none) 1)=false)/\(Option.isSome (cell? (setCell (setCell (alloc w (Obj.cells
 #[int u8 0,int i64 0,string (ByteArray.mk #[])] 54)) (add (mk (Array.size (heap w)) 0 none) 0) (int u8 x_6)) (add (mk (Array.size (heap w)) 0 none) 1) (int i64 x_7)) (add (mk
 (Array.size (heap w)) 0 none) 2))=true/\frozen? (setCell (setCell (alloc w (Obj.cells #[int u8 0,int i64 0,string (ByteArray.mk #[])] 54)) (add (mk (Array.size (heap w)) 0 none)
 0) (int u8 x_6)) (add (mk (Array.size (heap w)) 0 none) 1) (int i64 x_7)) (add (mk (Array.size (heap w)) 0 none) 2)=false)/\∃ x_9,cell? (setCell (setCell (setCell (alloc w
 (Obj.cells #[int u8 0,int i64 0,string (ByteArray.mk #[])] 54)) (add (mk (Array.size (heap w)) 0 none) 0) (int u8 x_6)) (add (mk (Array.size (heap w)) 0 none) 1) (int i64 x_7)) (add (mk
 (Array.size (heap w)) 0 none) 2) (string x_8)) (add (mk (Array.size (heap w)) 0 none) 0)=some (int u8 x_9)/\∃ x_10,cell? (setCell (setCell (setCell (alloc w (Obj.cells #[int u8
 0,int i64 0,string (ByteArray.mk #[])] 54)) (add (mk (Array.size (heap w)) 0 none) 0) (int u8 x_6)) (add (mk (Array.size (heap w)) 0 none) 1) (int i64 x_7)) (add (mk (Array.size (heap
 w)) 0 none) 2) (string x_8)) (add (mk (Array.size (heap w)) 0 none) 1)=some (int i64 x_10)/\∃ (x_11:ByteArray),cell? (setCell (setCell (setCell (alloc w (Obj.cells #[int u8
 0,int i64 0,string (ByteArray.mk #[])] 54)) (add (mk (Array.size (heap w)) 0 none) 0) (int u8 x_6)) (add (mk (Array.size (heap w)) 0 none) 1) (int i64 x_7)) (add (mk (Array.size (heap
 w)) 0 none) 2) (string x_8)) (add (mk (Array.size (heap w)) 0 none) 2)=some (string x_11)/\CallsV Tryz.prog 65 #[agg #[int u8 x_9,int i64 x_10,string x_11]] (setCell (setCell
 (setCell (alloc w (Obj.cells #[int u8 0,int i64 0,string (ByteArray.mk #[])] 54)) (add (mk (Array.size (heap w)) 0 none) 0) (int u8 x_6)) (add (mk (Array.size (heap w)) 0 none) 1) (int
 i64 x_7)) (add (mk (Array.size (heap w)) 0 none) 2) (string x_8)) fun v w'=>∃ x_12,v=int u64 x_12/\CallsV Tryz.prog 63 #[slice x x_3 x_4,int u64 x_12] w' fun v w'=>∃ x_13 x_14 x_15,v =
 slice x_13 x_14 x_15/\I x_13 x_14 x_15 (wrap i64 (x_5+1)) w'/\μ x_13 x_14 x_15 (wrap i64 (x_5+1)) w'<μ x x_3 x_4 x_5 w else ∃ (I:Option Addr->Nat->Nat->Int->World->Prop) (μ:Option Addr
 -> Nat->Nat->Int->World->Nat),I x x_3 x_4 0 w/\∀ x x_6 x_7 x_8 w,I x x_6 x_7 x_8 w->bif decide (x_8<(row_n:Int)) then ∃ ad,row_A=some ad/\(0<=x_8/\x_8<(row_n:Int))
 /\ ∃ x_9,cell? w (add (add ad (Int.toNat x_8*3)) 0)=some (int u8 x_9)/\∃ x_10,cell? w (add (add ad (Int.toNat x_8*3)) 1)=some (int i64 x_10)/\∃ (x_11:ByteArray),cell? w (add
 (add ad (Int.toNat x_8*3)) 2)=some (string x_11)/\(Option.isSome (cell? (alloc w (Obj.cells #[int u8 0,int i64 0,string (ByteArray.mk #[])] 54)) (add (mk (Array.size (heap w)) 0
 none) 0))=true/\frozen? (alloc w (Obj.cells #[int u8 0,int i64 0,string (ByteArray.mk #[])] 54)) (add (mk (Array.size (heap w)) 0 none) 0)=false)/\(Option.isSome (cell?
 (setCell (alloc w (Obj.cells #[int u8 0,int i64 0,string (ByteArray.mk #[])] 54)) (add (mk (Array.size (heap w)) 0 none) 0) (int u8 x_9)) (add (mk (Array.size (heap w)) 0 none) 1)) =
 true/\frozen? (setCell (alloc w (Obj.cells #[int u8 0,int i64 0,string (ByteArray.mk #[])] 54)) (add (mk (Array.size (heap w)) 0 none) 0) (int u8 x_9)) (add (mk (Array.size (heap w)) 0
 none) 1)=false)/\(Option.isSome (cell? (setCell (setCell (alloc w (Obj.cells #[int u8 0,int i64 0,string (ByteArray.mk #[])] 54)) (add (mk (Array.size (heap w)) 0 none) 0) (int
 u8 x_9)) (add (mk (Array.size (heap w)) 0 none) 1) (int i64 x_10)) (add (mk (Array.size (heap w)) 0 none) 2))=true/\frozen? (setCell (setCell (alloc w (Obj.cells #[int u8 0,int
 i64 0,string (ByteArray.mk #[])] 54)) (add (mk (Array.size (heap w)) 0 none) 0) (int u8 x_9)) (add (mk (Array.size (heap w)) 0 none) 1) (int i64 x_10)) (add (mk (Array.size (heap w)) 0
 none) 2)=false)/\∃ x_12,cell? (setCell (setCell (setCell (alloc w (Obj.cells #[int u8 0,int i64 0,string (ByteArray.mk #[])] 54)) (add (mk (Array.size (heap w)) 0 none) 0) (int
 u8 x_9)) (add (mk (Array.size (heap w)) 0 none) 1) (int i64 x_10)) (add (mk (Array.size (heap w)) 0 none) 2) (string x_11)) (add (mk (Array.size (heap w)) 0 none) 0)=some
 (int u8 x_12)/\bif decide (x_12=1) then ∃ (S:World->Prop),S (drew (setCell (setCell (setCell (alloc w (Obj.cells #[int u8 0,int i64 0,string (ByteArray.mk #[])] 54)) (add (mk
 (Array.size (heap w)) 0 none) 0) (int u8 x_9)) (add (mk (Array.size (heap w)) 0 none) 1) (int i64 x_10)) (add (mk (Array.size (heap w)) 0 none) 2) (string x_11)))/\∃ x_13,(∀ u,S
 u->cell? u (add (mk (Array.size (heap w)) 0 none) 1)=some (int i64 x_13))/\∃ x_14,(∀ u,S u->cell? u (add (mk (Array.size (heap w)) 0 none) 1)=some (int i64 x_14)) /\
 CallsV Tryz.prog 67 #[int i64 x_14] (drew (setCell (setCell (setCell (alloc w (Obj.cells #[int u8 0,int i64 0,string (ByteArray.mk #[])] 54)) (add (mk (Array.size (heap w)) 0 none) 0) (int u8
 x_9)) (add (mk (Array.size (heap w)) 0 none) 1) (int i64 x_10)) (add (mk (Array.size (heap w)) 0 none) 2) (string x_11))) fun v w'=>∃ x_15,v=int i64 x_15/\∃ (S':World->Prop),(∀
 u,S' u->S u)/\S' w'/\CallsV Tryz.prog 66 #[slice x x_6 x_7,int u64 (wrap u64 x_13),int i64 x_15] w' fun v w'=>∃ x_16 x_17 x_18,v=slice x_16 x_17 x_18/\∃ (S'_1:World->Prop),(∀ u,S'_1 u
 -> S' u)/\S'_1 w'/\∃ (x_19:ByteArray),cell? w' (add (mk (Array.size (heap w)) 0 none) 2)=some (string x_19)/\∃ x_20 x_21 x_22 w'_1,RunsTo Tryz.prog (append_ (Array.mk [32,9]) 32
 #[slice x_16 x_17 x_18,string x_19]) w' (slice x_20 x_21 x_22) w'_1/\I x_20 x_21 x_22 (wrap i64 (x_8+1)) w'_1/\μ x_20 x_21 x_22 (wrap i64 (x_8+1)) w'_1<μ x x_6 x_7 x_8 w else ∃ (x_13 :
 ByteArray),cell? (setCell (setCell (setCell (alloc w (Obj.cells #[int u8 0,int i64 0,string (ByteArray.mk #[])] 54)) (add (mk (Array.size (heap w)) 0 none) 0) (int u8 x_9)) (add (mk
 (Array.size (heap w)) 0 none) 1) (int i64 x_10)) (add (mk (Array.size (heap w)) 0 none) 2) (string x_11)) (add (mk (Array.size (heap w)) 0 none) 2)=some (string x_13)/\∃
 x_14 x_15 x_16 w',RunsTo Tryz.prog (append_ (Array.mk [32,9]) 32 #[slice x x_6 x_7,string x_13]) (setCell (setCell (setCell (alloc w (Obj.cells #[int u8 0,int i64 0,string (ByteArray.mk #[])] 54))
 (add (mk (Array.size (heap w)) 0 none) 0) (int u8 x_9)) (add (mk (Array.size (heap w)) 0 none) 1) (int i64 x_10)) (add (mk (Array.size (heap w)) 0 none) 2) (string x_11)) (slice
 x_14 x_15 x_16) w'/\I x_14 x_15 x_16 (wrap i64 (x_8+1)) w'/\μ x_14 x_15 x_16 (wrap i64 (x_8+1)) w'<μ x x_6 x_7 x_8 w else CallsV Tryz.prog 68 #[slice x x_6 x_7] w fun v w'=>∃ x x_9 x_10 x_11,
 v=tuple #[slice x x_9 x_10,int i64 x_11]/\K (tuple #[slice x x_9 x_10,int i64 x_11]) w'
theorem record_Put.calls (ok:Okay Tryz.prog) {row_A row_n row_c w K} (h:record_Put.W row_A row_n row_c w K):CallsV Tryz.prog 27 #[.slice row_A row_n row_c] w K :=
  fnW_calls ok Tryz.func27 (an:=(.seq .auto (.seq .auto (.seq .auto (.seq (.seq .auto (.block (.loop [(5,.one .slc),(21,.one (.int .i64))] .auto))) (.seq (.seq .auto (.block (.loop [(5,.one .slc),(32,.one (.int .i64))] .auto))) .auto)))))) (args:=[.slice row_A row_n row_c]) (Eq.mp (by kernel_rfl) h)
noncomputable def record_sort.W:Int->Int->ByteArray->World->(Value->World->Prop)->Prop:=fun v0 v1 v2 w K=>∃ x,cell? (alloc w (Obj.cells #[int u8 v0,int i64 v1,string v2] 54)) (add (mk
 (Array.size (heap w)) 0 none) 0)=some (int u8 x)/\bif decide (x=1) then ∃ x,cell? (alloc w (Obj.cells #[int u8 v0,int i64 v1,string v2] 54)) (add (mk (Array.size (heap
 w)) 0 none) 1)=some (int i64 x)/\CallsV Tryz.prog 67 #[int i64 x] (alloc w (Obj.cells #[int u8 v0,int i64 v1,string v2] 54)) fun v w'=>∃ x,v=int i64 x/\K (int u64 (wrap u64 x))
 w' else bif decide (x=3) then ∃ (x:ByteArray),cell? (alloc w (Obj.cells #[int u8 v0,int i64 v1,string v2] 54)) (add (mk (Array.size (heap w)) 0 none) 2)=some (string x)
 /\ K (int u64 (wrap u64 (wrap u64 (2*wrap u64 (↑(ByteArray.size x):Int))+10))) (alloc w (Obj.cells #[int u8 v0,int i64 v1,string v2] 54)) else bif decide (x=2) then ∃ (x :
 ByteArray),cell? (alloc w (Obj.cells #[int u8 v0,int i64 v1,string v2] 54)) (add (mk (Array.size (heap w)) 0 none) 2)=some (string x)/\K (int u64 (wrap u64 (wrap u64 (2*wrap u64
 (↑(ByteArray.size x):Int))+11))) (alloc w (Obj.cells #[int u8 v0,int i64 v1,string v2] 54)) else K (int u64 0) (alloc w (Obj.cells #[int u8 v0,int i64 v1,string v2] 54))
theorem record_sort.calls (ok:Okay Tryz.prog) {v0 v1 v2 w K} (h:record_sort.W v0 v1 v2 w K):CallsV Tryz.prog 65 #[.agg #[.int .u8 v0,.int .i64 v1,.string v2]] w K :=
  fnW_calls ok Tryz.func65 (an:=.auto) (args:=[.agg #[.int .u8 v0,.int .i64 v1,.string v2]]) (Eq.mp (by kernel_rfl) h)
noncomputable def record_high.W:Option Addr->Nat->Nat->Int->Int->World->(Value->World->Prop)->Prop:=fun out_A out_n out_c n k w K=>∃ (I:Option Addr->Nat->Nat->Int->World->Prop) (μ
 : Option Addr->Nat->Nat->Int->World->Nat),I out_A out_n out_c (wrap i64 (k-1)) w/\∀ x x_1 x_2 x_3 w,I x x_1 x_2 x_3 w->bif decide (0<=x_3) then 0<=wrap i64 (8*x_3)/\∃ x_4 x_5
 x_6 w',RunsTo Tryz.prog (append_ (Array.mk [32,32]) 32 #[slice x x_1 x_2,slice (some (mk (Array.size (heap w)) 0 none)) 1 1]) (alloc w (Obj.cells #[int u8 (wrap u8 (Int.fdiv n (2 ^
 Min.min (Int.toNat (wrap i64 (8*x_3))) 64)))] 5)) (slice x_4 x_5 x_6) w'/\I x_4 x_5 x_6 (wrap i64 (x_3-1)) w'/\μ x_4 x_5 x_6 (wrap i64 (x_3-1)) w'<μ x x_1 x_2 x_3 w else K (slice x x_1 x_2) w
theorem record_high.calls (ok:Okay Tryz.prog) {out_A out_n out_c n k w K} (h:record_high.W out_A out_n out_c n k w K):CallsV Tryz.prog 66 #[.slice out_A out_n out_c,.int .u64 n,.int .i64 k] w K :=
  fnW_calls ok Tryz.func66 (an:=(.seq .auto (.seq (.seq .auto (.block (.loop [(0,.one .slc),(7,.one (.int .i64))] .auto))) .auto))) (args:=[.slice out_A out_n out_c,.int .u64 n,.int .i64 k]) (Eq.mp (by kernel_rfl) h)
noncomputable def record_wide.W:Int->World->(Value->World->Prop)->Prop:=fun n w K=>∃ (I:Int->World->Prop) (μ:Int->World->Nat),(0<=wrap i64 (64-wrap i64 ((8: Int)*1))/\0<=wrap
 i64 (64-wrap i64 ((8: Int)*1))/\bif !decide (Int.fdiv (wrap i64 (n*2 ^ Min.min (Int.toNat (wrap i64 (64-wrap i64 ((8: Int)*1)))) 64)) (2 ^ Min.min (Int.toNat (wrap i64 (64-wrap
 i64 ((8: Int)*1)))) 64)=n) then I (wrap i64 ((1: Int)+1)) w else K (int i64 1) w)/\∀ x w,I x w->bif decide (x<8) then 0<=wrap i64 (64-wrap i64 (8*x))/\0<=wrap i64 (64-wrap
 i64 (8*x))/\bif !decide (Int.fdiv (wrap i64 (n*2 ^ Min.min (Int.toNat (wrap i64 (64-wrap i64 (8*x)))) 64)) (2 ^ Min.min (Int.toNat (wrap i64 (64-wrap i64 (8*x)))) 64)=n) then I
 (wrap i64 (x+1)) w/\μ (wrap i64 (x+1)) w<μ x w else K (int i64 x) w else K (int i64 x) w
theorem record_wide.calls (ok:Okay Tryz.prog) {n w K} (h:record_wide.W n w K):CallsV Tryz.prog 67 #[.int .i64 n] w K :=
  fnW_calls ok Tryz.func67 (an:=(.seq .auto (.scope 0 [(3,.one (.int .i64))] .auto .auto))) (args:=[.int .i64 n]) (Eq.mp (by kernel_rfl) h)
noncomputable def record_bounded.W:Option Addr->Nat->Nat->World->(Value->World->Prop)->Prop:=fun b_A b_n b_c w K=>bif decide (1048576<(b_n:Int)) then K (tuple #[slice
 none 0 0,int i64 3]) w else K (tuple #[slice b_A b_n b_c,int i64 0]) w
theorem record_bounded.calls (ok:Okay Tryz.prog) {b_A b_n b_c w K} (h:record_bounded.W b_A b_n b_c w K):CallsV Tryz.prog 68 #[.slice b_A b_n b_c] w K :=
  fnW_calls ok Tryz.func68 (an:=.auto) (args:=[.slice b_A b_n b_c]) (Eq.mp (by kernel_rfl) h)
noncomputable def bytes_GetUint.W:Option Addr->Nat->Nat->Int->World->(Value->World->Prop)->Prop:=fun b_A b_n b_c atx w K=>bif decide (atx<0) then K (tuple #[int u64 0,int i64
 0,int i64 2]) w else bif decide ((b_n:Int)<atx) then K (tuple #[int u64 0,int i64 0,int i64 2]) w else ∃ (J:Int->World->Prop),(∀ x w,J x w->bif decide (x=(b_n :
 Int)) then K (tuple #[int u64 0,int i64 0,int i64 11]) w else ∃ (S:World->Prop),S (drew w)/\∃ ad,b_A=some ad/\(0<=x/\x<(b_n:Int))/\∃ x_1,(∀ u,S u->cell? u (add ad (Int.toNat
 x*1))=some (int u8 x_1))/\∃ (J:World->Prop),(∀ w,J w->∃ (I:Int->Int->World->Prop) (μ:Int->Int->World->Nat),I (wrap i64 (x-1)) (wrap u64 x_1) w/\∀ x_2 x_3 w,I x_2 x_3 w
 -> bif decide (atx<=x_2) then ∃ ad,b_A=some ad/\(0<=x_2/\x_2<(b_n:Int))/\∃ x,cell? w (add ad (Int.toNat x_2*1))=some (int u8 x)/\I (wrap i64 (x_2-1)) (wrap
 u64 (wrap u64 (x_3*128)+wrap u64 (wrap u8 (x-128)))) w/\μ (wrap i64 (x_2-1)) (wrap u64 (wrap u64 (x_3*128)+wrap u64 (wrap u8 (x-128)))) w<μ x_2 x_3 w else K (tuple #[int u64 x_3,int
 i64 (wrap i64 (atx+wrap i64 (wrap i64 (x-atx)+1))),int i64 0]) w)/\bif decide (1<wrap i64 (wrap i64 (x-atx)+1)) then bif decide (x_1=0) then K (tuple #[int u64 0,
 int i64 0,int i64 10]) (drew w) else bif decide (wrap i64 (wrap i64 (x-atx)+1)=10) then bif decide (2<=x_1) then K (tuple #[int u64 0,int i64 0,int i64 10]) (drew w) else
 J (drew w) else J (drew w) else bif decide (wrap i64 (wrap i64 (x-atx)+1)=10) then bif decide (2<=x_1) then K (tuple #[int u64 0,int i64 0,int i64 10]) (drew w) else J
 (drew w) else J (drew w))/\∃ (I:Int->World->Prop) (μ:Int->World->Nat),I atx w/\∀ x w,I x w->bif decide (x<(b_n:Int)) then bif decide (x<wrap i64 (wrap i64 (atx +
 10)-1)) then ∃ ad,b_A=some ad/\(0<=x/\x<(b_n:Int))/\∃ x_1,cell? w (add ad (Int.toNat x*1))=some (int u8 x_1)/\bif decide (128<=x_1) then I (wrap i64 (x+1))
 w/\μ (wrap i64 (x+1)) w<μ x w else J x w else J x w else J x w
theorem bytes_GetUint.calls (ok:Okay Tryz.prog) {b_A b_n b_c atx w K} (h:bytes_GetUint.W b_A b_n b_c atx w K):CallsV Tryz.prog 69 #[.slice b_A b_n b_c,.int .i64 atx] w K :=
  fnW_calls ok Tryz.func69 (an:=(.seq .auto (.seq .auto (.seq .auto (.join [(7,.one (.int .i64))] (.block (.loop [(7,.one (.int .i64))] .auto)) (.seq .auto (.seq .auto (.join [] .auto (.seq .auto (.seq (.seq .auto (.block (.loop [(7,.one (.int .i64)),(10,.one (.int .u64))] .auto))) .auto)))))))))) (args:=[.slice b_A b_n b_c,.int .i64 atx]) (Eq.mp (by kernel_rfl) h)
noncomputable def bytes_GetBlob.W:Option Addr->Nat->Nat->Int->Int->World->(Value->World->Prop)->Prop:=fun b_A b_n b_c atx most w K=>CallsV Tryz.prog 69 #[slice b_A b_n b_c,int i64 atx]
 w fun v w'=>∃ x x_1 x_2,v=tuple #[int u64 x,int i64 x_1,int i64 x_2]/\bif !decide (x_2=0) then K (tuple #[slice none 0 0,int i64 0,int i64 x_2]) w' else (0<=x_1/\x_1 <=
 (b_n:Int))/\bif decide (most<0) then K (tuple #[slice none 0 0,int i64 0,int i64 3]) w' else bif decide (wrap u64 most<x) then K (tuple #[slice none 0 0,int
 i64 0,int i64 3]) w' else bif decide (wrap u64 (↑(b_n-Int.toNat x_1):Int)<x) then K (tuple #[slice none 0 0,int i64 0,int i64 11]) w' else (0<=x/\x<=(↑(b_c-Int.toNat x_1)
 : Int))/\∃ x_3 x_4 x_5 w'_1,RunsTo Tryz.prog (append_ (Array.mk [32,32]) 32 #[slice (some (mk (Array.size (heap w')) 0 none)) 0 0,slice (cutAt (cutAt b_A b_c (Int.toNat x_1) 1) (b_c -
 Int.toNat x_1) 0 1) (Int.toNat x-0) (b_c-Int.toNat x_1-0)]) (alloc w' (Obj.cells #[] 5)) (slice x_3 x_4 x_5) w'_1/\K (tuple #[slice x_3 x_4 x_5,int i64 (wrap i64 (x_1+wrap i64 x)),int i64
 0]) w'_1
theorem bytes_GetBlob.calls (ok:Okay Tryz.prog) {b_A b_n b_c atx most w K} (h:bytes_GetBlob.W b_A b_n b_c atx most w K):CallsV Tryz.prog 70 #[.slice b_A b_n b_c,.int .i64 atx,.int .i64 most] w K :=
  fnW_calls ok Tryz.func70 (an:=.auto) (args:=[.slice b_A b_n b_c,.int .i64 atx,.int .i64 most]) (Eq.mp (by kernel_rfl) h)
end Go.Proofs.YtaifphjenebgoaaGreatDoor
set_option linter.unusedVariables false
set_option maxRecDepth 100000
namespace Go.Proofs.YtaifphjenebgoaaGreatDoor
open Go Go.Sx Value IntKind World Addr Builtin
noncomputable def record_right.W:Option Addr->Nat->Nat->World->(Value->World->Prop)->Prop:=fun row_A row_n row_c w K=>bif decide (200<(row_n:Int)) then K (int i64 3) w else
 CallsV Tryz.prog 83 #[slice row_A row_n row_c,func (Fn.func 126) #[] #[]] w fun v w'=>∃ x,v=bool x/\bif x then K (int i64 2) w' else K (int i64 0) w'
theorem record_right.calls (ok:Okay Tryz.prog) {row_A row_n row_c w K} (h:record_right.W row_A row_n row_c w K):CallsV Tryz.prog 64 #[.slice row_A row_n row_c] w K :=
  fnW_calls ok Tryz.func64 (an:=(.named .auto)) (args:=[.slice row_A row_n row_c]) (Eq.mp (by kernel_rfl) h)
noncomputable def record_right_1.W:Int->Int->ByteArray->World->(Value->World->Prop)->Prop:=fun v0 v1 v2 w K=>∀ g w',Fresh w g w' [int u8 v0,int i64 v1,string v2] 54->∃ x,cell? w' (add
 (mk g 0 none) 0)=some (int u8 x)/\∃ x_1,cell? w' (add (mk g 0 none) 1)=some (int i64 x_1)/\∃ (x_2:ByteArray),cell? w' (add (mk g 0 none) 2)=some
 (string x_2)/\CallsV Tryz.prog 77 #[agg #[int u8 x,int i64 x_1,string x_2]] w' fun v w'=>∃ x,v=bool x/\K (bool !x) w'
theorem record_right_1.calls (ok:Okay Tryz.prog) {v0 v1 v2 w K} (h:record_right_1.W v0 v1 v2 w K):CallsV Tryz.prog 126 #[.agg #[.int .u8 v0,.int .i64 v1,.string v2]] w K :=
  fnW_calls ok Tryz.func126 (an:=(.named .auto)) (args:=[.agg #[.int .u8 v0,.int .i64 v1,.string v2]]) (Eq.mp (by kernel_rfl) h)
end Go.Proofs.YtaifphjenebgoaaGreatDoor
set_option linter.unusedVariables false
set_option linter.unusedSimpArgs false
namespace Go.Proofs.YtaifphjenebgoaaGreatDoor
open Go Go.Sx R1
theorem okay:Okay Tryz.prog:=⟨by kernel_rfl,by kernel_rfl⟩
theorem brS {l l':List UInt8} {A B:Prop} (h1:l=l'->A) (h2:l≠l'->B):cond (ByteArray.toList ⟨l.toArray⟩ == ByteArray.toList ⟨l'.toArray⟩) A B:=by rw [eq_str];exact brd h1 h2
theorem brnS {l l':List UInt8} {A B:Prop} (h1:l≠l'->A) (h2:l=l'->B):cond (!(ByteArray.toList ⟨l.toArray⟩ == ByteArray.toList ⟨l'.toArray⟩)) A B:=by rw [eq_str];exact brn h1 h2
def vc (v:V):List Value:=[.int .u8 v.k,.int .i64 v.n,.string v.s]
def KV:Kd V:=⟨3,fun _ _ a cs=>cs=vc a,fun h=>by simp [h,vc],fun h _=>h⟩
theorem KV_pos : 0<KV.size:=by decide
theorem KV_one:∀ (Ω:Nat->Prop) (w:World) a cs,KV.rep Ω w a cs->∀ v∈cs,v.oneCell'=true:=by
  intro Ω w a cs h v hv
  have h:cs=vc a:=h
  subst h
  simp [vc] at hv
  rcases hv with rfl|rfl|rfl<;>rfl
def V0:V:=⟨0,0,ByteArray.empty⟩
end Go.Proofs.YtaifphjenebgoaaGreatDoor
set_option linter.unusedVariables false
set_option linter.unusedSimpArgs false
namespace B1
def dig (m k:Nat):Nat:=m / 128 ^ k % 128
theorem dig_lt (m k:Nat):dig m k<128:=Nat.mod_lt _ (by decide)
theorem dig_zero (m:Nat):dig m 0=m % 128:=by simp [dig]
theorem dig_succ (m k:Nat):dig m (k+1)=dig (m / 128) k:=by
  unfold dig
  rw [Nat.pow_succ,Nat.mul_comm,Nat.div_div_eq_div_mul]
def enc (m:Nat):List UInt8 :=
  if h:m<128 then [m.toUInt8] else (m % 128+128).toUInt8::enc (m / 128)
termination_by m
decreasing_by omega
theorem enc_lt {m:Nat} (h:m<128):enc m=[m.toUInt8]:=by rw [enc];simp [h]
theorem enc_ge {m:Nat} (h : 128<=m):enc m=(m % 128+128).toUInt8::enc (m / 128):=by rw [enc];simp [Nat.not_lt.2 h]
theorem enc_ne (m:Nat):enc m≠[]:=by rw [enc];split<;>simp
theorem enc_length_pos (m:Nat) : 0<(enc m).length:=List.length_pos_iff.2 (enc_ne m)
def top (m:Nat):Nat->Nat
  | 0=>0
  | k+1=>if 0<dig m k then k else top m k
theorem top_le (m:Nat):∀ k,top m k<=k-1
  | 0=>by simp [top]
  | k+1=>by unfold top;have:=top_le m k;split<;>omega
theorem top_small {m:Nat} (h:m<128):∀ k,top m k=0
  | 0=>rfl
  | k+1=>by
    unfold top
    cases k with
    | zero=>simp [top]
    | succ j =>
      have:dig m (j+1)=0:=by rw [dig_succ,Nat.div_eq_of_lt h];simp [dig]
      rw [if_neg (by omega),top_small h]
theorem top_big {m:Nat} (h : 128<=m):∀ k,m<128 ^ (k+1)->top m (k+1)=top (m / 128) k+1
  | 0,hk=>by simp at hk;omega
  | k+1,hk=>by
    have hd:m / 128<128 ^ (k+1):=by rw [Nat.div_lt_iff_lt_mul (by decide),<- Nat.pow_succ];exact hk
    unfold top
    rw [dig_succ]
    by_cases hp : 0<dig (m / 128) k
    · rw [if_pos hp]
      cases k<;>rw [if_pos hp]
    · rw [if_neg hp,if_neg hp]
      by_cases hs:m<128 ^ (k+1)
      · exact top_big h k hs
      · exfalso
        apply hp
        unfold dig
        have h1:m / 128 / 128 ^ k=m / 128 ^ (k+1):=by rw [Nat.div_div_eq_div_mul,Nat.pow_succ,Nat.mul_comm]
        rw [h1]
        have h2 : 0<m / 128 ^ (k+1):=Nat.div_pos (Nat.le_of_not_lt hs) (Nat.pow_pos (by decide))
        have h3:m / 128 ^ (k+1)<128:=by rw [Nat.div_lt_iff_lt_mul (Nat.pow_pos (by decide)),Nat.mul_comm,<- Nat.pow_succ];exact hk
        rw [Nat.mod_eq_of_lt h3]
        exact h2
theorem enc_top:∀ (k m:Nat),m<128 ^ k->0<k->enc m=(List.range (top m k)).map (fun j=>(dig m j+128).toUInt8)++[(dig m (top m k)).toUInt8]:=by
  intro k
  induction k with
  | zero=>intro m _ h;omega
  | succ k ih =>
    intro m hm _
    by_cases h:m<128
    · rw [enc_lt h,top_small h,dig_zero,Nat.mod_eq_of_lt h];rfl
    · have h' : 128<=m:=by omega
      cases k with
      | zero=>simp at hm;omega
      | succ k =>
        have hd:m / 128<128 ^ (k+1):=by rw [Nat.div_lt_iff_lt_mul (by decide),<- Nat.pow_succ];exact hm
        rw [enc_ge h',ih (m / 128) hd (by omega),top_big h' (k+1) hm,List.range_succ_eq_map]
        simp only [List.map_cons,List.map_map,List.cons_append,dig_zero,dig_succ,Function.comp_def]
theorem enc_length_le {m:Nat}:∀ {k:Nat},m<128 ^ k->0<k->(enc m).length<=k:=by
  intro k h hk
  rw [enc_top k m h hk]
  have:=top_le m k
  simp;omega
theorem enc_le_ten {m:Nat} (h:m<2 ^ 64):(enc m).length<=10 :=
  enc_length_le (k:=10) (Nat.lt_trans h (by decide)) (by decide)
/-! ## reading -/
inductive Dec where
  | ok (n used:Nat)
  | short
  | bad
def Dec.up (x:Nat):Dec->Dec
  | .ok n u=>.ok (128*n+x) (u+1)
  | .short=>.short
  | .bad=>.bad
def dec:Nat->List UInt8->Dec
  | _,[]=>.short
  | k,c::r =>
    if k<9/\128<=c.toNat then (dec (k+1) r).up (c.toNat-128)
    else if (0<k/\c.toNat=0)\/(k=9/\2<=c.toNat) then .bad
    else .ok c.toNat 1
def scan:Nat->List UInt8->Nat
  | _,[]=>0
  | k,c::r=>if k<9/\128<=c.toNat then scan (k+1) r+1 else 0
def vt:Nat->List UInt8->Nat
  | _,[]=>0
  | 0,c::_=>c.toNat
  | e+1,c::r=>128*vt e r+(c.toNat-128)
theorem scan_le:∀ (l:List UInt8) (k:Nat),scan k l<=l.length
  | [],k=>by simp [scan]
  | c::r,k=>by unfold scan;have:=scan_le r (k+1);split<;>simp<;>omega
theorem scan_nine:∀ (l:List UInt8) (k:Nat),k<=9->k+scan k l<=9
  | [],k,h=>by simp [scan];omega
  | c::r,k,h=>by
    unfold scan
    split
    · have:=scan_nine r (k+1) (by omega);omega
    · omega
theorem dec_eq:∀ (l:List UInt8) (k:Nat),dec k l=if scan k l<l.length then
      (if (0<k+scan k l/\(l.getD (scan k l) 0).toNat=0)\/(k+scan k l=9/\2<=(l.getD (scan k l) 0).toNat) then .bad else .ok (vt (scan k l) l) (scan k l+1)) else .short
  | [],k=>by simp [dec]
  | c::r,k=>by
    by_cases hc:k<9/\128<=c.toNat
    · have hs:scan k (c::r)=scan (k+1) r+1:=by rw [scan,if_pos hc]
      rw [dec,if_pos hc,dec_eq r (k+1),hs]
      generalize scan (k+1) r=s
      have e1:k+1+s=k+(s+1):=by omega
      have e2:(s+1<(c::r).length)=(s<r.length):=by simp
      have e3:(c::r).getD (s+1) 0=r.getD s 0:=by simp [List.getD]
      rw [e1,e3]
      by_cases hlt:s<r.length
      · rw [if_pos hlt,if_pos (show s+1<(c::r).length by simpa using hlt)]
        by_cases hb:(0<k+(s+1)/\(r.getD s 0).toNat=0)\/(k+(s+1)=9/\2<=(r.getD s 0).toNat)
        · rw [if_pos hb,if_pos hb];exact rfl
        · rw [if_neg hb,if_neg hb];exact rfl
      · rw [if_neg hlt,if_neg (show ¬ s+1<(c::r).length by simpa using hlt)];exact rfl
    · have hs:scan k (c::r)=0:=by rw [scan,if_neg hc]
      rw [dec,if_neg hc,hs]
      rw [if_pos (show 0<(c::r).length by simp)]
      exact rfl
theorem vt_lt:∀ (e:Nat) (l:List UInt8) (M:Nat),e<l.length->(l.getD e 0).toNat<=M->vt e l<(M+1)*128 ^ e
  | _,[],M,h,_=>absurd h (Nat.not_lt_zero _)
  | 0,c::r,M,h,hM=>by
    have hM':c.toNat<=M:=hM
    show c.toNat<(M+1)*1
    omega
  | e+1,c::r,M,h,hM=>by
    have ih:=vt_lt e r M (Nat.lt_of_succ_lt_succ h) hM
    have hc:c.toNat<256:=c.toNat_lt
    show 128*vt e r+(c.toNat-128)<(M+1)*(128 ^ e*128)
    rw [<- Nat.mul_assoc]
    omega
theorem vt_lt_u64 {l:List UInt8} (h:scan 0 l<l.length) (hb : ¬ (scan 0 l=9/\2<=(l.getD (scan 0 l) 0).toNat)):vt (scan 0 l) l<18446744073709551616:=by
  have h9:=scan_nine l 0 (by omega)
  generalize scan 0 l=e at *
  by_cases e9:e=9
  · subst e9
    have hlt:=vt_lt 9 l 1 h (by have:=fun h2=>hb ⟨rfl,h2⟩;omega)
    exact Nat.lt_of_lt_of_le hlt (by decide)
  · have hlt:=vt_lt e l 255 h (by have:=(l.getD e 0).toNat_lt;omega)
    have:(255+1)*128 ^ e<=(255+1)*128 ^ 8:=Nat.mul_le_mul_left _ (Nat.pow_le_pow_right (by decide) (by omega))
    exact Nat.lt_of_lt_of_le hlt (Nat.le_trans this (by decide))
theorem getD_drop {α:Type} (l:List α) (i j:Nat) (d : α):(l.drop i).getD j d=l.getD (i+j) d:=by simp [List.getD,List.getElem?_drop]
theorem drop_getD (l:List UInt8) (i:Nat) (h:i<l.length):l.drop i=l.getD i 0::l.drop (i+1):=by
  rw [List.drop_eq_getElem_cons h];simp [List.getD,h]
theorem vt_drop (i e:Nat) (l:List UInt8) (h:i<l.length) (hi:i<e):vt (e-i) (l.drop i)=128*vt (e-(i+1)) (l.drop (i+1))+((l.getD i 0).toNat-128):=by
  rw [drop_getD l i h,show e-i=(e-(i+1))+1 by omega]
  exact rfl
theorem vt_mono (e:Nat) (l:List UInt8):∀ i,i<=e->i<=l.length->vt (e-i) (l.drop i)<=vt e l
  | 0,_,_=>by simp
  | i+1,h,h'=>by
    have h1:=vt_mono e l i (by omega) (by omega)
    rw [vt_drop i e l (by omega) (by omega)] at h1
    omega
theorem vt_zero (l:List UInt8) (h : 0<l.length):vt 0 l=(l.getD 0 0).toNat:=by
  cases l with
  | nil=>simp at h
  | cons c r=>rfl
theorem scan_ge:∀ (l:List UInt8) (k i:Nat),i<scan k l->128<=(l.getD i 0).toNat
  | [],k,i,h=>by simp [scan] at h
  | c::r,k,i,h=>by
    by_cases hc:k<9/\128<=c.toNat
    · rw [scan,if_pos hc] at h
      cases i with
      | zero=>exact hc.2
      | succ i=>exact scan_ge r (k+1) i (by omega)
    · rw [scan,if_neg hc] at h;omega
theorem scan_unique:∀ (l:List UInt8) (k e:Nat),k+e<=9->e<=l.length->(∀ i,i<e->128<=(l.getD i 0).toNat)->(e=l.length\/k+e=9\/(l.getD e 0).toNat<128)->scan k l=e
  | [],k,e,_,he,_,_=>by simp at he;simp [scan,he]
  | c::r,k,e,h9,he,hge,hst=>by
    cases e with
    | zero =>
      rw [scan,if_neg]
      intro hc
      rcases hst with h|h|h
      · simp at h
      · omega
      · have h:c.toNat<128:=h
        omega
    | succ e =>
      have h0 : 128<=c.toNat:=hge 0 (by omega)
      rw [scan,if_pos ⟨by omega,h0⟩]
      rw [scan_unique r (k+1) e (by omega) (by simpa using he) (fun i hi=>hge (i+1) (by omega)) (by
        rcases hst with h|h|h
        · left;simpa using h
        · right;left;omega
        · right;right;exact h)]
def Dec.at (a:Int):Dec->Nat×Int×Int
  | .ok n u=>(n,a+u,0)
  | .short=>(0,0,11)
  | .bad=>(0,0,10)
def getU (l:List UInt8) (at_:Int):Nat×Int×Int :=
  if at_<0\/(l.length:Int)<at_ then (0,0,2) else (dec 0 (l.drop at_.toNat)).at at_
theorem toUInt8_toNat {n:Nat} (h:n<256):(n.toUInt8).toNat=n:=by
  simp [Nat.toUInt8];omega
/-! ## what is written is read -/
theorem dec_enc:∀ (m k:Nat) (r:List UInt8),k<=9->m<128 ^ (9-k)*2->(0<k->0<m)->dec k (enc m++r)=.ok m (enc m).length:=by
  intro m
  induction m using Nat.strongRecOn with
  | ind m ih =>
    intro k r hk hm hpos
    by_cases h:m<128
    · rw [enc_lt h]
      have ht:(m.toUInt8).toNat=m:=toUInt8_toNat (by omega)
      show dec k (m.toUInt8::r)=_
      rw [dec,ht,if_neg (by omega),if_neg]
      · rfl
      · rintro (⟨h1,h2⟩|⟨h1,h2⟩)
        · have:=hpos h1;omega
        · subst h1;simp at hm;omega
    · have h' : 128<=m:=by omega
      have hk9:k<9:=by
        rcases Nat.lt_or_ge k 9 with h|h
        · exact h
        · have:k=9:=by omega
          subst this;simp at hm;omega
      rw [enc_ge h']
      have ht:((m % 128+128).toUInt8).toNat=m % 128+128:=toUInt8_toNat (by omega)
      show dec k ((m % 128+128).toUInt8::(enc (m / 128)++r))=_
      have hd:m / 128<128 ^ (9-(k+1))*2:=by
        rw [Nat.div_lt_iff_lt_mul (by decide),Nat.mul_right_comm,<- Nat.pow_succ,show (9-(k+1)).succ=9-k by omega];exact hm
      rw [dec,ht,if_pos ⟨hk9,by omega⟩,ih (m / 128) (by omega) (k+1) r (by omega) hd (by omega)]
      show Dec.ok _ _=Dec.ok _ _
      rw [show 128*(m / 128)+(m % 128+128-128)=m by omega]
      rfl
theorem lim64 {m:Nat} (h:m<18446744073709551616):m<128 ^ (9-0)*2:=Nat.lt_of_lt_of_le h (by decide)
theorem getU_enc (pre:List UInt8) (m:Nat) (r:List UInt8) (hm:m<18446744073709551616):getU (pre++(enc m++r)) (pre.length:Int)=(m,((pre.length+(enc m).length:Nat):Int),0):=by
  rw [getU,if_neg (by simp;omega),Int.toNat_natCast,List.drop_left,dec_enc m 0 r (by omega) (lim64 hm) (by omega)]
  simp [Dec.at]
/-! ## order -/
/-! ## what is read is as it would be written -/
def low (l:List UInt8):Nat:=l.countP fun c=>decide (c.toNat<128)
theorem low_append (a b:List UInt8):low (a++b)=low a+low b:=List.countP_append
theorem dec_ok:∀ (l:List UInt8) (k n u:Nat),k<=9->dec k l=.ok n u->0<u/\u<=l.length/\l.take u=enc n/\(0<k->0<n)/\low (l.take u)=1
  | [],k,n,u,hk,h=>by simp [dec] at h
  | c::r,k,n,u,hk,h=>by
    have hc256:=c.toNat_lt
    by_cases hc:k<9/\128<=c.toNat
    · rw [dec,if_pos hc] at h
      cases hd:dec (k+1) r with
      | ok n' u' =>
        rw [hd] at h
        injection h with h1 h2
        subst h1 h2
        obtain ⟨i1,i2,i3,i4,i5⟩:=dec_ok r (k+1) n' u' (by omega) hd
        have hn:=i4 (by omega)
        refine ⟨by omega,by simp;omega,?_,fun _=>by omega,?_⟩
        · rw [enc_ge (by omega),List.take_succ_cons,i3,show (128*n'+(c.toNat-128)) / 128=n' by omega,show (128*n'+(c.toNat-128)) % 128+128=c.toNat by omega]
          simp
        · rw [List.take_succ_cons]
          show low ([c]++r.take u')=1
          rw [low_append,i5]
          simp [low];omega
      | short=>rw [hd] at h;cases h
      | bad=>rw [hd] at h;cases h
    · rw [dec,if_neg hc] at h
      split at h
      · cases h
      · rename_i hb
        injection h with h1 h2
        subst h1 h2
        refine ⟨by omega,by simp,?_,fun _=>by omega,?_⟩
        · rw [enc_lt (by omega)];simp
        · simp [low];omega
end B1
set_option linter.unusedVariables false
set_option linter.unusedSimpArgs false
namespace Go.Proofs.YtaifphjenebgoaaGreatDoor
open Go Go.Sx
theorem slB:SlT Tryz.prog 32 5 1 1 [.int .u8 0]:=⟨by kernel_rfl,⟨Tryz.t5,by kernel_rfl,by kernel_rfl,by kernel_rfl,.int .u8 0,by kernel_rfl,by kernel_rfl⟩,rfl,by decide⟩
theorem digit_spec (n k:Nat) (hn:n<2 ^ 64) (hk:k<10) (w:World):CallsV Tryz.prog 125 #[.int .u64 n,.int .i64 k] w fun v w'=>v=.int .u8 (B1.dig n k:Nat)/\w'=w:=by
  refine bytes_digit.calls okay ?_
  unfold bytes_digit.W
  have h7:IntKind.i64.wrap ((7:Int)*k)=((7*k:Nat):Int):=by rw [wi _ (by omega) (by omega)];simp
  have hm:min (7*k) 64=7*k:=by omega
  have hp:(2:Nat) ^ (7*k)=128 ^ k:=by rw [Nat.pow_mul]
  refine ⟨by rw [h7];omega,by decide,?_,rfl⟩
  rw [h7,Int.toNat_natCast,hm,show ((2:Int) ^ (7*k))=((128 ^ k:Nat):Int) by rw [<- hp];simp,Int.fdiv_eq_ediv_of_nonneg _ (Int.natCast_nonneg _),<- Int.natCast_ediv,
    Int.tmod_eq_emod_of_nonneg (Int.natCast_nonneg _),show (128:Int)=((128:Nat):Int) from rfl,<- Int.natCast_emod,w8 _ (by omega) (by have:=Nat.mod_lt (n / 128 ^ k) (show 0<128 by decide);omega)]
  rfl
def pre (m k:Nat):List UInt8:=(List.range k).map fun j=>(B1.dig m j+128).toUInt8
theorem pre_succ (m k:Nat):pre m (k+1)=pre m k++[(B1.dig m k+128).toUInt8]:=by simp [pre,List.range_succ]
theorem pre_len (m k:Nat):(pre m k).length=k:=by simp [pre]
theorem appendB {w:World} {A:Option Addr} {c:Nat} {l:List UInt8} (h:OwnB w A c l) (b:UInt8) (hb:l.length+1<=140737488355328) (e:TypeId) (ty:TypeId) :
    ∃ A' c' w',RunsTo Tryz.prog (Builtin.append_ #[32,32] ty #[.slice A l.length c,.slice (some ⟨w.heap.size,0,none⟩) 1 1]) (w.alloc (.cells #[u8 b] e)) (.slice A' (l.length+1) c') w'/\OwnB w' A' c' (l++[b])/\Grew A A' w w'/\A'≠none:=by
  obtain ⟨A',c',w',hr,ho,hf,hs,hn⟩:=append_one (ty:=ty) slB h (cs:=[u8 b]) rfl (by simp [u8,Value.oneCell']) (e':=e) (by simp [maxLen];omega) (by omega)
  exact ⟨A',c',w',hr,by unfold OwnB;simpa using ho,⟨hf,hs⟩,hn⟩
theorem Uint_spec {w:World} {A:Option Addr} {c:Nat} {l:List UInt8} (h:OwnB w A c l) (m:Nat) (hm:m<2 ^ 64) (hb:l.length+10<=140737488355328) :
    CallsV Tryz.prog 63 #[.slice A l.length c,.int .u64 m] w fun v w'=>∃ A' c',v=.slice A' (l++B1.enc m).length c'/\OwnB w' A' c' (l++B1.enc m)/\Grew A A' w w'/\A'≠none:=by
  refine bytes_Uint.calls okay ?_
  unfold bytes_Uint.W
  refine ⟨fun t k w1=>∃ j:Nat,j<=10/\k=(j:Int)/\t=(B1.top m j:Nat)/\w=w1,fun t k _=>(10-k).toNat,⟨0,by omega,rfl,rfl,rfl⟩,?_⟩
  rintro _ _ _ ⟨j,hj,rfl,rfl,rfl⟩
  refine brd (fun h10=>?_) (fun h10=>?_)
  · refine (digit_spec m j hm (by omega) _).same ⟨_,rfl,?_⟩
    have hw:IntKind.i64.wrap ((j:Int)+1)=((j+1:Nat):Int):=by rw [wi _ (by omega) (by omega)];simp
    rw [hw]
    refine brd (fun h0=>?_) (fun h0=>?_)
    · exact ⟨⟨j+1,by omega,rfl,by rw [B1.top,if_pos (by omega)],rfl⟩,by dsimp only;omega⟩
    · exact ⟨⟨j+1,by omega,rfl,by rw [B1.top,if_neg (by omega)],rfl⟩,by dsimp only;omega⟩
  · obtain rfl:j=10:=by omega
    have ht:B1.top m 10<=9:=B1.top_le m 10
    have henc:B1.enc m=pre m (B1.top m 10)++[(B1.dig m (B1.top m 10)).toUInt8]:=B1.enc_top 10 m (Nat.lt_trans hm (by decide)) (by decide)
    refine ⟨fun A1 n1 c1 k w1=>∃ j:Nat,j<=B1.top m 10/\k=(j:Int)/\n1=(l++pre m j).length/\OwnB w1 A1 c1 (l++pre m j)/\Grew A A1 w w1,fun _ _ _ k _=>(10-k).toNat,
      ⟨0,by omega,rfl,by simp [pre],by simpa [pre] using h,.refl _ _⟩,?_⟩
    rintro A1 _ c1 _ w1 ⟨j,hj,rfl,rfl,ho,hg⟩
    have hd:=B1.dig_lt m j
    have hlen:(l++pre m j).length=l.length+j:=by simp [pre_len]
    refine brd (fun hlt=>?_) (fun hlt=>?_)
    · refine (digit_spec m j hm (by omega) _).same ⟨_,rfl,?_⟩
      have hv:IntKind.u8.wrap (((B1.dig m j:Nat):Int)+128)=((B1.dig m j+128:Nat):Int):=by rw [w8 _ (by omega) (by omega)];simp
      rw [hv,toUInt8_int (by omega)]
      obtain ⟨A2,c2,w2,hr,ho2,hg2,_⟩:=appendB ho (B1.dig m j+128).toUInt8 (by omega) 5 32
      have hw:IntKind.i64.wrap ((j:Int)+1)=((j+1:Nat):Int):=by rw [wi _ (by omega) (by omega)];simp
      refine ⟨A2,_,c2,w2,hr,?_⟩
      rw [hw]
      refine ⟨⟨j+1,by omega,rfl,by simp [pre_len];omega,?_,hg.trans hg2⟩,by dsimp only;omega⟩
      rw [pre_succ,<- List.append_assoc];exact ho2
    · obtain rfl:j=B1.top m 10:=by omega
      refine (digit_spec m _ hm (by omega) _).same ⟨_,rfl,?_⟩
      rw [toUInt8_int (by omega)]
      obtain ⟨A2,c2,w2,hr,ho2,hg2,hn⟩:=appendB ho (B1.dig m (B1.top m 10)).toUInt8 (by omega) 5 32
      refine ⟨A2,_,c2,w2,hr,A2,c2,?_,?_,hg.trans hg2,hn⟩
      · rw [henc];simp [Nat.add_assoc]
      · rw [henc,<- List.append_assoc];exact ho2
end Go.Proofs.YtaifphjenebgoaaGreatDoor
