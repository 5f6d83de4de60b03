/- 'RecordNumbers' answers true. -/
import Derived.Test.YtpaockbhbdeekaaRNum
set_option linter.unusedVariables false
set_option linter.unusedSimpArgs false
namespace Go.Proofs.Ytpaockbhbdeekaa
open Go Go.Sx R1
theorem cut_all {α : Type} {K : Kd α} {Ω : Nat → Prop} {w : World} {A : Option Addr} {c n : Nat} {l : List α} (h : Imm K Ω w A l) (hc : l.length ≤ c) (hn : n ≤ l.length) : Imm K Ω w (cutAt A c 0 K.size) (l.take n) := by
  have := h.cut (lo := 0) (hi := n) (m := c) (by omega)
  rwa [List.drop_zero] at this
theorem rep_take {α : Type} (a : α) {n m : Nat} (h : m ≤ n) : (List.replicate n a).take m = List.replicate m a := by rw [List.take_replicate, Nat.min_eq_left h]
theorem snd0 {p : List UInt8 × Int} (h : p.2 = 0) : ∃ l, p = (l, 0) := ⟨p.1, by rw [← h]⟩
theorem Put_n {w : World} {A : Option Addr} {c n : Nat} {l : List V} (hn : n = l.length) (h : Imm KV NoB w A l) (hl : l.length ≤ maxLen) (hg : ∀ v ∈ l, good v) :
    CallsV Try.prog 17 #[.slice A n c] w fun r w' => Tells w (putR l) r w' := by subst hn; exact Put_spec h hl hg
theorem Key_n {w : World} {A D : Option Addr} {c dc n m : Nat} {l : List V} {ds : List Bool} (hn : n = l.length) (hm : m = ds.length) (h : Imm KV NoB w A l) (hD : Imm Kd.bool NoB w D ds) (hl : l.length ≤ maxLen) (hds : ds.length ≤ maxLen) (hg : ∀ v ∈ l, good v) :
    CallsV Try.prog 14 #[.slice A n c, .slice D m dc] w fun r w' => Tells w (keyR l ds) r w' := by subst hn; subst hm; exact Key_spec h hD hl hds hg
theorem ex_wrong_0 : getR [] = ([], 10) := by kernel_rfl
theorem ex_wrong_1 : getR [1] = ([], 10) := by kernel_rfl
theorem ex_wrong_2 : getR [0, 0] = ([], 10) := by kernel_rfl
theorem ex_wrong_3 : getR [1, 1] = ([], 10) := by kernel_rfl
theorem ex_wrong_4 : getR [1, 9, 0] = ([], 10) := by kernel_rfl
theorem ex_wrong_5 : getR [1, 2, 0, 127] = ([], 10) := by kernel_rfl
theorem ex_wrong_6 : getR [1, 2, 255, 128] = ([], 10) := by kernel_rfl
theorem ex_wrong_7 : getR [1, 12] = ([], 10) := by kernel_rfl
theorem ex_wrong_8 : getR [1, 11, 7] = ([], 10) := by kernel_rfl
theorem ex_wrong_9 : getR [129, 0, 0] = ([], 10) := by kernel_rfl
theorem ex_wrong_10 : getR [201, 1] = ([], 10) := by kernel_rfl
theorem ex_wrong_11 : getR [1, 128, 0] = ([], 10) := by kernel_rfl
theorem ex_none_0 : unkeyRR [] [false] = ([], 10) ∧ unkeyRR (([] : List UInt8).map (fun x => ~~~x)) [true] = ([], 10) := by
  constructor <;> simp [unkeyRR, unkeyR, unkeyP, partedP, unesc, tn, be, be']
theorem ex_none_1 : unkeyRR [0] [false] = ([], 10) ∧ unkeyRR ([0].map (fun x => ~~~x)) [true] = ([], 10) := by
  constructor <;> simp [unkeyRR, unkeyR, unkeyP, partedP, unesc, tn, be, be']
theorem ex_none_2 : unkeyRR [5] [false] = ([], 10) ∧ unkeyRR ([5].map (fun x => ~~~x)) [true] = ([], 10) := by
  constructor <;> simp [unkeyRR, unkeyR, unkeyP, partedP, unesc, tn, be, be']
theorem ex_none_3 : unkeyRR [1, 1] [false] = ([], 10) ∧ unkeyRR ([1, 1].map (fun x => ~~~x)) [true] = ([], 10) := by
  constructor <;> simp [unkeyRR, unkeyR, unkeyP, partedP, unesc, tn, be, be']
theorem ex_none_4 : unkeyRR [2, 1] [false] = ([], 10) ∧ unkeyRR ([2, 1].map (fun x => ~~~x)) [true] = ([], 10) := by
  constructor <;> simp [unkeyRR, unkeyR, unkeyP, partedP, unesc, tn, be, be']
theorem ex_none_5 : unkeyRR [3] [false] = ([], 10) ∧ unkeyRR ([3].map (fun x => ~~~x)) [true] = ([], 10) := by
  constructor <;> simp [unkeyRR, unkeyR, unkeyP, partedP, unesc, tn, be, be']
theorem ex_none_6 : unkeyRR [3, 0] [false] = ([], 10) ∧ unkeyRR ([3, 0].map (fun x => ~~~x)) [true] = ([], 10) := by
  constructor <;> simp [unkeyRR, unkeyR, unkeyP, partedP, unesc, tn, be, be']
theorem ex_none_7 : unkeyRR [3, 0, 1, 0, 0] [false] = ([], 10) ∧ unkeyRR ([3, 0, 1, 0, 0].map (fun x => ~~~x)) [true] = ([], 10) := by
  constructor <;> simp [unkeyRR, unkeyR, unkeyP, partedP, unesc, tn, be, be']
theorem ex_none_8 : unkeyRR [3, 0, 0, 0] [false] = ([], 10) ∧ unkeyRR ([3, 0, 0, 0].map (fun x => ~~~x)) [true] = ([], 10) := by
  constructor <;> simp [unkeyRR, unkeyR, unkeyP, partedP, unesc, tn, be, be']
theorem ex_none_9 : unkeyRR [4, 7, 0] [false] = ([], 10) ∧ unkeyRR ([4, 7, 0].map (fun x => ~~~x)) [true] = ([], 10) := by
  constructor <;> simp [unkeyRR, unkeyR, unkeyP, partedP, unesc, tn, be, be']
theorem ex_none_10 : unkeyRR [4, 0, 255] [false] = ([], 10) ∧ unkeyRR ([4, 0, 255].map (fun x => ~~~x)) [true] = ([], 10) := by
  constructor <;> simp [unkeyRR, unkeyR, unkeyP, partedP, unesc, tn, be, be']
set_option maxRecDepth 10000 in
theorem numbers_spec (w : World) : CallsV Try.prog 10 #[] w fun v w' => v = .bool true ∧ Ext w w' := by
  refine cardindexlaw03_RecordNumbers.calls okay ?_
  unfold cardindexlaw03_RecordNumbers.W
  refine ⟨fun i u => ∃ k : Nat, 1 ≤ k ∧ k ≤ 9 ∧ i = (k : Int) ∧ Ext w u, fun i _ => (9 - i).toNat, ⟨1, by omega, by omega, rfl, .refl _ _⟩, ?_⟩
  rintro _ u ⟨k, hk1, hk9, rfl, e⟩
  refine brd (fun hlt => ?_) (fun hge => ?_)
  · refine ⟨by rw [wi (8 * (k : Int)) (by omega) (by omega), wi _ (by omega) (by omega)]; omega, ?_⟩
    intro g w1 f
    have bl := f.blk
    have e1 := e.trans' f.ext
    refine ⟨fun i u => ∃ j : Nat, j ≤ 4 ∧ i = (j : Int) ∧ Ext w1 u, fun i _ => (4 - i).toNat, ⟨0, by omega, rfl, .refl _ _⟩, ?_⟩
    rintro _ u2 ⟨j, hj, rfl, e2⟩
    refine brd (fun hlt2 => ?_) (fun hge2 => ?_)
    · have hj4 : j < 4 := by omega
      have hcells : u2.cell? ((Addr.add ⟨g, 0, none⟩ (j * 2)).add 0) = some (.int .i64 (exN (k : Int) j)) ∧ u2.cell? ((Addr.add ⟨g, 0, none⟩ (j * 2)).add (0 + 1)) = some (.int .i64 (exL (k : Int) j)) := by
        have b2 := bl.ext e2
        have hjc : j = 0 ∨ j = 1 ∨ j = 2 ∨ j = 3 := by omega
        rcases hjc with rfl | rfl | rfl | rfl
        · exact ⟨b2.cell' rfl, b2.cell' rfl⟩
        · exact ⟨b2.cell' rfl, b2.cell' rfl⟩
        · exact ⟨b2.cell' rfl, b2.cell' rfl⟩
        · exact ⟨b2.cell' rfl, b2.cell' rfl⟩
      refine ⟨_, rfl, ⟨by omega, by omega⟩, _, by rw [Int.toNat_natCast]; exact hcells.1, _, by rw [Int.toNat_natCast]; exact hcells.2, ?_⟩
      intro g3 w3 f3
      have b3 := f3.blk
      refine ⟨Blk.stOK b3 [_, _] 0 (by simp), ?_⟩
      intro w4 hw4
      have b4 : Blk w4 g3 [.int .i64 (exN (k : Int) j), .int .i64 (exL (k : Int) j)] := by rw [hw4]; exact Blk.setAll (o := 0) [_, _] 0 b3
      have e4 : Ext w1 w4 := by rw [hw4]; exact Ext.setAll (e2.trans' f3.ext) (Nat.le_trans e2.size f3.ge) _ _
      have again : ∀ u, Ext w1 u → (∃ i : Nat, i ≤ 4 ∧ IntKind.i64.wrap ((j : Int) + 1) = (i : Int) ∧ Ext w1 u) ∧ (4 - IntKind.i64.wrap ((j : Int) + 1)).toNat < (4 - (j : Int)).toNat := by
        intro u hu
        rw [wi _ (by omega) (by omega)]
        exact ⟨⟨j + 1, by omega, rfl, hu⟩, by omega⟩
      refine ⟨fun u => u = w4 ∧ (k = 8 → j ≤ 1), ?_, ?_⟩
      · intro u hu
        obtain ⟨hu, hkj⟩ := hu
        obtain rfl : w4 = u := hu.symm
        obtain ⟨x1, x2, x3⟩ := ex_at hk1 (by omega) hj4 hkj
        generalize exN (k : Int) j = n at *
        generalize exL (k : Int) j = lg at *
        refine ⟨_, b4.cell rfl, ?_⟩
        refine (num_spec w4 n).mono ?_
        rintro _ w5 ⟨rfl, e5⟩
        refine ⟨_, _, _, rfl, ?_⟩
        intro g6 w6 f6
        refine (Put_spec (l := [numV n]) ((fresh_val (v := numV n) f6).imm KV_pos) (by simp [maxLen]) (fun v hv => by rw [List.mem_singleton.1 hv]; exact ⟨⟨show (0 : Int) ≤ 1 by decide, show (1 : Int) ≤ 255 by decide⟩, ⟨x2, x3⟩, show (ByteArray.mk #[]).size ≤ maxLen by decide⟩)).mono ?_
        obtain ⟨l, hp, hl, hl1⟩ := putNum n
        rw [hp]
        rintro _ w7 ⟨X, cX, rfl, oX, e7', nX⟩
        refine ⟨_, _, _, _, rfl, ?_⟩
        refine brn (fun h => absurd rfl h) (fun _ => ?_)
        have e7 : Ext w4 w7 := (e5.trans' f6.ext).trans' e7'
        have hw8 := wide_le n
        have hd7 := Fr.drew NoB w7
        have cb : ∀ z, Ext w7 z → z.cell? (Addr.add ⟨g3, 0, none⟩ 1) = some (.int .i64 lg) := fun z hz => (b4.ext (e7.trans' hz)).cell rfl
        dsimp only at hl ⊢
        refine ⟨fun z => Ext w7 z, hd7, _, cb, ?_⟩
        rw [wi (2 + lg) (by omega) (by omega)]
        refine brn (fun h => absurd (by omega) h) (fun _ => ?_)
        obtain ⟨ad, hA, hc⟩ := itemB oX.imm0 (j := 1) (by show 1 < l.length; omega)
        refine ⟨ad, hA, ⟨by omega, by omega⟩, _, fun z hz => hc z hz, _, cb, ?_⟩
        rw [show (l.getD 1 0) = (wide n).toUInt8 from hl1, B1.toUInt8_toNat (by omega), wi _ (by omega) (by omega)]
        exact brn (fun h => absurd x1 h) (fun _ => again _ ((e4.trans' e7).trans' hd7))
      · refine brd (fun h8 => brd (fun hj1 => again _ e4) (fun hj1 => ⟨rfl, fun _ => by omega⟩)) (fun h8 => ⟨rfl, fun h => absurd (by omega) h8⟩)
    · rw [wi _ (by omega) (by omega)]
      exact ⟨⟨k + 1, by omega, by omega, rfl, e1.trans' e2⟩, by dsimp only; omega⟩
  · obtain ⟨w1, hr1, oM, e1'⟩ := make_ownK (K := KV) (a := V0) slV (fun _ _ => rfl) u 201 (by decide) (by decide) .i64 .i64
    have e1 := e.trans' e1'
    refine ⟨_, _, _, _, hr1, ?_⟩
    refine (Repeat_spec w1).mono ?_
    rintro _ w2 ⟨rfl, e2'⟩
    have e2 := e1.trans' e2'
    refine ⟨_, rfl, ?_⟩
    refine (text_spec w2 _).mono ?_
    rintro _ w3 ⟨rfl, e3'⟩
    have e3 := e2.trans' e3'
    refine ⟨_, _, _, rfl, ?_⟩
    intro g4 w4 f4
    have o4 : OwnK KV w4 (some ⟨g4, 0, none⟩) 1 [bigV] := fresh_val (v := bigV) f4
    have e4 := e3.trans' f4.ext
    refine ⟨fun A n c i u => ∃ j : Nat, j ≤ 15 ∧ i = (j : Int) ∧ n = (List.replicate (j + 1) bigV).length ∧ OwnK KV u A c (List.replicate (j + 1) bigV) ∧ Ext w3 u ∧ New w3 A, fun _ _ _ i _ => (15 - i).toNat, ⟨0, by omega, rfl, rfl, o4, f4.ext, fun k hk => by rw [ownB_some] at hk; have := f4.ge; omega⟩, ?_⟩
    rintro A _ c _ u5 ⟨j, hj, rfl, rfl, o5, e5, n5⟩
    refine brd (fun hlt => ?_) (fun hge => ?_)
    · obtain ⟨ad, hA, cs, hrep, hc⟩ := (o5.imm KV_pos).get1 (i := 0) (by rw [List.length_replicate]; omega)
      rw [List.getElem_replicate] at hrep
      have hrep : cs = vc bigV := hrep
      subst hrep
      refine ⟨ad, hA, ⟨by omega, by rw [List.length_replicate]; omega⟩, bigV.k, ?_, bigV.n, ?_, bigV.s, ?_, ?_⟩
      · rw [add_add]; exact hc 0 _ rfl
      · rw [add_add]; exact hc 1 _ rfl
      · rw [add_add]; exact hc 2 _ rfl
      intro g6 w6 f6
      obtain ⟨rfl, rfl⟩ := f6
      obtain ⟨A7, c7, w7, hr7, o7, g7⟩ := o5.push slV (ty := 22) (e' := 37) (a := bigV) (cs := vc bigV) rfl (KV_one NoB u5 bigV _ rfl) (by rw [List.length_replicate]; simp [maxLen]; omega) (by rw [List.length_replicate]; omega)
      have hsn : List.replicate (j + 1) bigV ++ [bigV] = List.replicate (j + 1 + 1) bigV := by rw [List.replicate_succ' (n := j + 1)]
      rw [hsn] at hr7 o7
      refine ⟨_, _, _, _, hr7, ?_⟩
      rw [wi _ (by omega) (by omega)]
      exact ⟨⟨j + 1, by omega, rfl, rfl, o7, g7.ext e5 n5, g7.new e5 n5⟩, by dsimp only; omega⟩
    · obtain rfl : j = 15 := by omega
      have eM : Ext w1 u5 := (e2'.trans' e3').trans' e5
      have e5w := e3.trans' e5
      obtain ⟨w6, hr6, oF, e6'⟩ := make_ownK (K := Kd.bool) (a := false) slBo (fun _ _ => rfl) u5 201 (by decide) (by decide) .i64 .i64
      refine ⟨_, _, _, _, hr6, ?_⟩
      have e6 := e5w.trans' e6'
      -- what is read from now on
      have iM : ∀ z, Ext w6 z → Imm KV NoB z (some ⟨u.heap.size, 0, none⟩) (List.replicate 201 V0) := fun z hz => (oM.imm KV_pos).ext KV_pos ((eM.trans' e6').trans' hz)
      have iL : ∀ z, Ext w6 z → Imm KV NoB z A (List.replicate 16 bigV) := fun z hz => (o5.imm KV_pos).ext KV_pos (e6'.trans' hz)
      have iF : ∀ z, Ext w6 z → Imm Kd.bool NoB z (some ⟨u5.heap.size, 0, none⟩) (List.replicate 201 false) := fun z hz => (oF.imm (by decide)).ext (by decide) hz
      have hcL : 16 ≤ c := by have := o5.le; rwa [List.length_replicate] at this
      have cM : ∀ z, Ext w6 z → ∀ n, n ≤ 201 → Imm KV NoB z (cutAt (some ⟨u.heap.size, 0, none⟩) 201 0 3) (List.replicate n V0) := fun z hz n hn => by
        have := cut_all (n := n) (iM z hz) (c := 201) (by rw [List.length_replicate]; omega) (by rw [List.length_replicate]; omega)
        rwa [rep_take _ hn] at this
      have cF : ∀ z, Ext w6 z → ∀ n, n ≤ 201 → Imm Kd.bool NoB z (cutAt (some ⟨u5.heap.size, 0, none⟩) 201 0 1) (List.replicate n false) := fun z hz n hn => by
        have := cut_all (n := n) (iF z hz) (c := 201) (by rw [List.length_replicate]; omega) (by rw [List.length_replicate]; omega)
        rwa [rep_take _ hn] at this
      have cL : ∀ z, Ext w6 z → Imm KV NoB z (cutAt A c 0 3) (List.replicate 15 bigV) := fun z hz => by
        have := cut_all (n := 15) (iL z hz) (c := c) (by rw [List.length_replicate]; exact hcL) (by rw [List.length_replicate]; omega)
        rwa [rep_take _ (by omega)] at this
      have L : ∀ {β : Type} (a : β) (n : Nat), n = (List.replicate n a).length := fun a n => by rw [List.length_replicate]
      have LM : ∀ {β : Type} (a : β) (n : Nat), n ≤ 201 → (List.replicate n a).length ≤ maxLen := fun a n h => by rw [List.length_replicate]; simp only [maxLen]; omega
      refine (Put_n (L V0 201) (iM w6 (.refl _ _)) (LM V0 201 (by omega)) (rep_good null_good 201)).mono ?_
      rw [put201]
      rintro _ w7 ⟨X, cX, rfl, oX, e7, nX⟩
      refine ⟨_, _, _, _, rfl, ⟨by decide, by decide⟩, ?_⟩
      obtain ⟨p2, hp2⟩ : ∃ l, putR (List.replicate 200 V0) = (l, 0) := snd0 put200
      refine (Put_n (L V0 200) (cM w7 e7 200 (by omega)) (LM V0 200 (by omega)) (rep_good null_good 200)).mono ?_
      rw [hp2]
      rintro _ w8 ⟨X, cX, rfl, oX, e8', nX⟩
      have e8 := e7.trans' e8'
      refine ⟨_, _, _, _, rfl, ?_⟩
      intro g9 w9 f9
      have e9 := e8.trans' f9.ext
      refine (Put_n (l := [⟨0, 1, ByteArray.mk #[]⟩]) rfl ((fresh_val (v := ⟨0, 1, ByteArray.mk #[]⟩) f9).imm KV_pos) (by simp [maxLen]) (fun v hv => by rw [List.mem_singleton.1 hv]; exact ⟨⟨by decide, by decide⟩, ⟨by decide, by decide⟩, by decide⟩)).mono ?_
      rw [putBad]
      rintro _ w10 ⟨X, cX, rfl, oX, e10', nX⟩
      have e10 := e9.trans' e10'
      refine ⟨_, _, _, _, rfl, ?_⟩
      refine (Put_n (by rw [List.length_replicate]) (iL w10 e10) (LM bigV 16 (by omega)) (rep_good big_good 16)).mono ?_
      rw [put16]
      rintro _ w11 ⟨X, cX, rfl, oX, e11', nX⟩
      have e11 := e10.trans' e11'
      refine ⟨_, _, _, _, rfl, ⟨by omega, by omega⟩, ?_⟩
      obtain ⟨p5, hp5⟩ : ∃ l, putR (List.replicate 15 bigV) = (l, 0) := snd0 put15
      refine (Put_n (L bigV 15) (cL w11 e11) (LM bigV 15 (by omega)) (rep_good big_good 15)).mono ?_
      rw [hp5]
      rintro _ w12 ⟨X, cX, rfl, oX, e12', nX⟩
      have e12 := e11.trans' e12'
      refine ⟨_, _, _, _, rfl, ?_⟩
      refine (Key_n (L V0 201) (L false 201) (iM w12 e12) (iF w12 e12) (LM V0 201 (by omega)) (LM false 201 (by omega)) (rep_good null_good 201)).mono ?_
      rw [key201]
      rintro _ w13 ⟨X, cX, rfl, oX, e13', nX⟩
      have e13 := (e12.trans' e13').trans' (Fr.drew NoB w13)
      refine ⟨_, _, _, _, rfl, ⟨by decide, by decide⟩, ⟨by decide, by decide⟩, ?_⟩
      obtain ⟨p7, hp7⟩ : ∃ l, keyR (List.replicate 200 V0) (List.replicate 200 false) = (l, 0) := snd0 key200
      refine (Key_n (L V0 200) (L false 200) (cM _ e13 200 (by omega)) (cF _ e13 200 (by omega)) (LM V0 200 (by omega)) (LM false 200 (by omega)) (rep_good null_good 200)).mono ?_
      rw [hp7]
      rintro _ w14 ⟨X, cX, rfl, oX, e14', nX⟩
      have e14 := (e13.trans' e14').trans' (Fr.drew NoB w14)
      refine ⟨_, _, _, _, rfl, ⟨by decide, by decide⟩, ⟨by decide, by decide⟩, ?_⟩
      refine (Key_n (L V0 2) (L false 1) (cM _ e14 2 (by omega)) (cF _ e14 1 (by omega)) (LM V0 2 (by omega)) (LM false 1 (by omega)) (rep_good null_good 2)).mono ?_
      rw [keyLess]
      rintro _ w15 ⟨X, cX, rfl, oX, e15', nX⟩
      have e15 := e14.trans' e15'
      refine ⟨_, _, _, _, rfl, ⟨by decide, by decide⟩, ?_⟩
      refine (Key_n (by rw [List.length_replicate]) (L false 16) (iL _ e15) (cF _ e15 16 (by omega)) (LM bigV 16 (by omega)) (LM false 16 (by omega)) (rep_good big_good 16)).mono ?_
      rw [key16]
      rintro _ w16 ⟨X, cX, rfl, oX, e16', nX⟩
      have e16 := e15.trans' e16'
      refine ⟨_, _, _, _, rfl, ?_⟩
      obtain ⟨w17, hr17, oB, e17'⟩ := make_own slB rfl w16 201 (by decide) (by decide) .i64 .i64
      have oB : OwnB w17 (some ⟨w16.heap.size, 0, none⟩) 201 (List.replicate 201 0) := by
        unfold OwnB
        rw [List.length_replicate, List.map_replicate]
        exact oB
      have e17 := e16.trans' e17'
      refine ⟨_, _, _, _, hr17, ?_⟩
      refine (Unkey_spec (L (0 : UInt8) 201) (L false 201) oB.imm0 (iF _ e17) (LM (0 : UInt8) 201 (by omega)) (LM false 201 (by omega))).mono ?_
      rw [unkey201]
      rintro _ w18 ⟨X, cX, rfl, oX, e18', nX⟩
      have e18 := e17.trans' e18'
      refine ⟨_, _, _, _, rfl, ?_⟩
      intro g19 w19 f19
      have e19 := e18.trans' f19.ext
      refine ⟨⟨by decide, by decide⟩, ?_⟩
      refine (Key_n (l := [⟨4, 0, ByteArray.mk #[]⟩]) rfl (L false 1) ((fresh_val (v := ⟨4, 0, ByteArray.mk #[]⟩) f19).imm KV_pos) (cF _ e19 1 (by omega)) (by simp [maxLen]) (LM false 1 (by omega)) (fun v hv => by rw [List.mem_singleton.1 hv]; exact ⟨⟨by decide, by decide⟩, ⟨by decide, by decide⟩, by decide⟩)).mono ?_
      rw [keyBad]
      rintro _ w20 ⟨X, cX, rfl, oX, e20', nX⟩
      have e20 := e19.trans' e20'
      refine ⟨_, _, _, _, rfl, ?_⟩
      refine (Unkey_spec (b := []) (ds := []) rfl rfl (Imm.nil _ _ _ _) (Imm.nil _ _ _ _) (by simp [maxLen]) (by simp [maxLen])).mono ?_
      rw [unkey0]
      rintro _ w21 ⟨X, cX, rfl, oX, e21', nX⟩
      have e21 := e20.trans' e21'
      refine ⟨_, _, _, _, rfl, ?_⟩
      clear iM iL iF cM cF cL
      refine brd (fun _ => ?_) (fun h => absurd rfl h)
      refine brd (fun _ => ?_) (fun h => absurd rfl h)
      refine brd (fun _ => ?_) (fun h => absurd rfl h)
      refine brd (fun _ => ?_) (fun h => absurd rfl h)
      refine brd (fun _ => ?_) (fun h => absurd rfl h)
      refine brd (fun _ => ?_) (fun h => absurd rfl h)
      refine brd (fun _ => ?_) (fun h => absurd rfl h)
      refine brd (fun _ => ?_) (fun h => absurd rfl h)
      refine brd (fun _ => ?_) (fun h => absurd rfl h)
      refine brd (fun _ => ?_) (fun h => absurd rfl h)
      refine brd (fun _ => ?_) (fun h => absurd rfl h)
      refine brd (fun _ => ?_) (fun h => absurd rfl h)
      refine brd (fun _ => ?_) (fun h => absurd rfl h)
      have e22 := e6.trans' e21
      clear e7 e8 e9 e10 e11 e12 e13 e14 e15 e16 e17 e18 e19 e20 e21
      refine (wrong_spec (b := []) rfl (Imm.nil _ _ _ _) (by decide) (Nat.zero_le _) ex_wrong_0).mono ?_
      rintro _ w23 ⟨rfl, e23'⟩
      have e23 := e22.trans' e23'
      refine ⟨_, rfl, ?_⟩
      rw [cond_true]
      intro g f24 h24
      refine (wrong_spec (b := [1]) rfl (fresh_bytes (b := [1]) h24 (by decide)).imm0 (by decide) (by decide) ex_wrong_1).mono ?_
      rintro _ w24 ⟨rfl, e24'⟩
      have e24 := (e23.trans' h24.ext).trans' e24'
      refine ⟨_, rfl, ?_⟩
      rw [cond_true]
      intro g f25 h25
      refine (wrong_spec (b := [0, 0]) rfl (fresh_bytes (b := [0, 0]) h25 (by decide)).imm0 (by decide) (by decide) ex_wrong_2).mono ?_
      rintro _ w25 ⟨rfl, e25'⟩
      have e25 := (e24.trans' h25.ext).trans' e25'
      refine ⟨_, rfl, ?_⟩
      rw [cond_true]
      intro g f26 h26
      refine (wrong_spec (b := [1, 1]) rfl (fresh_bytes (b := [1, 1]) h26 (by decide)).imm0 (by decide) (by decide) ex_wrong_3).mono ?_
      rintro _ w26 ⟨rfl, e26'⟩
      have e26 := (e25.trans' h26.ext).trans' e26'
      refine ⟨_, rfl, ?_⟩
      rw [cond_true]
      intro g f27 h27
      refine (wrong_spec (b := [1, 9, 0]) rfl (fresh_bytes (b := [1, 9, 0]) h27 (by decide)).imm0 (by decide) (by decide) ex_wrong_4).mono ?_
      rintro _ w27 ⟨rfl, e27'⟩
      have e27 := (e26.trans' h27.ext).trans' e27'
      refine ⟨_, rfl, ?_⟩
      rw [cond_true]
      intro g f28 h28
      refine (wrong_spec (b := [1, 2, 0, 127]) rfl (fresh_bytes (b := [1, 2, 0, 127]) h28 (by decide)).imm0 (by decide) (by decide) ex_wrong_5).mono ?_
      rintro _ w28 ⟨rfl, e28'⟩
      have e28 := (e27.trans' h28.ext).trans' e28'
      refine ⟨_, rfl, ?_⟩
      rw [cond_true]
      intro g f29 h29
      refine (wrong_spec (b := [1, 2, 255, 128]) rfl (fresh_bytes (b := [1, 2, 255, 128]) h29 (by decide)).imm0 (by decide) (by decide) ex_wrong_6).mono ?_
      rintro _ w29 ⟨rfl, e29'⟩
      have e29 := (e28.trans' h29.ext).trans' e29'
      refine ⟨_, rfl, ?_⟩
      rw [cond_true]
      intro g f30 h30
      refine (wrong_spec (b := [1, 12]) rfl (fresh_bytes (b := [1, 12]) h30 (by decide)).imm0 (by decide) (by decide) ex_wrong_7).mono ?_
      rintro _ w30 ⟨rfl, e30'⟩
      have e30 := (e29.trans' h30.ext).trans' e30'
      refine ⟨_, rfl, ?_⟩
      rw [cond_true]
      intro g f31 h31
      refine (wrong_spec (b := [1, 11, 7]) rfl (fresh_bytes (b := [1, 11, 7]) h31 (by decide)).imm0 (by decide) (by decide) ex_wrong_8).mono ?_
      rintro _ w31 ⟨rfl, e31'⟩
      have e31 := (e30.trans' h31.ext).trans' e31'
      refine ⟨_, rfl, ?_⟩
      rw [cond_true]
      intro g f32 h32
      refine (wrong_spec (b := [129, 0, 0]) rfl (fresh_bytes (b := [129, 0, 0]) h32 (by decide)).imm0 (by decide) (by decide) ex_wrong_9).mono ?_
      rintro _ w32 ⟨rfl, e32'⟩
      have e32 := (e31.trans' h32.ext).trans' e32'
      refine ⟨_, rfl, ?_⟩
      rw [cond_true]
      intro g f33 h33
      refine (wrong_spec (b := [201, 1]) rfl (fresh_bytes (b := [201, 1]) h33 (by decide)).imm0 (by decide) (by decide) ex_wrong_10).mono ?_
      rintro _ w33 ⟨rfl, e33'⟩
      have e33 := (e32.trans' h33.ext).trans' e33'
      refine ⟨_, rfl, ?_⟩
      rw [cond_true]
      intro g f34 h34
      refine (wrong_spec (b := [1, 128, 0]) rfl (fresh_bytes (b := [1, 128, 0]) h34 (by decide)).imm0 (by decide) (by decide) ex_wrong_11).mono ?_
      rintro _ w34 ⟨rfl, e34'⟩
      have e34 := (e33.trans' h34.ext).trans' e34'
      refine ⟨_, rfl, ?_⟩
      rw [cond_true]
      refine (none_spec (b := []) rfl (Imm.nil _ _ _ _) (by decide) ex_none_0.1 ex_none_0.2).mono ?_
      rintro _ w35 ⟨rfl, e35'⟩
      have e35 := e34.trans' e35'
      refine ⟨_, rfl, ?_⟩
      rw [cond_true]
      intro g f36 h36
      refine (none_spec (b := [0]) rfl (fresh_bytes (b := [0]) h36 (by decide)).imm0 (by decide) ex_none_1.1 ex_none_1.2).mono ?_
      rintro _ w36 ⟨rfl, e36'⟩
      have e36 := (e35.trans' h36.ext).trans' e36'
      refine ⟨_, rfl, ?_⟩
      rw [cond_true]
      intro g f37 h37
      refine (none_spec (b := [5]) rfl (fresh_bytes (b := [5]) h37 (by decide)).imm0 (by decide) ex_none_2.1 ex_none_2.2).mono ?_
      rintro _ w37 ⟨rfl, e37'⟩
      have e37 := (e36.trans' h37.ext).trans' e37'
      refine ⟨_, rfl, ?_⟩
      rw [cond_true]
      intro g f38 h38
      refine (none_spec (b := [1, 1]) rfl (fresh_bytes (b := [1, 1]) h38 (by decide)).imm0 (by decide) ex_none_3.1 ex_none_3.2).mono ?_
      rintro _ w38 ⟨rfl, e38'⟩
      have e38 := (e37.trans' h38.ext).trans' e38'
      refine ⟨_, rfl, ?_⟩
      rw [cond_true]
      intro g f39 h39
      refine (none_spec (b := [2, 1]) rfl (fresh_bytes (b := [2, 1]) h39 (by decide)).imm0 (by decide) ex_none_4.1 ex_none_4.2).mono ?_
      rintro _ w39 ⟨rfl, e39'⟩
      have e39 := (e38.trans' h39.ext).trans' e39'
      refine ⟨_, rfl, ?_⟩
      rw [cond_true]
      intro g f40 h40
      refine (none_spec (b := [3]) rfl (fresh_bytes (b := [3]) h40 (by decide)).imm0 (by decide) ex_none_5.1 ex_none_5.2).mono ?_
      rintro _ w40 ⟨rfl, e40'⟩
      have e40 := (e39.trans' h40.ext).trans' e40'
      refine ⟨_, rfl, ?_⟩
      rw [cond_true]
      intro g f41 h41
      refine (none_spec (b := [3, 0]) rfl (fresh_bytes (b := [3, 0]) h41 (by decide)).imm0 (by decide) ex_none_6.1 ex_none_6.2).mono ?_
      rintro _ w41 ⟨rfl, e41'⟩
      have e41 := (e40.trans' h41.ext).trans' e41'
      refine ⟨_, rfl, ?_⟩
      rw [cond_true]
      intro g f42 h42
      refine (none_spec (b := [3, 0, 1, 0, 0]) rfl (fresh_bytes (b := [3, 0, 1, 0, 0]) h42 (by decide)).imm0 (by decide) ex_none_7.1 ex_none_7.2).mono ?_
      rintro _ w42 ⟨rfl, e42'⟩
      have e42 := (e41.trans' h42.ext).trans' e42'
      refine ⟨_, rfl, ?_⟩
      rw [cond_true]
      intro g f43 h43
      refine (none_spec (b := [3, 0, 0, 0]) rfl (fresh_bytes (b := [3, 0, 0, 0]) h43 (by decide)).imm0 (by decide) ex_none_8.1 ex_none_8.2).mono ?_
      rintro _ w43 ⟨rfl, e43'⟩
      have e43 := (e42.trans' h43.ext).trans' e43'
      refine ⟨_, rfl, ?_⟩
      rw [cond_true]
      intro g f44 h44
      refine (none_spec (b := [4, 7, 0]) rfl (fresh_bytes (b := [4, 7, 0]) h44 (by decide)).imm0 (by decide) ex_none_9.1 ex_none_9.2).mono ?_
      rintro _ w44 ⟨rfl, e44'⟩
      have e44 := (e43.trans' h44.ext).trans' e44'
      refine ⟨_, rfl, ?_⟩
      rw [cond_true]
      intro g f45 h45
      refine (none_spec (b := [4, 0, 255]) rfl (fresh_bytes (b := [4, 0, 255]) h45 (by decide)).imm0 (by decide) ex_none_10.1 ex_none_10.2).mono ?_
      rintro _ w45 ⟨rfl, e45'⟩
      have e45 := (e44.trans' h45.ext).trans' e45'
      refine ⟨_, rfl, ?_⟩
      rw [cond_true]
      refine (awake_spec w45).mono ?_
      rintro _ w46 ⟨rfl, e46'⟩
      exact ⟨_, rfl, rfl, e45.trans' e46'⟩
end Go.Proofs.Ytpaockbhbdeekaa
