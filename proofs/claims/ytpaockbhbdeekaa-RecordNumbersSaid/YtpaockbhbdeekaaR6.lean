/- Layer 3: RecordJoin, RecordTurned, RecordShort. -/
import Derived.Test.YtpaockbhbdeekaaR5
set_option linter.unusedVariables false
set_option linter.unusedSimpArgs false
namespace Go.Proofs.Ytpaockbhbdeekaa
open Go Go.Sx R1

theorem right3_true {l : List V} {m : Nat} (h : right3 l m = true) : l.length ≤ m ∧ (∀ v ∈ l, v.s.size ≤ 100) ∧ ∀ v ∈ l, right v = true := by
  unfold right3 smallV at h
  simp only [Bool.and_eq_true, decide_eq_true_eq, List.all_eq_true] at h
  exact ⟨by omega, fun v hv => by have := h.1.2 v hv; omega, h.2⟩
theorem rightRow_of {l : List V} (h : l.length ≤ 200) (h2 : ∀ v ∈ l, right v = true) : rightRow l = 0 := by
  unfold rightRow
  rw [if_neg (by omega), if_pos (List.all_eq_true.2 h2)]
theorem keyR_of {l : List V} {ds : List Bool} (h : l.length ≤ 200) (h2 : ∀ v ∈ l, right v = true) (h3 : ∀ v ∈ l, v.s.size ≤ 100) (hn : ds.length = l.length) : keyR l ds = (key l ds, 0) ∧ (key l ds).length ≤ 41800 := by
  have h4 := key_le l ds 100 h3
  unfold keyR
  rw [rightRow_of h h2, if_neg (by simp), if_neg (by omega), if_neg (by omega)]
  exact ⟨rfl, by omega⟩
theorem Key_at {w : World} {A D : Option Addr} {c dc n dn : Nat} {l : List V} {ds : List Bool} (hn : n = l.length) (hdn : dn = ds.length) (h : Imm KV NoB w A l) (hD : Imm Kd.bool NoB w D ds) (hl : l.length ≤ maxLen) (hds : ds.length ≤ maxLen) (hg : ∀ v ∈ l, good v) :
    CallsV Try.prog 14 #[.slice A n c, .slice D dn dc] w fun r w' => Tells w (keyR l ds) r w' := by
  subst hn; subst hdn
  exact Key_spec h hD hl hds hg
theorem max100 {n : Nat} (h : n ≤ 1000) : n ≤ maxLen := by simp only [maxLen]; omega

theorem RecordJoin_holds {w : World} {AA LA : Option Addr} {ac lc : Nat} {a : List V} {l : List Bool} (hA : Imm KV NoB w AA a) (hL : Imm Kd.bool NoB w LA l) (hal : a.length ≤ maxLen) (hac : a.length ≤ ac) (hll : l.length ≤ maxLen) (hg : ∀ v ∈ a, good v) (cut : Nat) (hcut : cut < 256) :
    CallsV Try.prog 3 #[.slice AA a.length ac, .slice LA l.length lc, .int .u8 (cut : Int)] w fun v w' => v = .bool true ∧ Ext w w' := by
  refine cardindexlaw03_RecordJoin.calls okay ?_
  unfold cardindexlaw03_RecordJoin.W
  have aw : ∀ w5, Ext w w5 → CallsV Try.prog 12 #[] w5 fun v w' => ∃ x, v = .bool x ∧ ((fun v w' => v = .bool true ∧ Ext w w' : Value → World → Prop) (.bool x) w') := by
    intro w5 e5
    refine (awake_spec w5).mono ?_
    rintro v w6 ⟨rfl, e6⟩
    exact ⟨_, rfl, rfl, e5.trans' e6⟩
  refine (right3_spec hA hal (20 : Nat)).mono ?_
  rintro _ w1 ⟨rfl, e1⟩
  refine ⟨_, rfl, brnb (fun _ => aw _ e1) (fun h3 => ?_)⟩
  obtain ⟨h20, h100, hr⟩ := right3_true h3
  refine (flags_spec (hL.ext KBo_pos e1) hll a.length (by omega)).mono ?_
  rintro _ w2 ⟨D, dc, rfl, oD, e2, nD⟩
  have e02 := e1.trans' e2
  have hdl := fl_length l a.length
  have hdc := oD.le
  generalize fl l a.length = ds at *
  refine ⟨_, _, _, rfl, ?_⟩
  have hkm : Int.tmod (IntKind.i64.wrap (cut : Int)) (IntKind.i64.wrap ((a.length : Int) + 1)) = ((cut % (a.length + 1) : Nat) : Int) := by
    rw [wi _ (by omega) (by omega), wi _ (by omega) (by omega), Int.tmod_eq_emod_of_nonneg (by omega)]; rfl
  have hk := Nat.mod_lt cut (show 0 < a.length + 1 by omega)
  rw [hkm]
  generalize cut % (a.length + 1) = k at *
  refine ⟨by rw [wi _ (by omega) (by omega)]; omega, ?_⟩
  obtain ⟨hR, hRl⟩ := keyR_of (ds := ds) (by omega) hr h100 hdl
  refine (Key_spec (hA.ext KV_pos e02) oD.imm hal (max100 (by omega)) hg).mono ?_
  rw [hR]
  rintro _ w3 ⟨X, cX, rfl, oX, e3, nX⟩
  refine ⟨_, _, _, _, rfl, fun _ => True, trivial, ⟨by omega, by omega⟩, ⟨by omega, by omega⟩, ?_⟩
  have e3d := e3.trans' (Fr.drew NoB w3)
  have ta : (a.take k).drop 0 = a.take k := by simp
  have td : (ds.take k).drop 0 = ds.take k := by simp
  have hAk := ((hA.ext KV_pos (e02.trans' e3d)).cut (lo := 0) (hi := k) (m := ac) (by omega))
  have hDk := ((oD.imm.ext KBo_pos e3d).cut (lo := 0) (hi := k) (m := dc) (by omega))
  rw [ta] at hAk; rw [td] at hDk
  obtain ⟨hR2, hR2l⟩ := keyR_of (l := a.take k) (ds := ds.take k) (by rw [List.length_take]; omega) (fun v hv => hr v (List.mem_of_mem_take hv)) (fun v hv => h100 v (List.mem_of_mem_take hv)) (by simp; omega)
  refine (Key_at (by rw [List.length_take, Int.toNat_natCast]; omega) (by rw [List.length_take, Int.toNat_natCast]; omega) hAk hDk (max100 (by rw [List.length_take]; omega)) (max100 (by rw [List.length_take]; omega)) (fun v hv => hg v (List.mem_of_mem_take hv))).mono ?_
  rw [hR2]
  rintro _ w4 ⟨Y, cY, rfl, oY, e4, nY⟩
  refine ⟨_, _, _, _, rfl, fun _ => True, fun _ _ => trivial, trivial, fun _ => True, trivial, ⟨by omega, by omega⟩, ⟨by omega, by omega⟩, ?_⟩
  have e4d := e3d.trans' (e4.trans' (Fr.drew NoB w4))
  have hAr := ((hA.ext KV_pos (e02.trans' e4d)).cut (lo := k) (hi := a.length) (m := ac) hac)
  have hDr := ((oD.imm.ext KBo_pos e4d).cut (lo := k) (hi := ds.length) (m := dc) hdc)
  rw [List.take_length] at hAr hDr
  obtain ⟨hR3, hR3l⟩ := keyR_of (l := a.drop k) (ds := ds.drop k) (by rw [List.length_drop]; omega) (fun v hv => hr v (List.mem_of_mem_drop hv)) (fun v hv => h100 v (List.mem_of_mem_drop hv)) (by simp; omega)
  refine (Key_at (by rw [List.length_drop, Int.toNat_natCast]) (by rw [List.length_drop, Int.toNat_natCast]) (by rw [Int.toNat_natCast]; exact hAr) (by rw [Int.toNat_natCast]; exact hDr) (max100 (by rw [List.length_drop]; omega)) (max100 (by rw [List.length_drop]; omega)) (fun v hv => hg v (List.mem_of_mem_drop hv))).mono ?_
  rw [hR3]
  rintro _ w5 ⟨Z, cZ, rfl, oZ, e5, nZ⟩
  refine ⟨_, _, _, _, rfl, fun _ => True, fun _ _ => trivial, trivial, ?_⟩
  refine brd (fun _ => brd (fun _ => brd (fun _ => ?_) (fun h => absurd rfl h)) (fun h => absurd rfl h)) (fun h => absurd rfl h)
  have e45 : Ext w4 w5 := (Fr.drew NoB w4).ext e5
  have e35 : Ext w3 w5 := (Fr.drew NoB w3).ext (e4.trans' e45)
  refine (CopyBytes_spec (oY.ext e45).imm0 (by dsimp only; omega)).mono ?_
  rintro _ w6 ⟨Q, rfl, oQ, e6, nQ⟩
  obtain ⟨U, cU, w7, hr7, oU, gU⟩ := appendBs oQ (Src.bytes (P := Try.prog) (c := cZ) (oZ.ext e6).imm0) (by dsimp only; omega) 27 isB
  refine ⟨_, _, _, rfl, _, _, _, _, hr7, ?_⟩
  have e7 := gU.ext e6 nQ
  refine (SameBytes_spec (oX.ext (e35.trans' e7)).imm0 oU.imm0).same ⟨_, rfl, ?_⟩
  have hj : key a ds = key (a.take k) (ds.take k) ++ key (a.drop k) (ds.drop k) := by
    have := key_append (a.take k) (a.drop k) (ds.take k) (ds.drop k) (by simp; omega)
    rw [List.take_append_drop, List.take_append_drop] at this
    exact this
  rw [decide_eq_true hj, cond_true]
  exact aw _ ((e02.trans' e3).trans' (e35.trans' e7))

theorem nn (b : UInt8) : ~~~(~~~b) = b := UInt8.eq_of_toBitVec_eq (by simp)
theorem tn_not (d : Bool) (p : List UInt8) : tn (!d) p = (tn d p).map (fun b => ~~~b) := by
  cases d
  · rfl
  · simp [tn, Function.comp_def, nn]
theorem key_not : ∀ (l : List V) (ds : List Bool), key l (ds.map (!·)) = (key l ds).map (fun b => ~~~b)
  | [], _ => by simp [key]
  | v :: l, [] => by simp [key]
  | v :: l, d :: ds => by
    simp only [List.map_cons, key, List.map_append, tn_not]
    rw [key_not l ds]
theorem itemB {Ω : Nat → Prop} {w : World} {A : Option Addr} {l : List UInt8} (h : Imm KB Ω w A l) {j : Nat} (h1 : j < l.length) :
    ∃ ad, A = some ad ∧ ∀ u, Ext w u → u.cell? (ad.add (j * 1)) = some (.int .u8 ((l.getD j 0).toNat : Int)) := by
  have hg : l[j]? = some (l.getD j 0) := by simp [List.getD, h1]
  obtain ⟨ad, hA, hn, cs, hr, hcell⟩ := h j _ hg
  have hr : cs = [u8 (l.getD j 0)] := hr
  subst hr
  exact ⟨ad, hA, fun u hu => hu.cell (fun h => h) (hcell 0 _ rfl)⟩

theorem RecordTurned_holds {w : World} {AA LA : Option Addr} {ac lc : Nat} {a : List V} {l : List Bool} (hA : Imm KV NoB w AA a) (hL : Imm Kd.bool NoB w LA l) (hal : a.length ≤ maxLen) (hll : l.length ≤ maxLen) (hg : ∀ v ∈ a, good v) :
    CallsV Try.prog 4 #[.slice AA a.length ac, .slice LA l.length lc] w fun v w' => v = .bool true ∧ Ext w w' := by
  refine cardindexlaw03_RecordTurned.calls okay ?_
  unfold cardindexlaw03_RecordTurned.W
  have aw : ∀ w5, Ext w w5 → CallsV Try.prog 12 #[] w5 fun v w' => ∃ x, v = .bool x ∧ ((fun v w' => v = .bool true ∧ Ext w w' : Value → World → Prop) (.bool x) w') := by
    intro w5 e5
    refine (awake_spec w5).mono ?_
    rintro v w6 ⟨rfl, e6⟩
    exact ⟨_, rfl, rfl, e5.trans' e6⟩
  refine (right3_spec hA hal (20 : Nat)).mono ?_
  rintro _ w1 ⟨rfl, e1⟩
  refine ⟨_, rfl, brnb (fun _ => aw _ e1) (fun h3 => ?_)⟩
  obtain ⟨h20, h100, hr⟩ := right3_true h3
  refine (flags_spec (hL.ext KBo_pos e1) hll a.length (by omega)).mono ?_
  rintro _ w2 ⟨D, dc, rfl, oD, e2, nD⟩
  have e02 := e1.trans' e2
  have hdl := fl_length l a.length
  generalize fl l a.length = ds at *
  refine ⟨_, _, _, rfl, ?_⟩
  obtain ⟨hR, hRl⟩ := keyR_of (ds := ds) (by omega) hr h100 hdl
  refine (Key_spec (hA.ext KV_pos e02) oD.imm hal (max100 (by omega)) hg).mono ?_
  rw [hR]
  rintro _ w3 ⟨X, cX, rfl, oX, e3, nX⟩
  dsimp only at oX ⊢
  refine ⟨_, _, _, _, rfl, ?_⟩
  have hDlt := Own.lt oD
  refine ⟨fun x u => ∃ j : Nat, j ≤ ds.length ∧ x = (j : Int) ∧ OwnF u D dc ((ds.take j).map (!·) ++ ds.drop j) ∧ Fr (ownB D) w3 u, fun x _ => (ds.length - x).toNat, ⟨0, by omega, rfl, by simpa using oD.ext e3, .refl _ _⟩, ?_⟩
  rintro _ u ⟨j, hj, rfl, oj, fj⟩
  have hD1 : ∀ k, k < w1.heap.size → ¬ ownB D k := fun k hk ho => absurd hk (Nat.not_lt.2 (nD k ho))
  have e1u : Ext w1 u := (e2.trans' e3).trans fj (fun _ _ h => h) (fun k hk ho => hD1 k hk ho)
  refine brd (fun hlt => ?_) (fun hge => ?_)
  · have hjl : j < ds.length := by omega
    have hd : ds.drop j = ds.getD j false :: ds.drop (j + 1) := by rw [List.drop_eq_getElem_cons hjl]; simp [List.getD, hjl]
    have htl : ((ds.take j).map (!·)).length = j := by simp; omega
    have hlen : ((ds.take j).map (!·) ++ ds.drop j).length = ds.length := by simp; omega
    obtain ⟨ad, hDa, hc⟩ := itemF oj.imm (x := (j : Int)) (by omega) (by omega)
    have hv : ((ds.take j).map (!·) ++ ds.drop j).getD j false = ds.getD j false := by
      rw [List.getD_eq_getElem?_getD, List.getElem?_append_right (by omega), htl, Nat.sub_self, hd]; rfl
    rw [Int.toNat_natCast, hv] at hc
    obtain ⟨ad', hDa', hs1, hs2, hs3⟩ := oj.set (x := (j : Int)) (by omega) (by omega) (!ds.getD j false)
    refine ⟨ad, hDa, ⟨by omega, by omega⟩, _, by rw [Int.toNat_natCast]; exact hc, ad', hDa', ⟨by omega, by omega⟩, hs1, ?_⟩
    rw [wi _ (by omega) (by omega)]
    refine ⟨⟨j + 1, by omega, rfl, ?_, fj.trans hs3 (fun _ _ h => h) (fun _ _ h => h)⟩, by dsimp only; omega⟩
    have e : (ds.take (j + 1)).map (!·) ++ ds.drop (j + 1) = ((ds.take j).map (!·) ++ ds.drop j).set (j : Int).toNat (!ds.getD j false) := by
      rw [Int.toNat_natCast, List.set_append_right _ _ (by omega), htl, Nat.sub_self, hd, List.set_cons_zero, show ds.take (j + 1) = ds.take j ++ [ds.getD j false] by rw [List.take_add_one]; simp [List.getD, hjl], List.map_append]
      simp only [List.map_cons, List.map_nil, List.append_assoc, List.cons_append, List.nil_append]
    rw [e]; exact hs2
  · obtain rfl : j = ds.length := by omega
    rw [List.take_length, List.drop_length, List.append_nil] at oj
    have hml : (ds.map (!·)).length = ds.length := by simp
    obtain ⟨hR2, hR2l⟩ := keyR_of (l := a) (ds := ds.map (!·)) (by omega) hr h100 (by omega)
    refine (Key_at rfl hml.symm (hA.ext KV_pos (e1.trans' e1u)) oj.imm hal (max100 (by omega)) hg).mono ?_
    rw [hR2]
    rintro _ w4 ⟨Y, cY, rfl, oY, e4, nY⟩
    dsimp only at oY ⊢
    have e14 := e1u.trans' e4
    refine ⟨_, _, _, _, rfl, brn (fun h => absurd rfl h) (fun _ => brn (fun h => absurd rfl h) (fun _ => ?_))⟩
    have hkl : (key a (ds.map (!·))).length = (key a ds).length := by rw [key_not]; simp
    refine brn (fun h => absurd (by rw [hkl]) h) (fun _ => ?_)
    have oX4 : OwnB w4 X cX (key a ds) := ((OwnB.keep oX fj (fun k hk ho => absurd (hDlt k ho) (Nat.not_lt.2 (nX k hk)))).ext e4)
    refine ⟨fun x u2 => ∃ i : Nat, i ≤ (key a ds).length ∧ x = (i : Int) ∧ Ext w4 u2, fun x _ => ((key a ds).length - x).toNat, ⟨0, by omega, rfl, .refl _ _⟩, ?_⟩
    rintro _ u2 ⟨i, hi, rfl, e5⟩
    refine brd (fun hlt => ?_) (fun hge => aw _ (e1.trans' (e14.trans' e5)))
    obtain ⟨ad, hX, c1⟩ := itemB oX4.imm0 (j := i) (by omega)
    obtain ⟨ad', hY, c2⟩ := itemB oY.imm0 (j := i) (by omega)
    have e5d := e5.trans' (Fr.drew NoB u2)
    refine ⟨fun u => Ext w4 u, e5d, ad, hX, ⟨by omega, by omega⟩, _, fun u hu => by rw [Int.toNat_natCast]; exact c1 u hu, ad', hY, ⟨by omega, by omega⟩, _, fun u hu => by rw [Int.toNat_natCast]; exact c2 u hu, ?_⟩
    have hbit : (((key a ds).getD i 0).toNat : Int) = IntKind.u8.wrap ((BitVec.toNat (BitVec.ofInt 8 (if IntKind.signed .u8 = true then -1 else IntKind.max .u8) ^^^ BitVec.ofInt 8 (((key a (ds.map (!·))).getD i 0).toNat : Int)) : Nat) : Int) := by
      have h1 := flip8 ⟨((key a (ds.map (!·))).getD i 0).toNat, UInt8.toNat_lt _⟩
      rw [h1]
      have h2 : (key a (ds.map (!·))).getD i 0 = ~~~ ((key a ds).getD i 0) := by
        have hil : i < (key a ds).length := by omega
        rw [key_not]; simp [List.getD, hil]
      show _ = (((~~~ (UInt8.ofNat ((key a (ds.map (!·))).getD i 0).toNat)).toNat : Nat) : Int)
      rw [UInt8.ofNat_toNat, h2, nn]
    refine brn (fun h => absurd hbit h) (fun _ => ?_)
    rw [wi _ (by omega) (by omega)]
    exact ⟨⟨i + 1, by omega, rfl, e5d⟩, by dsimp only; omega⟩

/-! ## RecordShort -/
def cost (v : V) : Nat := if v.k = 0 then 1 else if v.k = 1 then 9 else v.s.size + 3
def costs (l : List V) : Nat := (l.map cost).sum
theorem enc_mono (n : Nat) : (B1.enc n).length ≤ (B1.enc (n + 1)).length := by
  have hp := B1.enc_length_pos n
  have h1 := (B1.enc_len_iff ((B1.enc n).length - 1) n).1 (by omega)
  have h2 := (B1.enc_len_iff ((B1.enc n).length - 1) (n + 1)).2 (h1.imp id (fun h => by omega))
  omega
theorem cost_le (v : V) (hr : right v = true) (hs : v.s.size ≤ 100) : (B1.enc (sort v)).length + (body v).length ≤ cost v := by
  unfold right at hr
  have hw := wide_le v.n
  by_cases h0 : v.k = 0
  · rw [if_pos h0] at hr
    have := of_decide_eq_true hr
    have h1 : (B1.enc (sort v)).length ≤ 1 := B1.enc_length_le (k := 1) (by unfold sort; rw [if_neg (by omega), if_neg (by omega), if_neg (by omega)]; decide) (by decide)
    rw [cost, if_pos h0, body, if_neg (by omega)]
    simp [sb_length]; omega
  · rw [if_neg h0] at hr
    by_cases h1 : v.k = 1
    · rw [if_pos h1] at hr
      have := of_decide_eq_true hr
      have h2 : (B1.enc (sort v)).length ≤ 1 := B1.enc_length_le (k := 1) (by unfold sort; rw [if_pos h1]; omega) (by decide)
      rw [cost, if_neg h0, if_pos h1, body, if_pos h1]
      simp [sb_length, hi_length]; omega
    · have h2 : (B1.enc (sort v)).length ≤ 2 := B1.enc_length_le (k := 2) (by
        unfold sort; rw [if_neg h1]
        split
        · omega
        · split <;> omega) (by decide)
      rw [cost, if_neg h0, if_neg h1, body, if_neg h1]
      simp [sb_length]; omega
theorem putL_length (l : List V) : (putL l).length = (B1.enc l.length).length + (l.map fun v => (B1.enc (sort v)).length + (body v).length).sum := by
  have : ∀ m : List V, (m.flatMap fun v => B1.enc (sort v)).length + (m.flatMap body).length = (m.map fun v => (B1.enc (sort v)).length + (body v).length).sum := by
    intro m
    induction m with
    | nil => rfl
    | cons v m ih => simp only [List.flatMap_cons, List.length_append, List.map_cons, List.sum_cons]; omega
  rw [putL, List.length_append, List.length_append, ← this l]; omega
theorem sum_le {f g : V → Nat} : ∀ (l : List V), (∀ v ∈ l, f v ≤ g v) → (l.map f).sum ≤ (l.map g).sum
  | [], _ => by simp
  | v :: l, h => by
    have h1 := sum_le l (fun v hv => h v (List.mem_cons.2 (.inr hv)))
    have h2 := h v (List.mem_cons.2 (.inl rfl))
    simp only [List.map_cons, List.sum_cons]; omega
theorem sum_ge {f : V → Nat} (l : List V) (h : ∀ v ∈ l, 1 ≤ f v) : l.length ≤ (l.map f).sum := by
  induction l with
  | nil => simp
  | cons v l ih =>
    have h1 := ih (fun v hv => h v (List.mem_cons.2 (.inr hv)))
    have h2 := h v (List.mem_cons.2 (.inl rfl))
    simp only [List.map_cons, List.sum_cons, List.length_cons]; omega
theorem costs_le (l : List V) (h : ∀ v ∈ l, v.s.size ≤ 100) : costs l ≤ 103 * l.length := by
  have := sum_le (f := cost) (g := fun _ => 103) l (fun v hv => by
    have := h v hv
    unfold cost
    split
    · omega
    · split <;> omega)
  have e : ∀ m : List V, (m.map fun _ => 103).sum = 103 * m.length := fun m => by
    induction m with
    | nil => rfl
    | cons v m ih => simp only [List.map_cons, List.sum_cons, List.length_cons, ih]; omega
  rw [e] at this; exact this
theorem costs_snoc (l : List V) (j : Nat) (h : j < l.length) : costs (l.take (j + 1)) = costs (l.take j) + cost (l.getD j V0) := by
  have : l.take (j + 1) = l.take j ++ [l.getD j V0] := by rw [List.take_add_one]; simp [List.getD, h]
  rw [this, costs, List.map_append, List.sum_append]; simp [costs]

theorem RecordShort_holds {w : World} {AA : Option Addr} {ac : Nat} {a : List V} (hA : Imm KV NoB w AA a) (hal : a.length ≤ maxLen) (hg : ∀ v ∈ a, good v) :
    CallsV Try.prog 5 #[.slice AA a.length ac] w fun v w' => v = .bool true ∧ Ext w w' := by
  refine cardindexlaw03_RecordShort.calls okay ?_
  unfold cardindexlaw03_RecordShort.W
  have aw : ∀ w5, Ext w w5 → CallsV Try.prog 12 #[] w5 fun v w' => ∃ x, v = .bool x ∧ ((fun v w' => v = .bool true ∧ Ext w w' : Value → World → Prop) (.bool x) w') := by
    intro w5 e5
    refine (awake_spec w5).mono ?_
    rintro v w6 ⟨rfl, e6⟩
    exact ⟨_, rfl, rfl, e5.trans' e6⟩
  refine (right3_spec hA hal (150 : Nat)).mono ?_
  rintro _ w1 ⟨rfl, e1⟩
  refine ⟨_, rfl, brnb (fun _ => aw _ e1) (fun h3 => ?_)⟩
  obtain ⟨h150, h100, hr⟩ := right3_true h3
  have hA1 := hA.ext KV_pos e1
  have hcl : ∀ j, costs (a.take j) ≤ 15450 := fun j => by
    have := costs_le (a.take j) (fun v hv => h100 v (List.mem_of_mem_take hv))
    rw [List.length_take] at this; omega
  refine ⟨fun x y u => ∃ j : Nat, j ≤ a.length ∧ y = (j : Int) ∧ x = 2 + (costs (a.take j) : Int) ∧ u = w1, fun _ y _ => (a.length - y).toNat, ⟨0, by omega, rfl, by simp [costs], rfl⟩, ?_⟩
  rintro _ _ u ⟨j, hj, rfl, rfl, rfl⟩
  have hc0 := hcl j
  refine brd (fun hlt => ?_) (fun hge => ?_)
  · have hjl : j < a.length := by omega
    obtain ⟨ad, hAd, q1, q2, q3⟩ := itemV0 hA1 (x := (j : Int)) (by omega) (by omega)
    rw [Int.toNat_natCast] at q1 q2 q3
    have hsn := costs_snoc a j hjl
    have hz := h100 _ (getD_mem hjl)
    have hc1 := hcl (j + 1)
    generalize a.getD j V0 = v at *
    simp only [Int.toNat_natCast]
    refine ⟨ad, hAd, ⟨by omega, by omega⟩, _, q1, ?_⟩
    refine brd (fun h0 => ?_) (fun h0 => brd (fun h1 => ?_) (fun h1 => ?_))
    · rw [cost, if_pos h0] at hsn
      rw [wi _ (by omega) (by omega), wi _ (by omega) (by omega)]
      exact ⟨⟨j + 1, by omega, rfl, by omega, trivial⟩, by omega⟩
    · rw [cost, if_neg h0, if_pos h1] at hsn
      rw [wi _ (by omega) (by omega), wi _ (by omega) (by omega)]
      exact ⟨⟨j + 1, by omega, rfl, by omega, trivial⟩, by omega⟩
    · rw [cost, if_neg h0, if_neg h1] at hsn
      refine ⟨ad, hAd, ⟨by omega, by omega⟩, _, q3, ?_⟩
      rw [wi ((v.s.size : Int) + 3) (by omega) (by omega), wi _ (by omega) (by omega), wi _ (by omega) (by omega)]
      exact ⟨⟨j + 1, by omega, rfl, by omega, trivial⟩, by omega⟩
  · obtain rfl : j = a.length := by omega
    rw [List.take_length] at hc0 ⊢
    have hcost := sum_le (f := fun v => (B1.enc (sort v)).length + (body v).length) (g := cost) a (fun v hv => cost_le v (hr v hv) (h100 v hv))
    have hge1 := sum_ge (f := fun v => (B1.enc (sort v)).length + (body v).length) a (fun v hv => by have := B1.enc_length_pos (sort v); omega)
    have hpl := putL_length a
    have hel : (B1.enc a.length).length ≤ 2 := B1.enc_length_le (k := 2) (by omega) (by decide)
    have hep := B1.enc_length_pos a.length
    have hem := enc_mono a.length
    have hel2 : (B1.enc (a.length + 1)).length ≤ 2 := B1.enc_length_le (k := 2) (by omega) (by decide)
    change _ ≤ costs a at hcost
    have hP : putR a = (putL a, 0) := by
      unfold putR
      rw [rightRow_of (by omega) hr, if_neg (by simp), if_neg (by omega)]
    have hpl2 : (putL (a ++ [V0])).length = (B1.enc (a.length + 1)).length + ((a.map fun v => (B1.enc (sort v)).length + (body v).length).sum + 1) := by
      rw [putL_length, List.map_append, List.sum_append, List.length_append]
      have h1 : (B1.enc (sort V0)).length = 1 := by
        have : sort V0 = 0 := by decide +kernel
        rw [this, B1.enc_lt (by decide)]; rfl
      have h2 : (body V0).length = 0 := by decide +kernel
      simp [h1, h2]
    have hrV : ∀ v ∈ a ++ [V0], right v = true := by
      intro v hv
      rcases List.mem_append.1 hv with h | h
      · exact hr v h
      · rw [List.mem_singleton.1 h]; decide +kernel
    have hgV : ∀ v ∈ a ++ [V0], good v := by
      intro v hv
      rcases List.mem_append.1 hv with h | h
      · exact hg v h
      · rw [List.mem_singleton.1 h]; exact ⟨by decide, by decide, by decide +kernel⟩
    have hal2 : (a ++ [V0]).length = a.length + 1 := by simp
    have hP2 : putR (a ++ [V0]) = (putL (a ++ [V0]), 0) := by
      unfold putR
      rw [rightRow_of (by omega) hrV, if_neg (by simp), if_neg (by omega)]
    refine (Put_spec hA1 hal hg).mono ?_
    rw [hP]
    rintro _ w2 ⟨X, cX, rfl, oX, e2, nX⟩
    refine ⟨_, _, _, _, rfl, ?_⟩
    refine (CopyValues_spec (hA1.ext KV_pos e2) (by omega)).mono ?_
    rintro _ w3 ⟨B, cB, rfl, oB, e3, nB⟩
    obtain ⟨B4, cB4, w4, hr4, oB4, gB4⟩ := oB.push slV (ty := 22) (a := V0) (cs := vc V0) (e' := 37) rfl (fun v hv => KV_one (fun _ => False) w3 V0 (vc V0) rfl v hv) (by simp only [maxLen]; omega) (by omega)
    refine ⟨_, _, _, rfl, _, _, _, _, hr4, ?_⟩
    have e4 := gB4.ext e3 nB
    refine (Put_spec (oB4.imm KV_pos) (max100 (by omega)) hgV).mono ?_
    rw [hP2]
    rintro _ w5 ⟨Y, cY, rfl, oY, e5, nY⟩
    refine ⟨_, _, _, _, rfl, ?_⟩
    dsimp only
    refine brd (fun _ => brd (fun _ => brd (fun _ => brd (fun _ => brd (fun _ => ?_) (fun h => absurd (by omega) h)) (fun h => absurd (by omega) h)) (fun h => absurd (by omega) h)) (fun h => absurd rfl h)) (fun h => absurd rfl h)
    exact aw _ (((e1.trans' e2).trans' e4).trans' e5)
end Go.Proofs.Ytpaockbhbdeekaa
