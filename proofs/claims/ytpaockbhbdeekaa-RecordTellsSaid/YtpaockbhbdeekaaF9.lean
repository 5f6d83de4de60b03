/- The document's answer for layer 3: Unkey, the walk. -/
import Derived.Test.YtpaockbhbdeekaaF8
set_option linter.unusedVariables false
set_option linter.unusedSimpArgs false
namespace Go.Proofs.Ytpaockbhbdeekaa
open Go Go.Sx R1

theorem kval_good {t : UInt8} {y : List UInt8} (h1 : 1 ≤ t.toNat) (h4 : t.toNat ≤ 4) (h2 : t.toNat = 2 → 8 ≤ y.length) (hl : y.length ≤ 1000000) : good (kvalOf t y) ∧ (0 ≤ (kvalOf t y).k ∧ (kvalOf t y).k ≤ 3) ∧ (kvalOf t y).s.size ≤ 1000000 := by
  have hlt := lt_length y
  have hs : (kvalOf t y).s.size ≤ 1000000 := by
    unfold kvalOf
    rw [sb_size]
    split
    · omega
    · simp
  have hbe := be_lt (y.take 8)
  have hlt2 : be (y.take 8) < 256 ^ 8 := Nat.lt_of_lt_of_le hbe (Nat.pow_le_pow_right (by decide) (by rw [List.length_take]; omega))
  have hlt3 : be (y.take 8) < 18446744073709551616 := hlt2
  refine ⟨⟨?_, ?_, by simp only [maxLen]; omega⟩, ?_, hs⟩
  · unfold kvalOf; dsimp only; omega
  · unfold kvalOf; dsimp only; split <;> omega
  · unfold kvalOf; dsimp only; omega
set_option maxRecDepth 100000 in
theorem UnkeyR_spec {w : World} {A D : Option Addr} {c dc n m : Nat} {b : List UInt8} {ds : List Bool} (hn : n = b.length) (hm : m = ds.length) (h : Imm KB NoB w A b) (hD : Imm Kd.bool NoB w D ds) (hl : b.length ≤ 1000000) (hdl : ds.length ≤ maxLen) :
    CallsV Try.prog 27 #[.slice A n c, .slice D m dc] w fun r w' => TellsR w (unkeyRR b ds) r w' := by
  subst hn; subst hm
  refine cardindexref03_Unkey.calls okay ?_
  unfold cardindexref03_Unkey.W
  have bad : ∀ {w'}, unkeyR b ds = none → Ext w w' → TellsR w (unkeyRR b ds) (.tuple #[.slice none 0 0, .int .i64 10]) w' := by
    intro w' hp e
    unfold unkeyRR; rw [hp]; exact TellsR.nil e 10
  refine brd (fun h2 => bad (by unfold unkeyR; rw [if_pos (.inl (by omega))]) (.refl _ _)) (fun h2 => ?_)
  have hU : unkeyR b ds = unkeyP b ds := by unfold unkeyR; rw [if_neg (by rintro (h | h) <;> omega)]
  refine ⟨fun x x1 x2 a q u => ∃ (j at_ : Nat) (row : List V), j ≤ ds.length ∧ q = (j : Int) ∧ a = (at_ : Int) ∧ at_ ≤ j * 2000010 ∧ x1 = row.length ∧ row.length = j ∧ (∀ v ∈ row, good v) ∧ (unkeyR b ds ≠ none → unkeyP b ds = (unkeyP (b.drop at_) (ds.drop j)).map (fun l => row ++ l)) ∧ OwnK KV u x x2 row ∧ Ext w u ∧ New w x,
    fun _ _ _ _ q _ => (ds.length - q).toNat, ⟨0, 0, [], by omega, rfl, rfl, by omega, rfl, rfl, fun _ h => (by cases h), fun _ => by cases hh : unkeyP b ds <;> simp [hh], OwnK.nil _ _, .refl _ _, New.none _⟩, ?_⟩
  rintro x _ x2 _ _ u ⟨j, at_, row, hj, rfl, rfl, hat, rfl, hrl, hrg, hro, hoR, eu, nx⟩
  refine brd (fun hlt => ?_) (fun hge => ?_)
  · have hjl : j < ds.length := by omega
    refine ⟨fun x x1 x2 a u => ∃ (at_ : Nat) (row : List V), a = (at_ : Int) ∧ at_ ≤ (j + 1) * 2000010 ∧ x1 = row.length ∧ row.length = j + 1 ∧ (∀ v ∈ row, good v) ∧ (unkeyR b ds ≠ none → unkeyP b ds = (unkeyP (b.drop at_) (ds.drop (j + 1))).map (fun l => row ++ l)) ∧ OwnK KV u x x2 row ∧ Ext w u ∧ New w x, ?_, ?_⟩
    · rintro x' _ x2' _ u' ⟨at', row', rfl, hat', rfl, hrl', hrg', hro', hoR', eu', nx'⟩
      rw [wi _ (by omega) (by omega)]
      exact ⟨⟨j + 1, at', row', by omega, rfl, rfl, hat', rfl, hrl', hrg', hro', hoR', eu', nx'⟩, by dsimp only; omega⟩
    have hdr := dropFl ds j hjl
    rw [hdr] at hro
    have hDc : ∀ z, Ext w z → ∃ ad, D = some ad ∧ z.cell? (ad.add (j * 1)) = some (.bool (ds.getD j false)) := by
      intro z hz
      obtain ⟨ad, hA, hc⟩ := itemF (hD.ext KBo_pos hz) (x := (j : Int)) (by omega) (by omega)
      rw [Int.toNat_natCast] at hc
      exact ⟨ad, hA, hc⟩
    generalize ds.getD j false = d at *
    have hlr : (b.drop at_).length = b.length - at_ := List.length_drop
    have hcutr : ∀ q, (b.drop at_).getD q 0 = b.getD (at_ + q) 0 := fun q => B1.getD_drop b at_ q 0
    have hjs : j * 2000010 ≤ 200 * 2000010 := Nat.mul_le_mul_right _ (by omega)
    refine ⟨fun X m c i v => ∃ p : Nat, p ≤ (b.drop at_).length ∧ i = ((at_ + p : Nat) : Int) ∧ m = (tn d ((b.drop at_).take p)).length ∧ OwnB v X c (tn d ((b.drop at_).take p)) ∧ Ext u v ∧ New u X,
      fun _ _ _ i _ => (b.length - i).toNat, ⟨0, by omega, rfl, by simp [tn_nil], by rw [List.take_zero, tn_nil]; exact OwnB.nil _, .refl _ _, New.none _⟩, ?_⟩
    rintro X _ cX _ v ⟨p, hp, rfl, rfl, oX, ev, nX⟩
    have ewv := eu.trans' ev
    refine brd (fun hltb => ?_) (fun hgeb => ?_)
    · obtain ⟨ad, hA, hc⟩ := hDc v ewv
      obtain ⟨bd, hB, hcb⟩ := itemBx h (j := at_ + p) (by omega)
      rw [← hcutr p] at hcb
      simp only [Int.toNat_natCast]
      refine ⟨ad, hA, ⟨by omega, by omega⟩, _, hc, ?_⟩
      have hpl : p < (b.drop at_).length := by omega
      have hsn := take_snoc8 (b.drop at_) p hpl
      have htl : (tn d ((b.drop at_).take p)).length = p := by rw [tn_length, List.length_take]; omega
      have stepB : ∀ (q : Int), q = ((((tn d [(b.drop at_).getD p 0]).getD 0 0).toNat : Nat) : Int) → ∀ g w', Fresh v g w' [.int .u8 q] 5 →
          ∃ (X' : Option Addr) (n' : Nat) (c' : Nat), ∃ w2, RunsTo Try.prog (Builtin.append_ #[27, 27] 27 #[.slice X (tn d ((b.drop at_).take p)).length cX, .slice (some ⟨g, 0, none⟩) 1 1]) w' (.slice X' n' c') w2 ∧
            (∃ p' : Nat, p' ≤ (b.drop at_).length ∧ IntKind.i64.wrap (((at_ + p : Nat) : Int) + 1) = ((at_ + p' : Nat) : Int) ∧ n' = (tn d ((b.drop at_).take p')).length ∧ OwnB w2 X' c' (tn d ((b.drop at_).take p')) ∧ Ext u w2 ∧ New u X') ∧ ((b.length : Int) - IntKind.i64.wrap (((at_ + p : Nat) : Int) + 1)).toNat < ((b.length : Int) - ((at_ + p : Nat) : Int)).toNat := by
        intro q hq g w' f
        obtain ⟨X', c', w2, hr, o2, g2⟩ := pushB f oX ((tn d [(b.drop at_).getD p 0]).getD 0 0) hq (by omega) 27
        have he : tn d ((b.drop at_).take p) ++ [(tn d [(b.drop at_).getD p 0]).getD 0 0] = tn d ((b.drop at_).take (p + 1)) := by
          rw [hsn, tn_append]
          cases d <;> rfl
        rw [he] at hr o2
        refine ⟨_, _, _, _, hr, ?_⟩
        rw [wi _ (by omega) (by omega)]
        exact ⟨⟨p + 1, by omega, by omega, rfl, o2, g2.ext ev nX, g2.new ev nX⟩, by omega⟩
      cases d with
      | true =>
        rw [cond_true]
        refine ⟨bd, hB, ⟨by omega, by omega⟩, _, hcb v ewv, ?_⟩
        exact stepB _ (not8 _)
      | false =>
        rw [cond_false]
        refine ⟨bd, hB, ⟨by omega, by omega⟩, _, hcb v ewv, ?_⟩
        exact stepB _ rfl
    · have hpe : p = (b.drop at_).length := by omega
      rw [hpe, List.take_length] at oX ⊢
      have htl : (tn d (b.drop at_)).length = b.length - at_ := by rw [tn_length, hlr]
      have hH : unkeyR b ds ≠ none → ∃ v' n', partedP (tn d (b.drop at_)) = some (v', n') ∧ unkeyP b ds = (unkeyP (b.drop (at_ + n')) (ds.drop (j + 1))).map (fun l => row ++ v' :: l) ∧ n' = (kpart v').length := by
        intro hh
        have h1 := hro hh
        rw [unkeyP] at h1
        cases hp : partedP (tn d (b.drop at_)) with
        | none =>
          rw [hp] at h1
          rw [hU, h1] at hh
          exact absurd rfl hh
        | some r =>
          obtain ⟨v', n'⟩ := r
          rw [hp] at h1
          dsimp only at h1
          refine ⟨v', n', rfl, ?_, (parted_canon hp).2.1⟩
          rw [h1, List.drop_drop]
          cases unkeyP (b.drop (at_ + n')) (ds.drop (j + 1)) <;> simp
      clear hro
      generalize hxe : tn d (b.drop at_) = xs at *
      intro g v1 f1
      refine ⟨okW3 f1.blk _ _ _, ?_⟩
      intro v2 hv2
      have b2 := setW3 f1.blk (.int .u8 0) (.int .i64 0) (.string (ByteArray.mk #[]))
      have e2 : Ext v v2 := by rw [hv2]; exact f1.ext.setAll f1.ge _ _
      rw [← hv2] at b2
      have hgv := f1.ge
      have hge2 : ∀ k, k < v.heap.size → ¬ (k = g) := fun k hk he => by omega
      have no : ∀ {Q : Prop}, (∀ v' n', partedP xs = some (v', n') → False) → unkeyR b ds = none := by
        intro _ hh
        exact Classical.byContradiction fun hg => by
          obtain ⟨v', n', q, _⟩ := hH hg
          exact hh v' n' q
      refine brd (fun h0 => bad (no (Q := True) (by
        intro v' n' hh
        have : xs = [] := List.eq_nil_of_length_eq_zero (by omega)
        rw [this] at hh; cases hh)) (ewv.trans' e2)) (fun h0 => ?_)
      have hx0 : 0 < xs.length := by omega
      obtain ⟨ga, hXA, hcX⟩ : ∃ ad, X = some ad ∧ ∀ i, i < xs.length → ∀ z, Ext v z → z.cell? (ad.add (i * 1)) = some (.int .u8 ((xs.getD i 0).toNat : Int)) := by
        obtain ⟨ad, hX, _⟩ := itemBx oX.imm0 (j := 0) hx0
        refine ⟨ad, hX, fun i hi z hz => ?_⟩
        obtain ⟨ad', hX', hc'⟩ := itemBx oX.imm0 (j := i) hi
        rw [hX] at hX'; cases hX'
        exact hc' z hz
      have hsp : xs = xs.getD 0 0 :: xs.drop 1 := by
        have := dropB xs 0 hx0
        rwa [List.drop_zero] at this
      have hyl : (xs.drop 1).length = xs.length - 1 := by simp
      have hc0 := hcX 0 hx0
      have hgy : ∀ i, (xs.drop 1).getD i 0 = xs.getD (i + 1) 0 := fun i => by rw [B1.getD_drop, Nat.add_comm]
      obtain ⟨y, hy⟩ : ∃ y, y = xs.drop 1 := ⟨_, rfl⟩
      rw [← hy] at hsp hyl hgy
      obtain ⟨t, ht⟩ : ∃ t, t = xs.getD 0 0 := ⟨_, rfl⟩
      rw [← ht] at hsp hc0
      have hpr : ∀ {v' n'}, partedP xs = some (v', n') → 1 ≤ t.toNat ∧ t.toNat ≤ 4 ∧ (t.toNat = 2 → 8 ≤ y.length) ∧ v' = kvalOf t y := by
        intro v' n' hh
        rw [hsp] at hh
        exact parted_ref hh
      have nob : ¬ (1 ≤ t.toNat ∧ t.toNat ≤ 4 ∧ (t.toNat = 2 → 8 ≤ y.length)) → unkeyR b ds = none := fun hh => no (Q := True) (fun v' n' hp => hh ⟨(hpr hp).1, (hpr hp).2.1, (hpr hp).2.2.1⟩)
      have ewv2 := ewv.trans' e2
      refine ⟨ga, hXA, ⟨by omega, by omega⟩, _, hc0 v2 e2, brd (fun h1 => bad (nob (by omega)) ewv2) (fun h1 => ⟨ga, hXA, ⟨by omega, by omega⟩, _, hc0 v2 e2, brd (fun h4 => bad (nob (by omega)) ewv2) (fun h4 => ⟨ga, hXA, ⟨by omega, by omega⟩, _, hc0 v2 e2, ?_⟩)⟩)⟩
      have hw8 : IntKind.u8.wrap ((t.toNat : Int) - 1) = (t.toNat : Int) - 1 := w8 _ (by omega) (by omega)
      rw [hw8]
      obtain ⟨o3, s3⟩ := set1 b2 (i := 0) (by simp) (.int .u8 ((t.toNat : Int) - 1))
      refine ⟨o3, fun v3 hv3 => ?_⟩
      obtain ⟨b3, f3⟩ := s3 v3 hv3
      have e3 : Ext v v3 := e2.trans f3 (fun _ _ h => h) (fun q hq he => hge2 q hq he)
      have hbl1 : y.length ≤ 1000000 := by omega
      refine ⟨fun z => (t.toNat = 2 → 8 ≤ y.length) ∧ Blk z g [.int .u8 ((t.toNat : Int) - 1), .int .i64 (kvalOf t y).n, .string (ByteArray.mk #[])] ∧ Ext v z, ?_, ?_⟩
      · rintro v4 ⟨h28, b4, e4⟩
        obtain ⟨hgd, hk03, hsz⟩ := kval_good (y := y) (by omega) (by omega) h28 hbl1
        have hkk : (kvalOf t y).k = (t.toNat : Int) - 1 := rfl
        refine ⟨fun z => Blk z g [.int .u8 (kvalOf t y).k, .int .i64 (kvalOf t y).n, .string (kvalOf t y).s] ∧ Ext v z, ?_, ?_⟩
        · rintro v5 ⟨b5, e5⟩
          refine ⟨_, b5.cell rfl, _, b5.cell rfl, _, b5.cell rfl, ?_⟩
          intro g6 v6 f6
          obtain ⟨rfl, rfl⟩ := f6
          have nxk : ∀ k, ownB x k → k < u.heap.size := OwnK.lt hoR
          obtain ⟨Y, cY, v7, hr7, o7, g7⟩ := (hoR.ext (ev.trans' e5)).push slV (ty := 22) (K := KV) (a := kvalOf t y) (cs := vc (kvalOf t y)) (e' := 37) rfl (KV_one (fun _ => False) v5 _ _ rfl) (by simp only [maxLen]; omega) (by omega)
          have ewv5 := ewv.trans' e5
          have ew7 := g7.ext ewv5 nx
          have n7 := g7.new ewv5 nx
          have hgx : ¬ ownB x g := fun hx => by have := nxk g hx; have := ev.size; omega
          have b7 := b5.keep g7.fr hgx
          have ed : Ext v7 v7.drew := Fr.drew NoB v7
          obtain ⟨ad, hA, hc⟩ := hDc v7.drew (ew7.trans' ed)
          refine ⟨_, _, _, _, hr7, fun z => Ext v7 z ∧ z.cell? = v7.drew.cell?, ⟨ed, rfl⟩, _, fun z hz => (b7.ext hz.1).cell rfl, _, fun z hz => (b7.ext hz.1).cell rfl, _, fun z hz => (b7.ext hz.1).cell rfl, ad, hA, ⟨by omega, by omega⟩, _, fun z hz => by rw [hz.2, Int.toNat_natCast]; exact hc, ?_⟩
          refine (partR_spec v7.drew (kvalOf t y) d hk03 hgd.2.1 (by omega)).mono ?_
          rintro _ v8 ⟨P8, c8, rfl, o8, e8, n8⟩
          refine ⟨_, _, _, rfl, ?_⟩
          have hplen := part_length (kvalOf t y)
          have e78 : Ext v7 v8 := ed.trans' e8
          rw [tn_length, wi _ (by omega) (by omega)]
          refine ⟨at_ + (kpart (kvalOf t y)).length, row ++ [kvalOf t y], by omega, by omega, rfl, by simp [hrl], ?_, ?_, o7.ext e78, ew7.trans' e78, n7⟩
          · intro w hw
            rcases List.mem_append.1 hw with hw | hw
            · exact hrg w hw
            · rw [List.mem_singleton.1 hw]; exact hgd
          · intro hh
            obtain ⟨v', n', q1, q2, q3⟩ := hH hh
            obtain ⟨_, _, _, q4⟩ := hpr q1
            subst q4
            rw [q2, q3]
            simp
        · have hnum : t.toNat ≠ 2 → (kvalOf t y).n = 0 := fun hne => if_neg hne
          have fin : (t.toNat = 3 ∨ t.toNat = 4) → ∀ z, Blk z g [.int .u8 ((t.toNat : Int) - 1), .int .i64 (kvalOf t y).n, .string (ByteArray.mk #[])] → Ext v z →
              stOK ((⟨g, 0, none⟩ : Addr).add 2) 0 [.string ⟨(lt y).toArray⟩] z ∧ ∀ z', z' = setAll ((⟨g, 0, none⟩ : Addr).add 2) 0 [.string ⟨(lt y).toArray⟩] z → Blk z' g [.int .u8 (kvalOf t y).k, .int .i64 (kvalOf t y).n, .string (kvalOf t y).s] ∧ Ext v z' := by
            intro h34 z bz ez
            obtain ⟨o5, s5⟩ := set1 bz (i := 2) (by simp) (.string ⟨(lt y).toArray⟩)
            refine ⟨o5, fun z' hz' => ?_⟩
            obtain ⟨b5, f5⟩ := s5 z' hz'
            refine ⟨?_, ez.trans f5 (fun _ _ h => h) (fun q hq he => hge2 q hq he)⟩
            have : (kvalOf t y).s = ⟨(lt y).toArray⟩ := by unfold kvalOf; dsimp only; rw [if_pos h34]
            rw [this]
            exact b5
          refine ⟨_, b4.cell rfl, brd (fun k2 => ?_) (fun k2 => ⟨_, b4.cell rfl, brd (fun k3 => ?_) (fun k3 => ?c)⟩)⟩
          case c =>
            refine ⟨?_, e4⟩
            have hs0 : (kvalOf t y).s = ByteArray.mk #[] := by unfold kvalOf; dsimp only; rw [if_neg (by omega)]
            rw [hs0, hkk]
            exact b4
          all_goals
            have h34 : t.toNat = 3 ∨ t.toNat = 4 := by omega
            refine ⟨fun Z m cz k z => ∃ (i : Nat) (s : List UInt8), i ≤ y.length ∧ k = ((1 + i : Nat) : Int) ∧ m = s.length ∧ s.length ≤ i ∧ s ++ lt (y.drop i) = lt y ∧ OwnB z Z cz s ∧ Ext v4 z ∧ New v4 Z,
              fun _ _ _ k _ => (xs.length - k).toNat, ⟨0, [], by omega, rfl, rfl, by simp, by simp, OwnB.nil _, .refl _ _, New.none _⟩, ?_⟩
            rintro Z _ cZ _ z ⟨i, s, hi, rfl, rfl, hsl, hlt2, oZ, e4z, nZ⟩
            have bz := b4.ext e4z
            have ez := e4.trans' e4z
            have hwi : IntKind.i64.wrap (((1 + i : Nat) : Int) + 1) = ((2 + i : Nat) : Int) := by rw [wi _ (by omega) (by omega)]; omega
            have hwi2 : IntKind.i64.wrap (((2 + i : Nat) : Int) + 1) = ((1 + (i + 2) : Nat) : Int) := by rw [wi _ (by omega) (by omega)]; omega
            rw [hwi, hwi2]
            simp only [Int.toNat_natCast]
            have stop : lt (y.drop i) = [] → ∃ x_17, ∃ w', RunsTo Try.prog (convert 27 9 (.slice Z s.length cZ)) z (.string x_17) w' ∧ stOK ((⟨g, 0, none⟩ : Addr).add 2) 0 [.string x_17] w' ∧ ∀ w'_2, w'_2 = setAll ((⟨g, 0, none⟩ : Addr).add 2) 0 [.string x_17] w' → Blk w'_2 g [.int .u8 (kvalOf t y).k, .int .i64 (kvalOf t y).n, .string (kvalOf t y).s] ∧ Ext v w'_2 := by
              intro hnil
              rw [hnil, List.append_nil] at hlt2
              subst hlt2
              exact ⟨_, _, to_str_all btF oZ.imm0 cZ z (.refl _ _), fin h34 z bz ez⟩
            refine ⟨fun z1 => z1 = z ∧ i + 1 < y.length ∧ ¬ (y.getD i 0 = 0 ∧ y.getD (i + 1) 0 = 0), ?_, ?_⟩
            · rintro z1 ⟨rfl, hi1, hnz⟩
              have hd2 : y.drop i = y.getD i 0 :: y.getD (i + 1) 0 :: y.drop (i + 2) := by rw [dropB y i (by omega), dropB y (i + 1) hi1]
              have hd1 : y.drop (i + 1) = y.getD (i + 1) 0 :: y.drop (i + 2) := dropB y (i + 1) hi1
              have hci := hcX (1 + i) (by omega)
              rw [show xs.getD (1 + i) 0 = y.getD i 0 by rw [hgy, Nat.add_comm]] at hci
              obtain ⟨q, hq⟩ : ∃ q, q = y.getD i 0 := ⟨_, rfl⟩
              obtain ⟨r, hr⟩ : ∃ r, r = y.getD (i + 1) 0 := ⟨_, rfl⟩
              rw [← hq] at hci hd2 hnz
              rw [← hr] at hd2 hd1 hnz
              rw [hd2, lt2] at hlt2
              refine ⟨ga, hXA, ⟨by omega, by omega⟩, _, hci z1 ez, ?_⟩
              intro g5 z2 f5
              obtain ⟨Z', c', z3, hr3, o3', g3⟩ := pushB f5 oZ q rfl (by omega) 27
              have e4z3 := g3.ext e4z nZ
              have ez3 : Ext v z3 := e4.trans' e4z3
              have nZ3 := g3.new e4z nZ
              refine ⟨_, _, _, _, hr3, ga, hXA, ⟨by omega, by omega⟩, _, hci z3 ez3, ?_⟩
              refine brd (fun h0 => ?_) (fun h0 => ?_)
              · have hq0 : q = 0 := UInt8.toNat_inj.1 (by simpa using h0)
                have hr0 : ¬ r = 0 := fun hh => hnz ⟨hq0, hh⟩
                rw [if_pos hq0, if_neg hr0] at hlt2
                refine ⟨⟨i + 2, s ++ [q], by omega, rfl, rfl, by simp; omega, by rw [hq0, List.append_assoc]; exact hlt2, o3', e4z3, nZ3⟩, by omega⟩
              · have hq0 : ¬ q = 0 := fun hh => h0 (by rw [hh]; rfl)
                rw [if_neg hq0, ← hd1] at hlt2
                refine ⟨⟨i + 1, s ++ [q], by omega, by omega, rfl, by simp; omega, by rw [List.append_assoc]; exact hlt2, o3', e4z3, nZ3⟩, by omega⟩
            · refine brd (fun hk1 => ?_) (fun hk1 => stop (lt_short (by rw [List.length_drop]; omega)))
              have hi1 : i + 1 < y.length := by omega
              have hd2 : y.drop i = y.getD i 0 :: y.getD (i + 1) 0 :: y.drop (i + 2) := by rw [dropB y i (by omega), dropB y (i + 1) hi1]
              have hci := hcX (1 + i) (by omega)
              have hcj := hcX (2 + i) (by omega)
              rw [show xs.getD (1 + i) 0 = y.getD i 0 by rw [hgy, Nat.add_comm]] at hci
              rw [show xs.getD (2 + i) 0 = y.getD (i + 1) 0 by rw [hgy]; congr 1; omega] at hcj
              obtain ⟨q, hq⟩ : ∃ q, q = y.getD i 0 := ⟨_, rfl⟩
              obtain ⟨r, hr⟩ : ∃ r, r = y.getD (i + 1) 0 := ⟨_, rfl⟩
              rw [← hq] at hci hd2
              rw [← hr] at hcj hd2
              rw [← hq, ← hr]
              refine ⟨ga, hXA, ⟨by omega, by omega⟩, _, hci z ez, ?_⟩
              refine brd (fun hq0 => ⟨ga, hXA, ⟨by omega, by omega⟩, _, hcj z ez, brn (fun hr0 => ⟨rfl, hi1, fun hh => hr0 (by rw [hh.2]; rfl)⟩) (fun hr0 => ?_)⟩) (fun hq0 => ⟨rfl, hi1, fun hh => hq0 (by rw [hh.1]; rfl)⟩)
              refine stop ?_
              rw [hd2, lt2, if_pos (UInt8.toNat_inj.1 (by simpa using hq0)), if_pos (UInt8.toNat_inj.1 (by simpa using hr0))]
      · refine ⟨_, b3.cell rfl, ?_⟩
        have rest : t.toNat ≠ 2 → (t.toNat = 2 → 8 ≤ y.length) ∧ Blk v3 g [.int .u8 ((t.toNat : Int) - 1), .int .i64 (kvalOf t y).n, .string (ByteArray.mk #[])] ∧ Ext v v3 := by
          intro hne
          refine ⟨fun h => absurd h hne, ?_, e3⟩
          have : (kvalOf t y).n = 0 := if_neg hne
          rw [this]; exact b3
        refine brd (fun k1 => ?_) (fun k1 => rest (by omega))
        have ht2 : t.toNat = 2 := by omega
        refine brd (fun h9 => bad (nob (by omega)) (ewv.trans' e3)) (fun h9 => ?_)
        refine ⟨fun k z => ∃ q : Nat, q ≤ 8 ∧ k = ((1 + q : Nat) : Int) ∧ Blk z g [.int .u8 ((t.toNat : Int) - 1), .int .i64 (IntKind.i64.wrap (be (y.take q) : Int)), .string (ByteArray.mk #[])] ∧ Ext v z, fun k _ => (9 - k).toNat, ⟨0, by omega, rfl, b3, e3⟩, ?_⟩
        rintro _ z ⟨q, hq, rfl, bz, ez⟩
        refine brd (fun hlt9 => ?_) (fun hge9 => ?_)
        · have hci := hcX (1 + q) (by omega)
          rw [show xs.getD (1 + q) 0 = y.getD q 0 by rw [hgy, Nat.add_comm]] at hci
          have ed : Ext z z.drew := Fr.drew NoB z
          have hbs : be (y.take (q + 1)) = be (y.take q) * 256 + (y.getD q 0).toNat := by rw [take_snoc8 y q (by omega), be_snoc]
          have hb256 := (y.getD q 0).toNat_lt
          simp only [Int.toNat_natCast]
          refine ⟨fun z1 => Ext z z1, ed, _, fun z1 hz => (bz.ext hz).cell rfl, ga, hXA, ⟨by omega, by omega⟩, _, fun z1 hz => hci z1 (ez.trans' hz), ?_⟩
          rw [w_mul (by omega) (by omega), show ((be (y.take q) : Int) * 256 + ((y.getD q 0).toNat : Int)) = (be (y.take (q + 1)) : Int) by rw [hbs]; simp]
          obtain ⟨o5, s5⟩ := set1 (bz.ext ed) (i := 1) (by simp) (.int .i64 (IntKind.i64.wrap (be (y.take (q + 1)) : Int)))
          refine ⟨o5, fun z2 hz2 => ?_⟩
          obtain ⟨b5, f5⟩ := s5 z2 hz2
          rw [wi (((1 + q : Nat) : Int) + 1) (by omega) (by omega)]
          exact ⟨⟨q + 1, by omega, by omega, b5, (ez.trans' ed).trans f5 (fun _ _ h => h) (fun q hq he => hge2 q hq he)⟩, by omega⟩
        · obtain rfl : q = 8 := by omega
          have hbe := be_lt (y.take 8)
          rw [List.length_take, Nat.min_eq_left (by omega)] at hbe
          have hbe : be (y.take 8) < 18446744073709551616 := hbe
          refine ⟨_, bz.cell rfl, ?_⟩
          rw [xorS hbe]
          obtain ⟨o5, s5⟩ := set1 bz (i := 1) (by simp) (.int .i64 ((be (y.take 8) : Int) - 9223372036854775808))
          refine ⟨o5, fun z2 hz2 => ?_⟩
          obtain ⟨b5, f5⟩ := s5 z2 hz2
          have hn2 : (kvalOf t y).n = (be (y.take 8) : Int) - 9223372036854775808 := if_pos ht2
          rw [hn2]
          exact ⟨fun _ => by omega, b5, ez.trans f5 (fun _ _ h => h) (fun q hq he => hge2 q hq he)⟩
  · obtain rfl : j = ds.length := by omega
    rw [List.drop_length] at hro
    have hfin : unkeyR b ds ≠ none → unkeyR b ds = some row := by
      intro hh
      have h1 := hro hh
      rw [hU] at hh ⊢
      rw [unkeyP] at h1
      split at h1
      · rw [h1]; simp
      · rw [h1] at hh; exact absurd rfl hh
    have hno : ¬ ((keyR row ds).2 = 0 ∧ (keyR row ds).1 = b) → unkeyR b ds = none := by
      intro hh
      refine Classical.byContradiction fun hg => hh ?_
      rw [keyR_unkey (hfin hg)]
      exact ⟨rfl, rfl⟩
    refine (KeyR_spec rfl rfl (hoR.imm KV_pos) (hD.ext KBo_pos eu) (by simp only [maxLen]; omega) hdl hrg).mono ?_
    rintro _ v1 ⟨Z, cZ, rfl, oZ, e2, nZ⟩
    refine ⟨_, _, _, _, rfl, ?_⟩
    have e3 := eu.trans' e2
    refine brn (fun hne => bad (hno (fun hh => hne hh.1)) e3) (fun he0 => ?_)
    have hks := keyR_small he0
    refine (sameR_spec rfl rfl oZ.imm0 (h.ext KB_pos e3) (by omega)).mono ?_
    rintro _ v2 ⟨rfl, e4⟩
    refine ⟨_, rfl, brnb (fun hne => bad (hno (fun hh => of_decide_eq_false hne hh.2)) (e3.trans' e4)) (fun heq => ?_)⟩
    have hget := key_of_unkey he0 (of_decide_eq_true heq) hrg (by omega) (by omega)
    unfold unkeyRR
    rw [hget]
    exact ⟨x, x2, rfl, hoR.ext (e2.trans' e4), e3.trans' e4, nx⟩
end Go.Proofs.Ytpaockbhbdeekaa
