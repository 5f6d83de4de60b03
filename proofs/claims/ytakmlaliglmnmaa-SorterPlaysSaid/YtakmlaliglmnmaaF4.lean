/- The document's answer for layer 3: part, Key. -/
import Derived.Test.YtakmlaliglmnmaaF3
set_option linter.unusedVariables false
set_option linter.unusedSimpArgs false
namespace Go.Proofs.Ytakmlaliglmnmaa
open Go Go.Sx R1

theorem not8' : ∀ n : Fin 256, IntKind.u8.wrap (255 - ((n.val : Nat) : Int)) = (((~~~ (UInt8.ofNat n.val)).toNat : Nat) : Int) := by decide +kernel
theorem not8 (b : UInt8) : IntKind.u8.wrap (255 - (b.toNat : Int)) = (((~~~ b).toNat : Nat) : Int) := by
  have := not8' ⟨b.toNat, b.toNat_lt⟩
  rw [this]; simp
theorem xor8' : ∀ n : Fin 256, IntKind.u8.wrap ((BitVec.toNat (BitVec.ofInt 8 ((n.val : Nat) : Int) ^^^ BitVec.ofInt 8 128) : Nat) : Int) = (((n.val + 128) % 256 : Nat) : Int) := by decide +kernel
theorem xor8 (b : UInt8) : IntKind.u8.wrap ((BitVec.toNat (BitVec.ofInt 8 (b.toNat : Int) ^^^ BitVec.ofInt 8 128) : Nat) : Int) = (((b.toNat + 128) % 256 : Nat) : Int) := xor8' ⟨b.toNat, b.toNat_lt⟩
theorem hi_same {m m' k : Nat} (h : m % 256 ^ k = m' % 256 ^ k) : hi m k = hi m' k := by
  have := hi_be (hi m' k) m (by rw [hi_length, be_hi]; exact h)
  rwa [hi_length] at this
theorem hi_flip {n : Int} (h1 : -9223372036854775808 ≤ n) (h2 : n ≤ 9223372036854775807) :
    hi (n + 9223372036854775808).toNat 8 = (((((hi (n % 18446744073709551616).toNat 8).getD 0 0).toNat + 128) % 256).toUInt8) :: (hi (n % 18446744073709551616).toNat 8).drop 1 := by
  show ((n + 9223372036854775808).toNat / 256 ^ 7 % 256).toUInt8 :: hi (n + 9223372036854775808).toNat 7 = ((((n % 18446744073709551616).toNat / 256 ^ 7 % 256).toUInt8.toNat + 128) % 256).toUInt8 :: hi (n % 18446744073709551616).toNat 7
  rw [B1.toUInt8_toNat (Nat.mod_lt _ (by decide))]
  congr 1
  · congr 1
    simp only [show (256 : Nat) ^ 7 = 72057594037927936 from rfl]
    omega
  · apply hi_same
    simp only [show (256 : Nat) ^ 7 = 72057594037927936 from rfl]
    omega
/-- a value's part, but for what a text has behind its first byte -/
def kpre (v : V) : List UInt8 := if v.k = 0 then [1] else if v.k = 1 then 2 :: hi (v.n + 9223372036854775808).toNat 8 else [if v.k = 2 then 3 else 4]
theorem partR_spec (w : World) (v : V) (d : Bool) (hk : 0 ≤ v.k ∧ v.k ≤ 3) (hn : -9223372036854775808 ≤ v.n ∧ v.n ≤ 9223372036854775807) (hs : v.s.size ≤ 10000000) :
    CallsV Try.prog 66 #[.agg #[.int .u8 v.k, .int .i64 v.n, .string v.s], .bool d] w fun r w' => MadeB w (tn d (kpart v)) r w' := by
  refine cardindexref03_part.calls okay ?_
  unfold cardindexref03_part.W
  intro g w1 f1
  have b1 := f1.blk
  have e1 := f1.ext
  have hg1 := f1.ge
  refine ⟨_, b1.cell rfl, ?_⟩
  intro g2 w2 f2
  have e2 := e1.trans' f2.ext
  have b2 := b1.ext f2.ext
  have hesc := esc_length (sb v.s)
  rw [sb_length] at hesc
  have hkl := part_length v
  refine ⟨fun x n c u => n = (kpre v).length ∧ OwnB u x c (kpre v) ∧ Ext w u ∧ New w x ∧ ¬ ownB x g ∧ Blk u g [.int .u8 v.k, .int .i64 v.n, .string v.s], ?_, ?_⟩
  · rintro x _ c u ⟨rfl, ho, e, nx, hgx, b⟩
    refine ⟨fun x n c u => n = (kpart v).length ∧ OwnB u x c (kpart v) ∧ Ext w u ∧ New w x, ?_, ?_⟩
    · rintro x _ c u ⟨rfl, ho, e, nx⟩
      cases d with
      | false => exact ⟨x, c, rfl, ho, e, nx⟩
      | true =>
        rw [cond_true]
        generalize kpart v = l at *
        refine ⟨fun i u => ∃ j : Nat, j ≤ l.length ∧ i = (j : Int) ∧ OwnB u x c (tn true (l.take j) ++ l.drop j) ∧ Ext w u, fun i _ => (l.length - i).toNat, ⟨0, by omega, rfl, by simpa [tn] using ho, e⟩, ?_⟩
        rintro _ u ⟨j, hj, rfl, ho, e⟩
        refine brd (fun hlt => ?_) (fun hge => ?_)
        · have hjl : j < l.length := by omega
          have hd : l.drop j = l.getD j 0 :: l.drop (j + 1) := by rw [List.drop_eq_getElem_cons hjl]; simp [List.getD, hjl]
          have htl : (tn true (l.take j)).length = j := by rw [tn_length, List.length_take]; omega
          obtain ⟨ga, hA, hc, hset⟩ := setB ho (j := j) (by rw [List.length_append, htl, hd, List.length_cons]; omega)
          have hget : (tn true (l.take j) ++ l.drop j).getD j 0 = l.getD j 0 := by
            rw [hd]; simp [List.getD, htl, List.getElem?_append_right]
          rw [hget] at hc
          rw [Int.toNat_natCast]
          obtain ⟨hok, hs2⟩ := hset (~~~ (l.getD j 0)) _ (not8 _)
          refine ⟨_, hA, ⟨by omega, by omega⟩, _, hc, _, hA, ⟨by omega, by omega⟩, hok, ?_⟩
          intro w' hw'
          obtain ⟨o2, q2⟩ := hs2 w' hw'
          rw [wi _ (by omega) (by omega)]
          refine ⟨⟨j + 1, by omega, rfl, ?_, e.trans q2 (fun _ _ h => h) (fun k hk' ho => absurd hk' (Nat.not_lt.2 (nx k ho)))⟩, by dsimp only; omega⟩
          have : tn true (l.take (j + 1)) ++ l.drop (j + 1) = (tn true (l.take j) ++ l.drop j).set j (~~~ (l.getD j 0)) := by
            rw [List.set_append_right _ _ (by omega), hd, take_succ _ _ hjl, htl, Nat.sub_self]
            simp [tn]
          rw [this]; exact o2
        · obtain rfl : j = l.length := by omega
          rw [List.take_length, List.drop_length, List.append_nil] at ho
          exact ⟨x, c, by rw [tn_length], ho, e, nx⟩
    · have two : ∀ (t : UInt8), kpre v = [t] → kpart v = t :: esc (sb v.s) ++ [0, 0] → ∃ (I : Option Addr → Nat → Nat → Int → World → Prop), ∃ (μ : Option Addr → Nat → Nat → Int → World → Nat), I x (kpre v).length c 0 u ∧
            ∀ (x : Option Addr) (x_4 x_5 : Nat) x_6 w1, I x x_4 x_5 x_6 w1 → ∃ x_7, w1.cell? ((⟨g, 0, none⟩ : Addr).add 2) = some (.string x_7) ∧
              bif decide (x_6 < ((ByteArray.size x_7 : Nat) : Int)) then
                ∃ x_8, w1.cell? ((⟨g, 0, none⟩ : Addr).add 2) = some (.string x_8) ∧ ∃ b, (0 ≤ x_6 ∧ x_8[Int.toNat x_6]? = some b) ∧
                  ∀ g_2 w', Fresh w1 g_2 w' [.int .u8 ((UInt8.toNat b : Nat) : Int)] 5 → ∃ (x_9 : Option Addr) (x_10 : Nat) (x_11 : Nat), ∃ w'_2, RunsTo Try.prog (Builtin.append_ #[76, 76] 76 #[.slice x x_4 x_5, .slice (some ⟨g_2, 0, none⟩) 1 1]) w' (.slice x_9 x_10 x_11) w'_2 ∧
                    ∃ x_12, w'_2.cell? ((⟨g, 0, none⟩ : Addr).add 2) = some (.string x_12) ∧ ∃ b, (0 ≤ x_6 ∧ x_12[Int.toNat x_6]? = some b) ∧
                      bif decide (((UInt8.toNat b : Nat) : Int) = 0) then
                        ∀ g w', Fresh w'_2 g w' [.int .u8 255] 5 → ∃ (x_13 : Option Addr) (x_14 : Nat) (x_15 : Nat), ∃ w'_3, RunsTo Try.prog (Builtin.append_ #[76, 76] 76 #[.slice x_9 x_10 x_11, .slice (some ⟨g, 0, none⟩) 1 1]) w' (.slice x_13 x_14 x_15) w'_3 ∧
                          I x_13 x_14 x_15 (IntKind.i64.wrap (x_6 + 1)) w'_3 ∧ μ x_13 x_14 x_15 (IntKind.i64.wrap (x_6 + 1)) w'_3 < μ x x_4 x_5 x_6 w1
                      else I x_9 x_10 x_11 (IntKind.i64.wrap (x_6 + 1)) w'_2 ∧ μ x_9 x_10 x_11 (IntKind.i64.wrap (x_6 + 1)) w'_2 < μ x x_4 x_5 x_6 w1
              else
                ∀ g w', Fresh w1 g w' [.int .u8 0, .int .u8 0] 5 → ∃ (x_8 : Option Addr) (x_9 : Nat) (x_10 : Nat), ∃ w'_2, RunsTo Try.prog (Builtin.append_ #[76, 76] 76 #[.slice x x_4 x_5, .slice (some ⟨g, 0, none⟩) 2 2]) w' (.slice x_8 x_9 x_10) w'_2 ∧
                  (x_9 = (kpart v).length ∧ OwnB w'_2 x_8 x_10 (kpart v) ∧ Ext w w'_2 ∧ New w x_8) := by
        intro t hpre hpart
        rw [hpre] at ho ⊢
        refine ⟨fun x n c i u => ∃ j : Nat, j ≤ v.s.size ∧ i = (j : Int) ∧ n = (t :: esc ((sb v.s).take j)).length ∧ OwnB u x c (t :: esc ((sb v.s).take j)) ∧ Ext w u ∧ New w x ∧ ¬ ownB x g ∧ Blk u g [.int .u8 v.k, .int .i64 v.n, .string v.s],
          fun _ _ _ i _ => (v.s.size - i).toNat, ⟨0, by omega, rfl, rfl, ho, e, nx, hgx, b⟩, ?_⟩
        rintro y _ cy _ u1 ⟨j, hj, rfl, rfl, oy, ey, ny, hgy, by_⟩
        have hel := esc_length ((sb v.s).take j)
        have htl : ((sb v.s).take j).length = j := by rw [List.length_take, sb_length]; omega
        have hsz : (t :: esc ((sb v.s).take j)).length ≤ 20000001 := by rw [List.length_cons]; omega
        refine ⟨_, by_.cell rfl, brd (fun hlt => ?_) (fun hge => ?_)⟩
        · have hat := byte_at v.s j (by omega)
          refine ⟨_, by_.cell rfl, (sb v.s).getD j 0, ⟨by omega, by rw [Int.toNat_natCast]; exact hat⟩, ?_⟩
          have hsn := take_succ (sb v.s) j (by rw [sb_length]; omega)
          generalize (sb v.s).getD j 0 = q at *
          intro g3 u2 f3
          obtain ⟨z, cz, u3, hr3, oz, g3'⟩ := pushB f3 oy q rfl (by omega) 76
          have bz : Blk u3 g [.int .u8 v.k, .int .i64 v.n, .string v.s] := by_.keep g3'.fr hgy
          have hgz : ¬ ownB z g := fun hz => (g3'.sub g hz).elim hgy (fun h => absurd by_.lt (Nat.not_lt.2 h))
          have ez := g3'.ext ey ny
          have nz := g3'.new ey ny
          refine ⟨_, _, _, _, hr3, _, bz.cell rfl, q, ⟨by omega, by rw [Int.toNat_natCast]; exact hat⟩, ?_⟩
          rw [wi _ (by omega) (by omega)]
          have hesc1 : esc ((sb v.s).take (j + 1)) = esc ((sb v.s).take j) ++ (if q = 0 then [0, 255] else [q]) := by
            rw [hsn, esc_append]
            show _ ++ esc [q] = _
            rw [esc]
            split <;> rfl
          refine brd (fun h0 => ?_) (fun h0 => ?_)
          · have hq : q = 0 := UInt8.toNat_inj.1 (by simpa using h0)
            intro g5 u5 f5
            obtain ⟨y5, c5, u6, hr6, o6, g6⟩ := pushB f5 oz 255 rfl (by rw [List.length_append, List.length_singleton]; omega) 76
            refine ⟨_, _, _, _, hr6, ⟨j + 1, by omega, rfl, ?_, ?_, g6.ext ez nz, g6.new ez nz, fun hz => (g6.sub g hz).elim hgz (fun h => absurd bz.lt (Nat.not_lt.2 h)), bz.keep g6.fr hgz⟩, by dsimp only; omega⟩
            · rw [hesc1, if_pos hq, hq]; simp
            · rw [hesc1, if_pos hq]
              rw [hq] at o6
              simpa using o6
          · have hq : ¬ q = 0 := fun h => h0 (by rw [h]; rfl)
            refine ⟨⟨j + 1, by omega, rfl, ?_, ?_, ez, nz, hgz, bz⟩, by dsimp only; omega⟩
            · rw [hesc1, if_neg hq]; simp
            · rw [hesc1, if_neg hq]; exact oz
        · obtain rfl : j = v.s.size := by omega
          have hall : (sb v.s).take v.s.size = sb v.s := List.take_of_length_le (by rw [sb_length]; exact Nat.le_refl _)
          rw [hall] at oy hsz ⊢
          intro g3 u3 f3
          obtain ⟨rfl, rfl⟩ := f3
          have al : Ext u1 (u1.alloc (.cells #[.int .u8 0, .int .u8 0] 5)) := Fr.alloc NoB u1 _
          obtain ⟨z, cz, u4, hr4, oz, g4⟩ := appendBs (oy.ext al) (b := [0, 0]) (Src.new (P := Try.prog) (w := u1) (m := 2) (c := 2) (cs := [u8 0, u8 0]) 5 rfl (by simp [u8, Value.oneCell'])) (by simp only [List.length_cons, List.length_nil] at *; omega) 76 isB
          rw [← hpart] at hr4 oz
          exact ⟨_, _, _, _, hr4, rfl, oz, g4.ext (ey.trans' al) ny, g4.new (ey.trans' al) ny⟩
      refine ⟨_, b.cell rfl, brd (fun k2 => ?_) (fun k2 => ⟨_, b.cell rfl, brd (fun k3 => ?_) (fun k3 => ?_)⟩)⟩
      · refine two 3 ?_ ?_
        · unfold kpre; rw [if_neg (by omega), if_neg (by omega), if_pos k2]
        · unfold kpart; rw [if_neg (by omega), if_neg (by omega), if_pos k2]
      · refine two 4 ?_ ?_
        · unfold kpre; rw [if_neg (by omega), if_neg (by omega), if_neg k2]
        · unfold kpart; rw [if_neg (by omega), if_neg (by omega), if_neg k2]
      · have : kpart v = kpre v := by
          unfold kpart kpre
          by_cases h0 : v.k = 0
          · rw [if_pos h0, if_pos h0]
          · rw [if_neg h0, if_neg h0, if_pos (by omega), if_pos (by omega)]
        rw [this]
        exact ⟨rfl, ho, e, nx⟩
  · refine ⟨_, b2.cell rfl, ?_⟩
    obtain ⟨rfl, rfl⟩ := f2
    have hv : IntKind.u8.wrap (v.k + 1) = ((((v.k + 1).toNat).toUInt8).toNat : Int) := by
      rw [w8 _ (by omega) (by omega), B1.toUInt8_toNat (by omega)]; omega
    have o1 : OwnB (w1.alloc (.cells #[.int .u8 (IntKind.u8.wrap (v.k + 1))] 5)) (some ⟨w1.heap.size, 0, none⟩) 1 [((v.k + 1).toNat).toUInt8] := by
      rw [hv]; exact ownB_lit (w := w1) (l := [((v.k + 1).toNat).toUInt8]) (by simp [maxLen])
    have n1 : New w (some ⟨w1.heap.size, 0, none⟩) := (New.self w1 0 none).ext e1
    have hg2 : ¬ ownB (some ⟨w1.heap.size, 0, none⟩) g := by rw [ownB_some]; have := b1.lt; omega
    generalize w1.alloc (.cells #[.int .u8 (IntKind.u8.wrap (v.k + 1))] 5) = w2 at *
    refine brd (fun k1 => ⟨_, b2.cell rfl, ?_⟩) (fun k1 => ?_)
    · refine (number_spec w2 v.n 8 (by omega)).mono ?_
      rintro _ w3 ⟨N, cN, rfl, oN, e3, nN⟩
      refine ⟨_, _, _, rfl, ?_⟩
      obtain ⟨z, cz, w4, hr4, oz, g4⟩ := appendBs (o1.ext e3) (Src.bytes (P := Try.prog) (c := cN) oN.imm0) (by rw [hi_length]; simp) 76 isB
      have hlen : ([((v.k + 1).toNat).toUInt8] ++ hi (v.n % 18446744073709551616).toNat 8).length = 9 := by rw [List.length_append, hi_length]; rfl
      obtain ⟨ga, hA, hc, hset⟩ := setB oz (j := 1) (by omega)
      have hpre : kpre v = ([((v.k + 1).toNat).toUInt8] ++ hi (v.n % 18446744073709551616).toNat 8).set 1 ((((([((v.k + 1).toNat).toUInt8] ++ hi (v.n % 18446744073709551616).toNat 8).getD 1 0).toNat + 128) % 256).toUInt8) := by
        unfold kpre
        rw [if_neg (by omega), if_pos k1, hi_flip hn.1 hn.2, k1]
        rfl
      obtain ⟨hok, hs2⟩ := hset ((((([((v.k + 1).toNat).toUInt8] ++ hi (v.n % 18446744073709551616).toNat 8).getD 1 0).toNat + 128) % 256).toUInt8) _ ((xor8 (([((v.k + 1).toNat).toUInt8] ++ hi (v.n % 18446744073709551616).toNat 8).getD 1 0)).trans (by rw [B1.toUInt8_toNat (Nat.mod_lt _ (by decide))]))
      refine ⟨_, _, _, _, hr4, _, hA, ⟨by omega, by omega⟩, _, hc, _, hA, ⟨by omega, by omega⟩, hok, ?_⟩
      intro w5 hw5
      obtain ⟨o5, f5⟩ := hs2 w5 hw5
      rw [← hpre] at o5
      have e24 := e2.trans' e3
      have e4 := g4.ext e24 n1
      have n4 := g4.new e24 n1
      have hgz : ¬ ownB z g := fun hz => (g4.sub g hz).elim hg2 (fun h => absurd (b2.ext e3).lt (Nat.not_lt.2 h))
      refine ⟨by rw [hpre, List.length_set], o5, e4.trans f5 (fun _ _ h => h) (fun k hk' ho => absurd hk' (Nat.not_lt.2 (n4 k ho))), n4, hgz, ((b2.ext e3).keep g4.fr hg2).keep f5 hgz⟩
    · have hpre : kpre v = [((v.k + 1).toNat).toUInt8] := by
        unfold kpre
        have : v.k = 0 ∨ v.k = 2 ∨ v.k = 3 := by omega
        rcases this with h | h | h
        · rw [if_pos h, h]; rfl
        · rw [if_neg (by omega), if_neg (by omega), if_pos h, h]; rfl
        · rw [if_neg (by omega), if_neg (by omega), if_neg (by omega), h]; rfl
      rw [hpre]
      exact ⟨rfl, o1, e2, n1, hg2, b2⟩
theorem KeyR_spec {w : World} {A D : Option Addr} {c dc n m : Nat} {l : List V} {ds : List Bool} (hn : n = l.length) (hm : m = ds.length) (h : Imm KV NoB w A l) (hD : Imm Kd.bool NoB w D ds) (hl : l.length ≤ maxLen) (hds : ds.length ≤ maxLen) (hg : ∀ v ∈ l, good v) :
    CallsV Try.prog 39 #[.slice A n c, .slice D m dc] w fun r w' => Tells w (keyR l ds) r w' := by
  subst hn; subst hm
  refine cardindexref03_Key.calls okay ?_
  unfold cardindexref03_Key.W
  refine (rightR_spec rfl h hl).mono ?_
  rintro _ w1 ⟨rfl, e1⟩
  refine ⟨_, rfl, ?_⟩
  unfold keyR
  refine brn (fun hr => ?_) (fun hr => ?_)
  · rw [if_pos hr]; exact Tells.nil e1 _
  rw [if_neg (by rw [hr]; simp)]
  refine brn (fun hn => ?_) (fun hn => ?_)
  · rw [if_pos (by omega)]; exact Tells.nil e1 _
  have hn : ds.length = l.length := by omega
  rw [if_neg (by omega)]
  obtain ⟨h200, hall⟩ := rightRow_zero hr
  rw [List.all_eq_true] at hall
  have hkl := key_le l ds 65536 (fun v hv => right_size (hall v hv))
  refine ⟨fun X m c i u => ∃ j : Nat, j ≤ l.length ∧ i = (j : Int) ∧ m = (key (l.take j) (ds.take j)).length ∧ OwnB u X c (key (l.take j) (ds.take j)) ∧ Ext w u ∧ New w X,
    fun _ _ _ i _ => (l.length - i).toNat, ⟨0, by omega, rfl, by simp [key], OwnB.nil _, e1, New.none _⟩, ?_⟩
  rintro X _ cX _ u ⟨j, hj, rfl, rfl, oX, e, nX⟩
  have hkj := key_take_le l ds j
  refine brd (fun hlt => ?_) (fun hge => ?_)
  · have hjl : j < l.length := by omega
    have ed : Ext u u.drew := Fr.drew NoB u
    obtain ⟨ad, hA, _, hc⟩ := itemV (h.ext KV_pos e) (x := (j : Int)) (by omega) (by omega)
    obtain ⟨bd, hB, hd⟩ := itemF (hD.ext KBo_pos (e.trans' ed)) (x := (j : Int)) (by omega) (by omega)
    refine ⟨ad, hA, ⟨by omega, by omega⟩, fun z => Ext u z ∧ z.cell? = u.drew.cell?, ⟨ed, rfl⟩, _, fun z hz => (hc z (.inr (.inl hz.1))).1, _, fun z hz => (hc z (.inr (.inl hz.1))).2.1, _, fun z hz => (hc z (.inr (.inl hz.1))).2.2, bd, hB, ⟨by omega, by omega⟩, _, fun z hz => by rw [hz.2]; exact hd, ?_⟩
    rw [Int.toNat_natCast]
    have hm := getD_mem hjl
    have hrv := hall _ hm
    have hgv := hg _ hm
    have hks := key_snoc l ds j hjl (by omega)
    rw [← getDV hjl, ← getDF (by omega)] at hks
    generalize l.getD j V0 = v at *
    generalize ds.getD j false = d at *
    have hkd := right_kind hrv
    refine (partR_spec u.drew v d ⟨by omega, by omega⟩ hgv.2.1 (by have := right_size hrv; omega)).mono ?_
    rintro _ w2 ⟨Y, cY, rfl, oY, e2, nY⟩
    refine ⟨_, _, _, rfl, ?_⟩
    have eu2 := ed.trans' e2
    obtain ⟨Z, cZ, w3, hr3, oZ, g3⟩ := appendBs (oX.ext eu2) (Src.bytes (P := Try.prog) (c := cY) oY.imm0) (by
      have := congrArg List.length hks
      rw [List.length_append] at this
      have := key_take_le l ds (j + 1)
      omega) 76 isB
    rw [← hks] at hr3 oZ
    refine ⟨_, _, _, _, hr3, ?_⟩
    rw [wi _ (by omega) (by omega)]
    exact ⟨⟨j + 1, by omega, rfl, rfl, oZ, g3.ext (e.trans' eu2) nX, g3.new (e.trans' eu2) nX⟩, by dsimp only; omega⟩
  · obtain rfl : j = l.length := by omega
    rw [List.take_length, ← hn, List.take_length] at oX ⊢
    refine brd (fun hb => ?_) (fun hb => ?_)
    · rw [if_pos (by omega)]; exact Tells.nil e _
    · rw [if_neg (by omega)]; exact ⟨X, cX, rfl, oX, e, nX⟩
end Go.Proofs.Ytakmlaliglmnmaa
