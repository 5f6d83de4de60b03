/- Layer 3 (record): rows and keys. -/
import Derived.Test.YtakmlaliglmnmaaR3
set_option linter.unusedVariables false
set_option linter.unusedSimpArgs false
namespace Go.Proofs.Ytakmlaliglmnmaa
open Go Go.Sx R1

theorem Src.sb (w : World) (s : ByteArray) : Src Try.prog w 1 (.string s) (sb s).length ((Go.Sx.sb s).map u8) := by
  have := Src.str (P := Try.prog) (w := w) s
  rw [sb_length]
  have e : Lib.strCells s = (Go.Sx.sb s).map u8 := by simp [Lib.strCells, Go.Sx.sb, u8]
  rw [← e]; exact this
/-- what a call that makes bytes tells -/
def Tells (w : World) (r : List UInt8 × Int) (v : Value) (w' : World) : Prop := ∃ A c, v = .tuple #[.slice A r.1.length c, .int .i64 r.2] ∧ OwnB w' A c r.1 ∧ Ext w w' ∧ New w A
theorem Tells.nil {w w' : World} (e : Ext w w') (x : Int) : Tells w ([], x) (.tuple #[.slice none 0 0, .int .i64 x]) w' := ⟨none, 0, rfl, OwnB.nil _, e, New.none _⟩
theorem rightRow_zero {l : List V} (h : rightRow l = 0) : l.length ≤ 200 ∧ l.all right = true := by
  unfold rightRow at h
  split at h
  · cases h
  · refine ⟨by omega, ?_⟩
    split at h
    · assumption
    · cases h
theorem getD_mem {l : List V} {i : Nat} (h : i < l.length) : l.getD i V0 ∈ l := by simp [List.getD, h]
theorem getDF {l : List Bool} {i : Nat} (h : i < l.length) : l.getD i false = l[i] := by simp [List.getD, h]
theorem getDV {l : List V} {i : Nat} (h : i < l.length) : l.getD i V0 = l[i] := by simp [List.getD, h]
theorem key_take_le : ∀ (l : List V) (ds : List Bool) (i : Nat), (key (l.take i) (ds.take i)).length ≤ (key l ds).length
  | [], _, i => by cases i <;> simp [key]
  | v :: l, [], i => by cases i <;> simp [key]
  | v :: l, d :: ds, 0 => by simp [key]
  | v :: l, d :: ds, i + 1 => by
    have := key_take_le l ds i
    simp only [List.take_succ_cons, key, List.length_append]; omega

theorem Key_spec {w : World} {A D : Option Addr} {c dc : Nat} {l : List V} {ds : List Bool} (h : Imm KV NoB w A l) (hD : Imm Kd.bool NoB w D ds) (hl : l.length ≤ maxLen) (hds : ds.length ≤ maxLen) (hg : ∀ v ∈ l, good v) :
    CallsV Try.prog 36 #[.slice A l.length c, .slice D ds.length dc] w fun r w' => Tells w (keyR l ds) r w' := by
  refine record_Key.calls okay ?_
  unfold record_Key.W
  refine (right_spec h hl).mono ?_
  rintro r w1 ⟨rfl, e1⟩
  refine ⟨_, rfl, ?_⟩
  unfold keyR
  refine brn (fun hr => ?_) (fun hr => ?_)
  · rw [if_pos hr]; exact Tells.nil e1 _
  rw [if_neg (by rw [hr]; simp)]
  refine brn (fun hn => ?_) (fun hn => ?_)
  · rw [if_pos (by omega)]; exact Tells.nil e1 _
  have hn : ds.length = l.length := by omega
  rw [if_neg (by omega)]
  obtain ⟨h200, hall⟩ := rightRow_zero hr
  rw [List.all_eq_true] at hall
  have hD1 := hD.ext KBo_pos e1
  have h1 := h.ext KV_pos e1
  refine ⟨fun A2 n2 c2 x w2 => ∃ j : Nat, j ≤ l.length ∧ x = (j : Int) ∧ n2 = (key (l.take j) (ds.take j)).length ∧ (key (l.take j) (ds.take j)).length ≤ 1048576 ∧ OwnB w2 A2 c2 (key (l.take j) (ds.take j)) ∧ Ext w1 w2 ∧ New w1 A2,
    fun _ _ _ x _ => (l.length - x).toNat, ⟨0, by omega, rfl, rfl, by simp [key], OwnB.nil _, .refl _ _, New.none _⟩, ?_⟩
  rintro A2 _ c2 _ w2 ⟨j, hj, rfl, rfl, hle, ho, e2, n2⟩
  refine brd (fun hlt => ?_) (fun hge => ?_)
  · obtain ⟨ad, hA, q1, q2, q3⟩ := itemV0 (h1.ext KV_pos e2) (x := (j : Int)) (by omega) (by omega)
    refine ⟨ad, hA, ⟨by omega, by omega⟩, _, q1, _, q2, _, q3, ?_⟩
    rw [Int.toNat_natCast]
    have hjl : j < l.length := by omega
    have hgv := hg _ (getD_mem hjl)
    have hrv := hall _ (getD_mem hjl)
    have hsn : key (l.take (j + 1)) (ds.take (j + 1)) = key (l.take j) (ds.take j) ++ tn (ds.getD j false) (kpart (l.getD j V0)) := by
      rw [key_snoc l ds j hjl (by omega), getDF (by omega), getDV hjl]
    have hsz := right_size hrv
    generalize l.getD j V0 = v at *
    obtain ⟨hs, b, e⟩ := varV w2 #[.int .u8 0, .int .i64 0, .string (ByteArray.mk #[])] rfl 31 (.int .u8 v.k) (.int .i64 v.n) (.string v.s)
    refine ⟨hs.1, hs.2.1, hs.2.2, _, b.cell rfl, _, b.cell rfl, _, b.cell rfl, ?_⟩
    refine (part_spec (ho.ext e) v hgv (by omega)).mono ?_
    rintro r w3 ⟨A3, c3, rfl, ho3, hg3⟩
    have e3 := hg3.ext (e2.trans' e) n2
    have n3 := hg3.new (e2.trans' e) n2
    refine ⟨_, _, _, rfl, ?_⟩
    obtain ⟨ad', hD', q4⟩ := itemF (hD1.ext KBo_pos e3) (x := (j : Int)) (by omega) (by omega)
    refine ⟨ad', hD', ⟨by omega, by omega⟩, _, q4, ?_⟩
    rw [Int.toNat_natCast]
    have hpl := kpart_pos v
    have htl := key_take_le l ds (j + 1)
    rw [hsn] at htl
    generalize hp : key (l.take j) (ds.take j) = p at *
    have fin : ∀ d w4, ds.getD j false = d → OwnB w4 A3 c3 (p ++ tn d (kpart v)) → Ext w1 w4 → (bif decide (1048576 < (((p ++ kpart v).length : Nat) : Int)) then Tells w (if 1048576 < (key l ds).length then ([], 3) else (key l ds, 0)) (.tuple #[.slice none 0 0, .int .i64 3]) w4 else
        (∃ j' : Nat, j' ≤ l.length ∧ IntKind.i64.wrap ((j : Int) + 1) = (j' : Int) ∧ (p ++ kpart v).length = (key (l.take j') (ds.take j')).length ∧ (key (l.take j') (ds.take j')).length ≤ 1048576 ∧ OwnB w4 A3 c3 (key (l.take j') (ds.take j')) ∧ Ext w1 w4 ∧ New w1 A3) ∧ ((l.length : Int) - IntKind.i64.wrap ((j : Int) + 1)).toNat < ((l.length : Int) - (j : Int)).toNat) := by
      intro d w4 hd ho4 e4
      rw [hd] at hsn htl
      have hll : (p ++ tn d (kpart v)).length = (p ++ kpart v).length := by simp [tn_length]
      refine brd (fun hb => ?_) (fun hb => ?_)
      · rw [if_pos (by omega)]; exact Tells.nil (e1.trans' e4) _
      · rw [wi _ (by omega) (by omega)]
        refine ⟨⟨j + 1, by omega, rfl, by rw [hsn, hll], by rw [hsn, hll]; omega, by rw [hsn]; exact ho4, e4, n3⟩, by omega⟩
    cases hd : ds.getD j false with
    | true =>
      rw [cond_true]
      obtain ⟨g, hA3, _⟩ := Own.at_ ho3 (j := p.length) (by simp; omega)
      have hc3 := ho3.le
      rw [List.length_append] at hc3
      refine ⟨⟨by omega, by rw [List.length_append]; omega⟩, ?_⟩
      have hcut : cutAt A3 c3 (p.length : Int).toNat 1 = some ⟨g, p.length, none⟩ := by
        rw [Int.toNat_natCast]
        unfold cutAt
        rw [if_neg (by omega), hA3]
        simp [add_new]
      rw [hcut, show (p ++ kpart v).length - (p.length : Int).toNat = (kpart v).length by simp]
      have hpb := part_length v
      refine (turn_spec ho3 (by rw [List.length_append]; omega) hA3 _).mono ?_
      rintro r w4 ⟨rfl, ho4, hf4⟩
      exact ⟨rfl, fin true w4 hd ho4 (e3.trans hf4 (fun _ _ h => h) (fun k hk hk' => absurd hk (Nat.not_lt.2 (n3 k hk'))))⟩
    | false =>
      rw [cond_false]
      exact fin false w3 hd (by simpa [tn] using ho3) e3
  · obtain rfl : j = l.length := by omega
    rw [List.take_length, ← hn, List.take_length] at ho hle ⊢
    rw [if_neg (by omega)]
    exact ⟨A2, c2, rfl, ho, e1.trans' e2, n2.ext e1⟩

def putL (l : List V) : List UInt8 := B1.enc l.length ++ l.flatMap (fun v => B1.enc (sort v)) ++ l.flatMap body
def putR (l : List V) : List UInt8 × Int := if rightRow l ≠ 0 then ([], rightRow l) else if 1048576 < (putL l).length then ([], 3) else (putL l, 0)
theorem flat_snoc {f : V → List UInt8} (l : List V) (j : Nat) (h : j < l.length) : (l.take (j + 1)).flatMap f = (l.take j).flatMap f ++ f (l.getD j V0) := by
  have : l.take (j + 1) = l.take j ++ [l.getD j V0] := by rw [List.take_add_one]; simp [List.getD, h]
  rw [this, List.flatMap_append]; simp
theorem sort_lt (v : V) (hs : v.s.size ≤ 65536) : sort v < 2 ^ 64 := by
  have := wide_le v.n
  unfold sort; split
  · omega
  · split
    · omega
    · split <;> omega
theorem flat_le {f : V → List UInt8} {M : Nat} : ∀ (l : List V), (∀ v ∈ l, (f v).length ≤ M) → (l.flatMap f).length ≤ l.length * M
  | [], _ => by simp
  | v :: l, h => by
    have h1 := flat_le l (fun v hv => h v (List.mem_cons.2 (.inr hv)))
    have h2 := h v (List.mem_cons.2 (.inl rfl))
    rw [List.flatMap_cons, List.length_append, List.length_cons, Nat.add_mul, Nat.one_mul]; omega
theorem body_length (v : V) : (body v).length ≤ 8 + v.s.size := by
  have := wide_le v.n
  unfold body; split <;> simp [hi_length, sb_length] <;> omega
theorem bounded_spec {w : World} {A : Option Addr} {c n : Nat} : CallsV Try.prog 64 #[.slice A n c] w fun r w' => r = (if 1048576 < n then .tuple #[.slice none 0 0, .int .i64 3] else .tuple #[.slice A n c, .int .i64 0]) ∧ w' = w := by
  refine record_bounded.calls okay ?_
  unfold record_bounded.W
  refine brd (fun h => ?_) (fun h => ?_)
  · exact ⟨by rw [if_pos (by omega)], rfl⟩
  · exact ⟨by rw [if_neg (by omega)], rfl⟩
theorem Put_spec {w : World} {A : Option Addr} {c : Nat} {l : List V} (h : Imm KV NoB w A l) (hl : l.length ≤ maxLen) (hg : ∀ v ∈ l, good v) :
    CallsV Try.prog 37 #[.slice A l.length c] w fun r w' => Tells w (putR l) r w' := by
  refine record_Put.calls okay ?_
  unfold record_Put.W
  refine (right_spec h hl).mono ?_
  rintro r w1 ⟨rfl, e1⟩
  refine ⟨_, rfl, ?_⟩
  unfold putR
  refine brn (fun hr => ?_) (fun hr => ?_)
  · rw [if_pos hr]; exact Tells.nil e1 _
  rw [if_neg (by rw [hr]; simp)]
  obtain ⟨h200, hall⟩ := rightRow_zero hr
  rw [List.all_eq_true] at hall
  have h1 := h.ext KV_pos e1
  rw [wu _ (by omega) (by omega)]
  refine (Uint_spec (OwnB.nil w1) l.length (by omega) (by simp)).mono ?_
  rw [List.nil_append]
  rintro r w2 ⟨A2, c2, rfl, ho2, hg2, _⟩
  have e2 := hg2.ext (.refl _ _) (New.none _)
  have n2 := hg2.new (.refl _ _) (New.none _)
  have he := B1.enc_le_ten (m := l.length) (by omega)
  refine ⟨_, _, _, rfl, ?_⟩
  have hsl : ∀ v ∈ l, (B1.enc (sort v)).length ≤ 10 := fun v hv => B1.enc_le_ten (sort_lt v (right_size (hall v hv)))
  have hbl : ∀ v ∈ l, (body v).length ≤ 65544 := fun v hv => by have := body_length v; have := right_size (hall v hv); omega
  have hS : ∀ j, ((l.take j).flatMap fun v => B1.enc (sort v)).length ≤ 2000 := fun j => by
    have := flat_le (f := fun v => B1.enc (sort v)) (M := 10) (l.take j) (fun v hv => hsl v (List.mem_of_mem_take hv))
    rw [List.length_take] at this; omega
  have hB : ∀ j, ((l.take j).flatMap body).length ≤ 13108800 := fun j => by
    have := flat_le (f := body) (M := 65544) (l.take j) (fun v hv => hbl v (List.mem_of_mem_take hv))
    rw [List.length_take] at this; omega
  refine ⟨fun A3 n3 c3 x w3 => ∃ j : Nat, j ≤ l.length ∧ x = (j : Int) ∧ n3 = (B1.enc l.length ++ (l.take j).flatMap fun v => B1.enc (sort v)).length ∧ OwnB w3 A3 c3 (B1.enc l.length ++ (l.take j).flatMap fun v => B1.enc (sort v)) ∧ Ext w1 w3 ∧ New w1 A3,
    fun _ _ _ x _ => (l.length - x).toNat, ⟨0, by omega, rfl, by simp, by simpa using ho2, e2, n2⟩, ?_⟩
  rintro A3 _ c3 _ w3 ⟨j, hj, rfl, rfl, ho3, e3, n3⟩
  have hSj := hS j
  refine brd (fun hlt => ?_) (fun hge => ?_)
  · obtain ⟨ad, hA, q1, q2, q3⟩ := itemV0 (h1.ext KV_pos e3) (x := (j : Int)) (by omega) (by omega)
    refine ⟨ad, hA, ⟨by omega, by omega⟩, _, q1, _, q2, _, q3, ?_⟩
    rw [Int.toNat_natCast]
    have hjl : j < l.length := by omega
    have hgv := hg _ (getD_mem hjl)
    have hsz := right_size (hall _ (getD_mem hjl))
    have hsn := flat_snoc (f := fun v => B1.enc (sort v)) l j hjl
    generalize l.getD j V0 = v at *
    obtain ⟨hs, b, e⟩ := varV w3 #[.int .u8 0, .int .i64 0, .string (ByteArray.mk #[])] rfl 31 (.int .u8 v.k) (.int .i64 v.n) (.string v.s)
    refine ⟨hs.1, hs.2.1, hs.2.2, _, b.cell rfl, _, b.cell rfl, _, b.cell rfl, ?_⟩
    refine (sort_spec _ v hgv (by omega)).mono ?_
    rintro r w4 ⟨rfl, e4⟩
    refine ⟨_, rfl, ?_⟩
    refine (Uint_spec (ho3.ext (e.trans' e4)) (sort v) (sort_lt v hsz) (by rw [List.length_append]; omega)).mono ?_
    rintro r w5 ⟨A5, c5, rfl, ho5, hg5, _⟩
    have e34 := e3.trans' (e.trans' e4)
    refine ⟨_, _, _, rfl, ?_⟩
    rw [wi _ (by omega) (by omega)]
    rw [List.append_assoc, ← hsn] at ho5 ⊢
    exact ⟨⟨j + 1, by omega, rfl, rfl, ho5, hg5.ext e34 n3, hg5.new e34 n3⟩, by dsimp only; omega⟩
  obtain rfl : j = l.length := by omega
  rw [List.take_length] at ho3 hSj ⊢
  refine ⟨fun A4 n4 c4 x w4 => ∃ j : Nat, j ≤ l.length ∧ x = (j : Int) ∧ n4 = (B1.enc l.length ++ (l.flatMap fun v => B1.enc (sort v)) ++ (l.take j).flatMap body).length ∧ OwnB w4 A4 c4 (B1.enc l.length ++ (l.flatMap fun v => B1.enc (sort v)) ++ (l.take j).flatMap body) ∧ Ext w1 w4 ∧ New w1 A4,
    fun _ _ _ x _ => (l.length - x).toNat, ⟨0, by omega, rfl, by simp, by simpa using ho3, e3, n3⟩, ?_⟩
  rintro A4 _ c4 _ w4 ⟨j, hj, rfl, rfl, ho4, e4, n4⟩
  have hBj := hB j
  refine brd (fun hlt => ?_) (fun hge => ?_)
  · obtain ⟨ad, hA, q1, q2, q3⟩ := itemV0 (h1.ext KV_pos e4) (x := (j : Int)) (by omega) (by omega)
    refine ⟨ad, hA, ⟨by omega, by omega⟩, _, q1, _, q2, _, q3, ?_⟩
    rw [Int.toNat_natCast]
    have hjl : j < l.length := by omega
    have hgv := hg _ (getD_mem hjl)
    have hsz := right_size (hall _ (getD_mem hjl))
    have hsn := flat_snoc (f := body) l j hjl
    generalize l.getD j V0 = v at *
    obtain ⟨hs, b, e⟩ := varV w4 #[.int .u8 0, .int .i64 0, .string (ByteArray.mk #[])] rfl 31 (.int .u8 v.k) (.int .i64 v.n) (.string v.s)
    have hnot : ¬ ownB A4 w4.heap.size := fun hk => absurd (Own.lt ho4 _ hk) (Nat.lt_irrefl _)
    refine ⟨hs.1, hs.2.1, hs.2.2, _, b.cell rfl, ?_⟩
    have e4' := e4.trans' e
    have ho4' := ho4.ext e
    generalize w4.heap.size = g at *
    generalize (((w4.alloc (.cells #[.int .u8 0, .int .i64 0, .string (ByteArray.mk #[])] 31)).setCell ((⟨g, 0, none⟩ : Addr).add 0) (.int .u8 v.k)).setCell ((⟨g, 0, none⟩ : Addr).add (0 + 1)) (.int .i64 v.n)).setCell ((⟨g, 0, none⟩ : Addr).add (0 + 1 + 1)) (.string v.s) = W at *
    have hlen : (B1.enc l.length ++ (l.flatMap fun v => B1.enc (sort v)) ++ (l.take j).flatMap body).length ≤ 20000000 := by simp only [List.length_append]; omega
    generalize hpre : B1.enc l.length ++ (l.flatMap fun v => B1.enc (sort v)) = pre at *
    refine brd (fun h1 => ?_) (fun h1 => ?_)
    · refine ⟨fun u => Blk u g [.int .u8 v.k, .int .i64 v.n, .string v.s], b.ext (Fr.drew NoB W), _, fun u hu => hu.cell rfl, _, fun u hu => hu.cell rfl, ?_⟩
      refine (wide_spec _ v.n hgv.2.1.1 hgv.2.1.2).same ⟨_, rfl, fun u => Blk u g [.int .u8 v.k, .int .i64 v.n, .string v.s], fun _ h => h, b.ext (Fr.drew NoB W), ?_⟩
      have hwl := wide_le v.n
      have hm : IntKind.u64.wrap v.n = (((v.n % 18446744073709551616).toNat : Nat) : Int) := by rw [wu_mod]; omega
      rw [hm]
      have ed := e4'.trans' (Fr.drew NoB W)
      refine (high_spec (ho4'.ext (Fr.drew NoB W)) (v.n % 18446744073709551616).toNat (wide v.n) (by omega) hwl (by omega)).mono ?_
      rintro r w5 ⟨A5, c5, rfl, ho5, hg5⟩
      have b5 := (b.ext (Fr.drew NoB W)).keep hg5.fr hnot
      have hhl := hi_length (v.n % 18446744073709551616).toNat (wide v.n)
      refine ⟨_, _, _, rfl, fun u => Blk u g [.int .u8 v.k, .int .i64 v.n, .string v.s], fun _ h => h, b5, _, b5.cell rfl, ?_⟩
      obtain ⟨A6, c6, w6, hr6, ho6, hg6⟩ := appendBs ho5 (Src.sb w5 v.s) (by rw [List.length_append, hhl, sb_length]; omega) 76 isS
      refine ⟨_, _, _, _, hr6, ?_⟩
      rw [wi _ (by omega) (by omega)]
      have hcat : pre ++ (l.take j).flatMap body ++ hi (v.n % 18446744073709551616).toNat (wide v.n) ++ sb v.s = pre ++ (l.take (j + 1)).flatMap body := by
        rw [hsn, body, if_pos h1]; simp
      rw [hcat] at ho6 ⊢
      have hg56 := hg5.trans hg6
      exact ⟨⟨j + 1, by omega, rfl, rfl, ho6, hg56.ext ed n4, hg56.new ed n4⟩, by dsimp only; omega⟩
    · obtain ⟨A6, c6, w6, hr6, ho6, hg6⟩ := appendBs ho4' (Src.sb W v.s) (by rw [sb_length]; omega) 76 isS
      refine ⟨_, b.cell rfl, _, _, _, _, hr6, ?_⟩
      rw [wi _ (by omega) (by omega)]
      have hcat : pre ++ (l.take j).flatMap body ++ sb v.s = pre ++ (l.take (j + 1)).flatMap body := by
        rw [hsn, body, if_neg h1]; simp
      rw [hcat] at ho6 ⊢
      exact ⟨⟨j + 1, by omega, rfl, rfl, ho6, hg6.ext e4' n4, hg6.new e4' n4⟩, by dsimp only; omega⟩
  obtain rfl : j = l.length := by omega
  rw [List.take_length] at ho4 ⊢
  refine (bounded_spec).same ?_
  show _
  by_cases hb : 1048576 < (putL l).length
  · have hb' := hb
    unfold putL at hb'
    rw [if_pos hb, if_pos hb']
    exact ⟨_, _, _, _, rfl, Tells.nil (e1.trans' e4) _⟩
  · have hb' := hb
    unfold putL at hb'
    rw [if_neg hb, if_neg hb']
    exact ⟨_, _, _, _, rfl, A4, c4, rfl, ho4, e1.trans' e4, n4.ext e1⟩
end Go.Proofs.Ytakmlaliglmnmaa
