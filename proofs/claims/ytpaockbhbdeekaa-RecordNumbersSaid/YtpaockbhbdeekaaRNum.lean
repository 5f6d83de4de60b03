/- 'RecordNumbers' answers true: the fixed examples, the limits. -/
import Derived.Test.YtpaockbhbdeekaaNestsN
import Derived.Test.YtpaockbhbdeekaaRep
import Derived.Test.YtpaockbhbdeekaaR6
import Derived.Test.YtpaockbhbdeekaaG4
import Derived.Test.YtpaockbhbdeekaaSxMake
set_option linter.unusedVariables false
set_option linter.unusedSimpArgs false
namespace Go.Proofs.Ytpaockbhbdeekaa
open Go Go.Sx R1
theorem fresh_own {α : Type} {K : Kd α} {w w' : World} {g : Nat} {cs : List Value} {e : TypeId} (f : Fresh w g w' cs e) {l : List α} (hl : cs.length = l.length * K.size) (hn : l.length ≤ maxLen)
    (hr : ∀ i a, l[i]? = some a → K.rep NoB w a ((cs.drop (i * K.size)).take K.size)) : OwnK K w' (some ⟨g, 0, none⟩) l.length l := by
  obtain ⟨rfl, rfl⟩ := f
  exact ownK_lit hl hn hr
theorem one1 {α : Type} {a b : α} {i : Nat} (h : [a][i]? = some b) : i = 0 ∧ b = a := by
  cases i with
  | zero => simp at h; exact ⟨rfl, h.symm⟩
  | succ i => simp at h
theorem fresh_flag {w w' : World} {g : Nat} {d : Bool} {e : TypeId} (f : Fresh w g w' [.bool d] e) : Imm Kd.bool NoB w' (some ⟨g, 0, none⟩) [d] :=
  (fresh_own (K := Kd.bool) (l := [d]) f rfl (by simp [maxLen]) (fun i a h => by obtain ⟨rfl, rfl⟩ := one1 h; rfl)).imm (by decide)
theorem fresh_val {w w' : World} {g : Nat} {v : V} {e : TypeId} (f : Fresh w g w' [.int .u8 v.k, .int .i64 v.n, .string v.s] e) : OwnK KV w' (some ⟨g, 0, none⟩) 1 [v] :=
  fresh_own (K := KV) (l := [v]) f rfl (by simp [maxLen]) (fun i a h => by obtain ⟨rfl, rfl⟩ := one1 h; rfl)
theorem fresh_bytes {w w' : World} {g : Nat} {b : List UInt8} {e : TypeId} (f : Fresh w g w' (b.map u8) e) (hb : b.length ≤ maxLen) : OwnB w' (some ⟨g, 0, none⟩) b.length b := by
  obtain ⟨rfl, rfl⟩ := f
  exact ownB_lit hb
theorem wrong_spec {w : World} {A : Option Addr} {c n : Nat} {b : List UInt8} (hn : n = b.length) (h : Imm KB NoB w A b) (hl : b.length ≤ 100) (hc : b.length ≤ c) (hb : getR b = ([], 10)) :
    CallsV Try.prog 33 #[.slice A n c] w fun r w' => r = .bool true ∧ Ext w w' := by
  refine cardindexlaw03_wrong.calls okay ?_
  unfold cardindexlaw03_wrong.W
  refine (Get_spec hn h (by omega) hc).mono ?_
  rw [hb]
  rintro _ w1 ⟨A', c', rfl, ho, e, nA⟩
  exact ⟨_, _, _, _, rfl, brd (fun _ => ⟨rfl, e⟩) (fun h => absurd rfl h)⟩
theorem none_spec {w : World} {A : Option Addr} {c n : Nat} {b : List UInt8} (hn : n = b.length) (h : Imm KB NoB w A b) (hl : b.length ≤ 100) (h1 : unkeyRR b [false] = ([], 10)) (h2 : unkeyRR (b.map (fun x => ~~~x)) [true] = ([], 10)) :
    CallsV Try.prog 34 #[.slice A n c] w fun r w' => r = .bool true ∧ Ext w w' := by
  subst hn
  refine cardindexlaw03_none.calls okay ?_
  unfold cardindexlaw03_none.W
  intro g w1 f
  refine (Unkey_spec rfl rfl (h.ext KB_pos f.ext) (fresh_flag f) (by simp only [maxLen]; omega) (by simp [maxLen])).mono ?_
  rw [h1]
  rintro _ w2 ⟨X, cX, rfl, oX, e2', nX⟩
  have e2 := f.ext.trans' e2'
  refine ⟨_, _, _, _, rfl, ?_⟩
  refine (CopyBytes_spec (h.ext KB_pos e2) (by omega)).mono ?_
  rintro _ w3 ⟨B, rfl, oB, e3', nB⟩
  have e3 := e2.trans' e3'
  refine ⟨_, _, _, rfl, ?_⟩
  refine ⟨fun x u => ∃ j : Nat, j ≤ b.length ∧ x = (j : Int) ∧ OwnB u B b.length ((b.take j).map (fun x => ~~~x) ++ b.drop j) ∧ Ext w u, fun x _ => (b.length - x).toNat, ⟨0, by omega, rfl, by simpa using oB, e3⟩, ?_⟩
  rintro _ u ⟨j, hj, rfl, ho, e⟩
  refine brd (fun hlt => ?_) (fun hge => ?_)
  · have hjl : j < b.length := by omega
    have hd : b.drop j = b.getD j 0 :: b.drop (j + 1) := by rw [List.drop_eq_getElem_cons hjl]; simp [List.getD, hjl]
    have htl : ((b.take j).map (fun x => ~~~x)).length = j := by rw [List.length_map, List.length_take]; omega
    have hlen : ((b.take j).map (fun x => ~~~x) ++ b.drop j).length = b.length := by rw [List.length_append, htl, List.length_drop]; omega
    obtain ⟨g', hg', hs1, hs2, hset⟩ := Own.at_ ho (j := j) (by rw [hlen]; omega)
    subst hg'
    have hcell : u.cell? ⟨g', j, none⟩ = some (u8 (b.getD j 0)) := by
      obtain ⟨g2, hg2, hc⟩ := Own.cells ho (j := j) (v := u8 (b.getD j 0)) (by
        rw [List.getElem?_map, List.getElem?_append_right (by omega), hd, htl, Nat.sub_self]
        rfl)
      cases hg2
      exact hc
    refine ⟨_, rfl, ⟨by omega, by omega⟩, _, by rw [Int.toNat_natCast, add_new, Nat.mul_one, Nat.zero_add]; exact hcell, _, rfl, ⟨by omega, by omega⟩, ?_⟩
    rw [Int.toNat_natCast, add_new, Nat.mul_one, Nat.zero_add, flip_byte, wi _ (by omega) (by omega)]
    have hset' := hset (u8 (~~~ (b.getD j 0)))
    refine ⟨⟨hs1, hs2⟩, ?_⟩
    rintro u1 rfl
    refine ⟨⟨j + 1, by omega, rfl, ?_, e.trans hset'.2 (fun _ _ h => h) (fun k hk q => absurd hk (Nat.not_lt.2 (nB.ext e2 k q)))⟩, by dsimp only; omega⟩
    have e' : (b.take (j + 1)).map (fun x => ~~~x) ++ b.drop (j + 1) = ((b.take j).map (fun x => ~~~x) ++ b.drop j).set j (~~~ (b.getD j 0)) := by
      rw [List.set_append_right _ _ (by omega), hd, htl, Nat.sub_self, List.take_add_one, List.set_cons_zero, List.map_append, List.append_assoc]
      congr 1
      simp [List.getD, hjl]
    rw [e']
    have := hset'.1
    unfold OwnB
    rw [List.length_set, List.map_set]
    exact this
  · obtain rfl : j = b.length := by omega
    rw [List.take_length, List.drop_length, List.append_nil] at ho
    intro g4 w4 f4
    refine (Unkey_spec (n := b.length) (by rw [List.length_map]) rfl (ho.imm0.ext KB_pos f4.ext) (fresh_flag f4) (by rw [List.length_map]; simp only [maxLen]; omega) (by simp [maxLen])).mono ?_
    rw [h2]
    rintro _ w5 ⟨Y, cY, rfl, oY, e5, nY⟩
    exact ⟨_, _, _, _, rfl, brd (fun _ => brd (fun _ => ⟨rfl, (e.trans' f4.ext).trans' e5⟩) (fun h => absurd rfl h)) (fun h => absurd rfl h)⟩
/-- what the loop of the fixed examples holds -/
def exE (x : Int) : Int := IntKind.i64.wrap (IntKind.i64.wrap (IntKind.i64.wrap (1 * 2 ^ Min.min (Int.toNat (IntKind.i64.wrap (IntKind.i64.wrap (8 * x) - 2))) 64) * 2) - 1)
def exN (x : Int) (j : Nat) : Int := if j = 0 then exE x else if j = 1 then IntKind.i64.wrap (IntKind.i64.wrap (0 - exE x) - 1) else if j = 2 then IntKind.i64.wrap (exE x + 1) else IntKind.i64.wrap (IntKind.i64.wrap (0 - exE x) - 2)
def exL (x : Int) (j : Nat) : Int := if j ≤ 1 then x else IntKind.i64.wrap (x + 1)
theorem ex_all : ∀ k ∈ [1, 2, 3, 4, 5, 6, 7, 8], ∀ j ∈ [0, 1, 2, 3], (k = 8 → j ≤ 1) → (wide (exN ((k : Nat) : Int) j) : Int) = exL (k : Int) j ∧ -9223372036854775808 ≤ exN (k : Int) j ∧ exN (k : Int) j ≤ 9223372036854775807 := by decide +kernel
theorem ex_at {k j : Nat} (h1 : 1 ≤ k) (h2 : k ≤ 8) (h3 : j < 4) (h4 : k = 8 → j ≤ 1) : (wide (exN (k : Int) j) : Int) = exL (k : Int) j ∧ -9223372036854775808 ≤ exN (k : Int) j ∧ exN (k : Int) j ≤ 9223372036854775807 :=
  ex_all k (by simp; omega) j (by simp; omega) h4
theorem putNum (n : Int) : ∃ l, putR [numV n] = (l, 0) ∧ l.length = 2 + wide n ∧ l.getD 1 0 = (wide n).toUInt8 := by
  have h1 := wide_le n
  have hs : sort (numV n) = wide n := rfl
  have hb : (body (numV n)).length = wide n := by
    show (hi _ (wide n) ++ []).length = _
    rw [List.append_nil, hi_length]
  have hp : putL [numV n] = [(1 : UInt8)] ++ ([(wide n).toUInt8] ++ []) ++ (body (numV n) ++ []) := by
    show B1.enc 1 ++ (B1.enc (sort (numV n)) ++ []) ++ (body (numV n) ++ []) = _
    rw [hs, B1.enc_lt (by decide : 1 < 128), B1.enc_lt (by omega : wide n < 128)]
    rfl
  have hl : (putL [numV n]).length = 2 + wide n := by
    rw [hp]; simp [hb]; omega
  refine ⟨putL [numV n], ?_, hl, by rw [hp]; rfl⟩
  unfold putR
  rw [if_neg (show ¬ rightRow [numV n] ≠ 0 from fun h => h rfl), if_neg (by omega)]
/-- rows of alike values -/
theorem flat_rep {β : Type} (f : V → List β) (v : V) (m : Nat) (h : (f v).length = m) : ∀ n, ((List.replicate n v).flatMap f).length = n * m
  | 0 => by simp
  | n + 1 => by rw [List.replicate_succ, List.flatMap_cons, List.length_append, flat_rep f v m h n, h, Nat.add_mul]; omega
theorem all_rep {v : V} (h : right v = true) : ∀ n, (List.replicate n v).all right = true
  | 0 => rfl
  | n + 1 => by rw [List.replicate_succ, List.all_cons, h, all_rep h n]; rfl
theorem row_rep {v : V} (h : right v = true) {n : Nat} (hn : n ≤ 200) : rightRow (List.replicate n v) = 0 := by
  unfold rightRow
  rw [List.length_replicate, if_neg (by omega), all_rep h, if_pos rfl]
theorem put_rep {v : V} (h : right v = true) {n a c : Nat} (hn : n ≤ 200) (ha : (B1.enc (sort v)).length = a) (hc : (body v).length = c) : (putL (List.replicate n v)).length = (B1.enc n).length + n * a + n * c := by
  unfold putL
  rw [List.length_append, List.length_append, List.length_replicate, flat_rep (fun v => B1.enc (sort v)) v a ha, flat_rep body v c hc]
theorem key_rep (v : V) (d : Bool) (m : Nat) (h : (kpart v).length = m) : ∀ n, (key (List.replicate n v) (List.replicate n d)).length = n * m
  | 0 => by simp [key]
  | n + 1 => by
    rw [List.replicate_succ, List.replicate_succ, key, List.length_append, tn_length, key_rep v d m h n, h, Nat.add_mul]; omega
def bigV : V := textV ⟨(xs 65536).toArray⟩
theorem big_size : bigV.s.size = 65536 := xs_len 65536
theorem big_right : right bigV = true := by
  show (if (2 : Int) = 0 then _ else if (2 : Int) = 1 then _ else if (2 : Int) = 2 ∨ (2 : Int) = 3 then decide ((0 : Int) = 0 ∧ bigV.s.size ≤ 65536) else false) = true
  rw [big_size]; rfl
theorem big_good : good bigV := ⟨⟨by decide, by decide⟩, ⟨by decide, by decide⟩, by rw [big_size]; decide⟩
theorem null_good : good V0 := ⟨⟨by decide, by decide⟩, ⟨by decide, by decide⟩, by decide⟩
theorem null_right : right V0 = true := rfl
theorem rep_good {v : V} (h : good v) (n : Nat) : ∀ x ∈ List.replicate n v, good x := fun x hx => by rw [List.eq_of_mem_replicate hx]; exact h
theorem put201 : putR (List.replicate 201 V0) = ([], 3) := by
  have : rightRow (List.replicate 201 V0) = 3 := by unfold rightRow; rw [List.length_replicate]; rfl
  unfold putR; rw [this]; rfl
theorem put200 : (putR (List.replicate 200 V0)).2 = 0 := by
  have h1 : rightRow (List.replicate 200 V0) = 0 := row_rep null_right (by decide)
  have h2 := put_rep null_right (n := 200) (by decide) (show (B1.enc (sort V0)).length = 1 by rw [show sort V0 = 0 from rfl, B1.enc_lt (by decide)]; rfl) (show (body V0).length = 0 from rfl)
  have h3 := B1.enc_le_ten (m := 200) (by decide)
  unfold putR
  rw [h1, if_neg (fun h => h rfl), if_neg (by omega)]
theorem putBad : putR [⟨0, 1, ByteArray.mk #[]⟩] = ([], 2) := rfl
theorem bodyBig : (body bigV).length = 65536 := by
  show ([] ++ sb bigV.s).length = _
  rw [List.nil_append, sb_length, big_size]
theorem encBig : 1 ≤ (B1.enc (sort bigV)).length ∧ (B1.enc (sort bigV)).length ≤ 10 := ⟨B1.enc_length_pos _, B1.enc_le_ten (by show 2 * bigV.s.size + 11 < _; rw [big_size]; decide)⟩
theorem put16 : putR (List.replicate 16 bigV) = ([], 3) := by
  have h1 : rightRow (List.replicate 16 bigV) = 0 := row_rep big_right (by decide)
  have h2 := put_rep big_right (n := 16) (by decide) rfl bodyBig
  have h3 := encBig
  unfold putR
  rw [h1, if_neg (fun h => h rfl), if_pos (by omega)]
theorem put15 : (putR (List.replicate 15 bigV)).2 = 0 := by
  have h1 : rightRow (List.replicate 15 bigV) = 0 := row_rep big_right (by decide)
  have h2 := put_rep big_right (n := 15) (by decide) rfl bodyBig
  have h3 := encBig
  have h4 := B1.enc_le_ten (m := 15) (by decide)
  unfold putR
  rw [h1, if_neg (fun h => h rfl), if_neg (by omega)]
theorem key201 (ds : List Bool) : keyR (List.replicate 201 V0) ds = ([], 3) := by
  have : rightRow (List.replicate 201 V0) = 3 := by unfold rightRow; rw [List.length_replicate]; rfl
  unfold keyR; rw [this]; rfl
theorem key200 : (keyR (List.replicate 200 V0) (List.replicate 200 false)).2 = 0 := by
  have h1 : rightRow (List.replicate 200 V0) = 0 := row_rep null_right (by decide)
  have h2 := key_rep V0 false 1 rfl 200
  have h4 : ¬ (List.replicate 200 false).length ≠ (List.replicate 200 V0).length := by rw [List.length_replicate, List.length_replicate]; exact fun h => h rfl
  have h5 : ¬ 1048576 < (key (List.replicate 200 V0) (List.replicate 200 false)).length := by rw [h2]; decide
  unfold keyR
  rw [h1, if_neg (fun h => h rfl), if_neg h4, if_neg h5]
theorem keyLess : keyR (List.replicate 2 V0) (List.replicate 1 false) = ([], 2) := rfl
theorem key16 : keyR (List.replicate 16 bigV) (List.replicate 16 false) = ([], 3) := by
  have h1 : rightRow (List.replicate 16 bigV) = 0 := row_rep big_right (by decide)
  have h2 := key_rep bigV false (kpart bigV).length rfl 16
  have h3 : 65537 ≤ (kpart bigV).length := by
    have e : kpart bigV = 3 :: esc (sb bigV.s) ++ [0, 0] := rfl
    have h4 : ∀ l : List UInt8, l.length ≤ (esc l).length := by
      intro l
      induction l with
      | nil => simp
      | cons c r ih => unfold esc; split <;> simp <;> omega
    have h5 := h4 (sb bigV.s)
    rw [sb_length, big_size] at h5
    rw [e]; simp; omega
  have h4 : ¬ (List.replicate 16 false).length ≠ (List.replicate 16 bigV).length := by rw [List.length_replicate, List.length_replicate]; exact fun h => h rfl
  have h6 : 1048576 < (key (List.replicate 16 bigV) (List.replicate 16 false)).length := by
    rw [h2]
    exact Nat.lt_of_lt_of_le (by decide : 1048576 < 16 * 65537) (Nat.mul_le_mul_left 16 h3)
  unfold keyR
  rw [h1, if_neg (fun h => h rfl), if_neg h4, if_pos h6]
theorem keyBad : keyR [⟨4, 0, ByteArray.mk #[]⟩] (List.replicate 1 false) = ([], 2) := rfl
theorem unkey201 (b : List UInt8) : unkeyRR b (List.replicate 201 false) = ([], 10) := by
  unfold unkeyRR unkeyR
  rw [List.length_replicate]; rfl
theorem unkey0 : unkeyRR [] [] = ([], 0) := rfl
end Go.Proofs.Ytpaockbhbdeekaa
