/- Layer 7, plain: rows and keys of many alike values. -/
import Derived.Test.YtakmlaliglmnmaaRep
import Derived.Test.YtakmlaliglmnmaaS10
set_option linter.unusedVariables false
set_option linter.unusedSimpArgs false
namespace Go.Proofs.Ytakmlaliglmnmaa
open Go Go.Sx R1 S1
/-- rows of alike values -/
theorem flat_rep {β : Type} (f : V → List β) (v : V) (m : Nat) (h : (f v).length = m) : ∀ n, ((List.replicate n v).flatMap f).length = n * m
  | 0 => by simp
  | n + 1 => by rw [List.replicate_succ, List.flatMap_cons, List.length_append, flat_rep f v m h n, h, Nat.add_mul]; omega
theorem all_rep {v : V} (h : right v = true) : ∀ n, (List.replicate n v).all right = true
  | 0 => rfl
  | n + 1 => by rw [List.replicate_succ, List.all_cons, h, all_rep h n]; rfl
theorem row_rep {v : V} (h : right v = true) {n : Nat} (hn : n ≤ 200) : rightRow (List.replicate n v) = 0 := by
  unfold rightRow
  rw [List.length_replicate, if_neg (by omega), all_rep h, if_pos rfl]
theorem put_rep {v : V} (h : right v = true) {n a c : Nat} (hn : n ≤ 200) (ha : (B1.enc (sort v)).length = a) (hc : (body v).length = c) : (putL (List.replicate n v)).length = (B1.enc n).length + n * a + n * c := by
  unfold putL
  rw [List.length_append, List.length_append, List.length_replicate, flat_rep (fun v => B1.enc (sort v)) v a ha, flat_rep body v c hc]
theorem key_rep (v : V) (d : Bool) (m : Nat) (h : (kpart v).length = m) : ∀ n, (key (List.replicate n v) (List.replicate n d)).length = n * m
  | 0 => by simp [key]
  | n + 1 => by
    rw [List.replicate_succ, List.replicate_succ, key, List.length_append, tn_length, key_rep v d m h n, h, Nat.add_mul]; omega
def bigV : V := textV ⟨(xs 65536).toArray⟩
theorem big_size : bigV.s.size = 65536 := xs_len 65536
theorem big_right : right bigV = true := by
  show (if (2 : Int) = 0 then _ else if (2 : Int) = 1 then _ else if (2 : Int) = 2 ∨ (2 : Int) = 3 then decide ((0 : Int) = 0 ∧ bigV.s.size ≤ 65536) else false) = true
  rw [big_size]; rfl
theorem big_good : good bigV := ⟨⟨by decide, by decide⟩, ⟨by decide, by decide⟩, by rw [big_size]; decide⟩
theorem null_good : good V0 := ⟨⟨by decide, by decide⟩, ⟨by decide, by decide⟩, by decide⟩
theorem null_right : right V0 = true := rfl
theorem rep_good {v : V} (h : good v) (n : Nat) : ∀ x ∈ List.replicate n v, good x := fun x hx => by rw [List.eq_of_mem_replicate hx]; exact h
theorem put201 : putR (List.replicate 201 V0) = ([], 3) := by
  have : rightRow (List.replicate 201 V0) = 3 := by unfold rightRow; rw [List.length_replicate]; rfl
  unfold putR; rw [this]; rfl
theorem put200 : (putR (List.replicate 200 V0)).2 = 0 := by
  have h1 : rightRow (List.replicate 200 V0) = 0 := row_rep null_right (by decide)
  have h2 := put_rep null_right (n := 200) (by decide) (show (B1.enc (sort V0)).length = 1 by rw [show sort V0 = 0 from rfl, B1.enc_lt (by decide)]; rfl) (show (body V0).length = 0 from rfl)
  have h3 := B1.enc_le_ten (m := 200) (by decide)
  unfold putR
  rw [h1, if_neg (fun h => h rfl), if_neg (by omega)]
theorem putBad : putR [⟨0, 1, ByteArray.mk #[]⟩] = ([], 2) := rfl
theorem bodyBig : (body bigV).length = 65536 := by
  show ([] ++ sb bigV.s).length = _
  rw [List.nil_append, sb_length, big_size]
theorem encBig : 1 ≤ (B1.enc (sort bigV)).length ∧ (B1.enc (sort bigV)).length ≤ 10 := ⟨B1.enc_length_pos _, B1.enc_le_ten (by show 2 * bigV.s.size + 11 < _; rw [big_size]; decide)⟩
theorem put16 : putR (List.replicate 16 bigV) = ([], 3) := by
  have h1 : rightRow (List.replicate 16 bigV) = 0 := row_rep big_right (by decide)
  have h2 := put_rep big_right (n := 16) (by decide) rfl bodyBig
  have h3 := encBig
  unfold putR
  rw [h1, if_neg (fun h => h rfl), if_pos (by omega)]
theorem key201 (ds : List Bool) : keyR (List.replicate 201 V0) ds = ([], 3) := by
  have : rightRow (List.replicate 201 V0) = 3 := by unfold rightRow; rw [List.length_replicate]; rfl
  unfold keyR; rw [this]; rfl
theorem key200 : (keyR (List.replicate 200 V0) (List.replicate 200 false)).2 = 0 := by
  have h1 : rightRow (List.replicate 200 V0) = 0 := row_rep null_right (by decide)
  have h2 := key_rep V0 false 1 rfl 200
  have h4 : ¬ (List.replicate 200 false).length ≠ (List.replicate 200 V0).length := by rw [List.length_replicate, List.length_replicate]; exact fun h => h rfl
  have h5 : ¬ 1048576 < (key (List.replicate 200 V0) (List.replicate 200 false)).length := by rw [h2]; decide
  unfold keyR
  rw [h1, if_neg (fun h => h rfl), if_neg h4, if_neg h5]

/-- as many rows as may be, all alike -/
def blank : S1.One := ⟨[], []⟩
theorem blank_cls (n : Nat) : inOrder (List.replicate n blank) = List.replicate n blank := by
  refine (inOrder_unique ?_ fun k => rfl).symm
  refine List.pairwise_of_forall_mem_list fun a ha b hb => ?_
  rw [List.eq_of_mem_replicate ha, List.eq_of_mem_replicate hb]
  unfold le
  rw [cmp_self]; decide
theorem once'_blank : ∀ n, once' [] (List.replicate n blank) = []
  | 0 => rfl
  | n + 1 => by rw [List.replicate_succ, once', if_pos (show blank.k = [] from rfl), once'_blank n]
theorem once_blank (n : Nat) : once (List.replicate (n + 1) blank) = [blank] := by
  rw [List.replicate_succ, once]
  show blank :: once' [] _ = _
  rw [once'_blank]
def fullS (n : Nat) : St := ⟨[], true, List.replicate n blank, false, 0⟩
theorem full_addE (n : Nat) : addE (fullS n) [] [] = if 65536 ≤ n then 5 else 0 := by
  have h1 : (keyR [] (fullS n).desc).2 = 0 := rfl
  have h2 : (putR []).2 = 0 := by
    have h3 : (putL []).length = 1 := by
      show (B1.enc 0 ++ [] ++ []).length = 1
      rw [B1.enc_lt (by decide)]; rfl
    have h4 : rightRow [] = 0 := rfl
    unfold putR
    rw [h4, if_neg (fun h => h rfl), if_neg (by rw [h3]; decide)]
  have h0 : ¬ (fullS n).sorted = true := fun h => by cases h
  unfold addE
  rw [if_neg h0, if_neg (by rw [h1]; decide), if_neg (by rw [h2]; decide)]
  show (if 65536 ≤ (List.replicate n blank).length then (5 : Int) else 0) = _
  rw [List.length_replicate]
theorem full_addS (n : Nat) (h : n < 65536) : addS (fullS n) [] [] = fullS (n + 1) := by
  have hE : addE (fullS n) [] [] = 0 := by rw [full_addE, if_neg (by omega)]
  rw [addS, if_pos hE]
  show (⟨[], true, List.replicate n blank ++ [blank], false, 0⟩ : St) = ⟨[], true, List.replicate (n + 1) blank, false, 0⟩
  rw [List.replicate_succ']
theorem full_addS5 : addS (fullS 65536) [] [] = fullS 65536 := by
  rw [addS, full_addE, if_neg (by decide)]
theorem full_sort' (n : Nat) : (sortS (fullS (n + 1))).l.length = 1 := by
  show (once (inOrder (List.replicate (n + 1) blank))).length = 1
  rw [blank_cls, once_blank]; rfl
theorem full_sort : (sortS (fullS 65536)).l.length = 1 := full_sort' 65535
/-- the sorter of the examples -/
def sS : St := ⟨[false], false, [], false, 0⟩
def wS : St := ⟨List.replicate 200 false, false, [], false, 0⟩
def inV : V := textV (ByteArray.mk #[105, 110])
def outV : V := textV (ByteArray.mk #[111, 117, 116])
def k1 : List V := [numV 1]
def sI : St := ⟨[false], false, [⟨(keyR k1 [false]).1, [inV]⟩], false, 0⟩
theorem add1 : addE sS [] k1 = 2 := by kernel_rfl
theorem add2 : addE sS [⟨9, 0, ByteArray.mk #[]⟩] k1 = 2 := by kernel_rfl
theorem add3 : addE sS k1 [⟨0, 1, ByteArray.mk #[]⟩] = 2 := by kernel_rfl
theorem add4 : addE sS k1 (List.replicate 201 V0) = 3 := by
  have h1 : (keyR k1 sS.desc).2 = 0 := by kernel_rfl
  unfold addE
  rw [if_neg (by decide), if_neg (by rw [h1]; decide), put201, if_pos (by decide)]
theorem add5 : addE sS (List.replicate 201 V0) k1 = 3 := by
  unfold addE
  rw [if_neg (by decide), key201, if_pos (by decide)]
theorem addW : addE wS (List.replicate 200 V0) (List.replicate 200 V0) = 0 := by
  unfold addE
  rw [if_neg (by decide), if_neg (by rw [show keyR (List.replicate 200 V0) wS.desc = keyR (List.replicate 200 V0) (List.replicate 200 false) from rfl, key200]; decide), if_neg (by rw [put200]; decide)]
  rfl
theorem addL : addE sS k1 (List.replicate 16 bigV) = 3 := by
  have h1 : (keyR k1 sS.desc).2 = 0 := by kernel_rfl
  unfold addE
  rw [if_neg (by decide), if_neg (by rw [h1]; decide), put16, if_pos (by decide)]
theorem addI : addE sS k1 [inV] = 0 := by kernel_rfl
theorem addI' : addS sS k1 [inV] = sI := by rw [addS, if_pos addI]; rfl
theorem stay {st : St} {k r : List V} {x : Int} (h : addE st k r = x) (hx : x ≠ 0) : addS st k r = st := by rw [addS, if_neg (by rw [h]; exact hx)]
theorem sortI : sortS sI = { sI with sorted := true } := by kernel_rfl
end Go.Proofs.Ytakmlaliglmnmaa
