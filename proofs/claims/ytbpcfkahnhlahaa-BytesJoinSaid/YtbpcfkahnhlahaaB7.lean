/- Layer 1 (bytes), plain: what is written is read, whole or cut off. -/
import Derived.Test.YtbpcfkahnhlahaaB6
set_option linter.unusedVariables false
set_option linter.unusedSimpArgs false
namespace Go.Proofs.Ytbpcfkahnhlahaa
theorem getU_drop (l : List UInt8) (p : Nat) (hp : p ≤ l.length) : B1.getU l (p : Int) = (B1.dec 0 (l.drop p)).at p := by
  rw [B1.getU, if_neg (by omega), Int.toNat_natCast]
theorem encB_length (b : List UInt8) : (encB b).length = (B1.enc b.length).length + b.length := by simp [encB]
theorem getB_def (l : List UInt8) (at_ most : Int) : getB l at_ most = (let r := B1.getU l at_; if r.2.2 ≠ 0 then ([], 0, r.2.2) else if most < 0 ∨ most < (r.1 : Int) then ([], 0, 3) else if l.length - r.2.1.toNat < r.1 then ([], 0, 11)
    else ((l.drop r.2.1.toNat).take r.1, r.2.1 + r.1, 0)) := rfl
theorem getB_full {l b r : List UInt8} {p : Nat} (most : Int) (h : l.drop p = encB b ++ r) (hp : p ≤ l.length) (hb : b.length < 18446744073709551616) :
    getB l p most = if most < 0 ∨ most < (b.length : Int) then ([], 0, 3) else (b, ((p + (encB b).length : Nat) : Int), 0) := by
  have hlen : l.length = p + (encB b).length + r.length := by
    have := congrArg List.length h
    rw [List.length_drop, List.length_append] at this; omega
  have hu : B1.getU l p = (b.length, ((p + (B1.enc b.length).length : Nat) : Int), 0) := by
    rw [getU_drop l p hp, h, encB, List.append_assoc, B1.dec_enc _ 0 _ (by omega) (B1.lim64 hb) (by omega)]
    rfl
  rw [getB_def, hu]
  dsimp only
  rw [if_neg (by simp), Int.toNat_natCast]
  have hel := encB_length b
  by_cases hm : most < 0 ∨ most < (b.length : Int)
  · rw [if_pos hm, if_pos hm]
  · rw [if_neg hm, if_neg hm, if_neg (by omega), ← List.drop_drop, h, encB, List.append_assoc, List.drop_left, List.take_left]
    simp [encB]
    omega
theorem getB_cut {l b : List UInt8} {p j : Nat} (most : Int) (h : l.drop p = (encB b).take j) (hj : j < (encB b).length) (hp : p ≤ l.length) (hb : (b.length : Int) ≤ most) (hb2 : b.length < 18446744073709551616) :
    getB l p most = ([], 0, 11) := by
  have hel := encB_length b
  have hlen : l.length = p + j := by
    have := congrArg List.length h
    rw [List.length_drop, List.length_take] at this; omega
  rw [getB_def]
  rcases Nat.lt_or_ge j (B1.enc b.length).length with hlt | hge
  · have hu : B1.getU l p = (0, 0, 11) := by
      rw [getU_drop l p hp, h, encB, List.take_append_of_le_length (by omega), B1.dec_enc_cut _ 0 j (by omega) (B1.lim64 hb2) hlt]
      rfl
    rw [hu]; rfl
  · have hu : B1.getU l p = (b.length, ((p + (B1.enc b.length).length : Nat) : Int), 0) := by
      rw [getU_drop l p hp, h, encB, List.take_append, List.take_of_length_le hge, B1.dec_enc _ 0 _ (by omega) (B1.lim64 hb2) (by omega)]
      rfl
    rw [hu]
    dsimp only
    rw [if_neg (by simp), if_neg (by omega), Int.toNat_natCast, if_pos (by omega)]
theorem getsF_all {l r : List UInt8} (most : Int) : ∀ (bs acc : List (List UInt8)) (p : Nat), l.drop p = bs.flatMap encB ++ r → p ≤ l.length → (∀ b ∈ bs, b.length < 18446744073709551616) →
    getsF l most bs.length acc p = if (∀ b ∈ bs, ¬ (most < 0 ∨ most < (b.length : Int))) then (acc ++ bs, ((p + (bs.flatMap encB).length : Nat) : Int), 0) else ([], 0, 3)
  | [], acc, p, h, hp, hb => by simp [getsF]
  | b :: bs, acc, p, h, hp, hb => by
    have h' : l.drop p = encB b ++ (bs.flatMap encB ++ r) := by rw [h]; simp
    have hlen : l.length = p + (encB b).length + (bs.flatMap encB ++ r).length := by
      have := congrArg List.length h'
      rw [List.length_drop, List.length_append] at this; omega
    have hd : l.drop (p + (encB b).length) = bs.flatMap encB ++ r := by rw [← List.drop_drop, h', List.drop_left]
    rw [List.length_cons, getsF, getB_full most h' hp (hb b (by simp))]
    by_cases hm : most < 0 ∨ most < (b.length : Int)
    · rw [if_pos hm, if_neg (by decide), if_neg (fun hall => hall b (by simp) hm)]
    · rw [if_neg hm, if_pos rfl]
      rw [getsF_all most bs (acc ++ [b]) _ hd (by omega) (fun x hx => hb x (by simp [hx]))]
      by_cases hall : ∀ x ∈ bs, ¬ (most < 0 ∨ most < (x.length : Int))
      · rw [if_pos hall, if_pos (fun x hx => by
          rcases List.mem_cons.1 hx with rfl | hx
          · exact hm
          · exact hall x hx)]
        simp [Nat.add_assoc]
      · rw [if_neg hall, if_neg (fun h2 => hall fun x hx => h2 x (by simp [hx]))]
theorem getsF_cut {l : List UInt8} (most : Int) : ∀ (bs acc : List (List UInt8)) (p j : Nat), l.drop p = (bs.flatMap encB).take j → j < (bs.flatMap encB).length → p ≤ l.length → (∀ b ∈ bs, (b.length : Int) ≤ most ∧ b.length < 18446744073709551616) →
    getsF l most bs.length acc p = ([], 0, 11)
  | [], acc, p, j, h, hj, hp, hb => by simp at hj
  | b :: bs, acc, p, j, h, hj, hp, hb => by
    rw [List.flatMap_cons] at h hj
    rw [List.length_append] at hj
    have hb1 := hb b (by simp)
    rw [List.length_cons, getsF]
    rcases Nat.lt_or_ge j (encB b).length with hlt | hge
    · rw [getB_cut most (by rw [h, List.take_append_of_le_length (by omega)]) hlt hp hb1.1 hb1.2, if_neg (by decide)]
    · have h' : l.drop p = encB b ++ (bs.flatMap encB).take (j - (encB b).length) := by rw [h, List.take_append, List.take_of_length_le hge]
      have hlen : l.length = p + (encB b).length + ((bs.flatMap encB).take (j - (encB b).length)).length := by
        have := congrArg List.length h'
        rw [List.length_drop, List.length_append] at this; omega
      rw [getB_full most h' hp hb1.2, if_neg (show ¬ (most < 0 ∨ most < (b.length : Int)) by omega), if_pos rfl]
      exact getsF_cut most bs _ _ (j - (encB b).length) (by rw [← List.drop_drop, h', List.drop_left]) (by omega) (by omega) (fun x hx => hb x (by simp [hx]))
theorem getBs_def (l : List UInt8) (at_ many most : Int) : getBs l at_ many most = (let r := B1.getU l at_; if r.2.2 ≠ 0 then ([], 0, r.2.2) else if many < 0 ∨ many < (r.1 : Int) then ([], 0, 3) else getsF l most r.1 [] r.2.1) := rfl
/-- a list that is there whole -/
theorem getBs_full {l r : List UInt8} {bs : List (List UInt8)} {p : Nat} (many most : Int) (h : l.drop p = encBs bs ++ r) (hp : p ≤ l.length) (hn : bs.length < 18446744073709551616) (hb : ∀ b ∈ bs, b.length < 18446744073709551616) :
    getBs l p many most = if many < 0 ∨ many < (bs.length : Int) then ([], 0, 3) else if (∀ b ∈ bs, ¬ (most < 0 ∨ most < (b.length : Int))) then (bs, ((p + (encBs bs).length : Nat) : Int), 0) else ([], 0, 3) := by
  have h' : l.drop p = B1.enc bs.length ++ (bs.flatMap encB ++ r) := by rw [h, encBs, List.append_assoc]
  have hlen : l.length = p + (B1.enc bs.length).length + (bs.flatMap encB ++ r).length := by
    have := congrArg List.length h'
    rw [List.length_drop, List.length_append] at this; omega
  have hu : B1.getU l p = (bs.length, ((p + (B1.enc bs.length).length : Nat) : Int), 0) := by
    rw [getU_drop l p hp, h', B1.dec_enc _ 0 _ (by omega) (B1.lim64 hn) (by omega)]
    rfl
  rw [getBs_def, hu]
  dsimp only
  rw [if_neg (by simp)]
  by_cases hm : many < 0 ∨ many < (bs.length : Int)
  · rw [if_pos hm, if_pos hm]
  · rw [if_neg hm, if_neg hm, getsF_all most bs [] _ (by rw [← List.drop_drop, h', List.drop_left]) (by omega) hb]
    simp [encBs, Nat.add_assoc]
/-- a list that is cut off -/
theorem getBs_cut {bs : List (List UInt8)} {j : Nat} (many most : Int) (hj : j < (encBs bs).length) (hn : bs.length < 18446744073709551616) (hmany : (bs.length : Int) ≤ many) (hb : ∀ b ∈ bs, (b.length : Int) ≤ most ∧ b.length < 18446744073709551616) :
    getBs ((encBs bs).take j) 0 many most = ([], 0, 11) := by
  have hl : ((encBs bs).take j).length = j := by rw [List.length_take]; omega
  have hel : (encBs bs).length = (B1.enc bs.length).length + (bs.flatMap encB).length := by simp [encBs]
  rw [getBs_def]
  rcases Nat.lt_or_ge j (B1.enc bs.length).length with hlt | hge
  · have hu : B1.getU ((encBs bs).take j) 0 = (0, 0, 11) := by
      rw [encBs, List.take_append_of_le_length (by omega)]
      exact B1.getU_cut _ j hn hlt
    rw [hu]; rfl
  · have hs : (encBs bs).take j = B1.enc bs.length ++ (bs.flatMap encB).take (j - (B1.enc bs.length).length) := by rw [encBs, List.take_append, List.take_of_length_le hge]
    have hu : B1.getU ((encBs bs).take j) 0 = (bs.length, (((B1.enc bs.length).length : Nat) : Int), 0) := by
      have := B1.getU_enc [] bs.length ((bs.flatMap encB).take (j - (B1.enc bs.length).length)) hn
      rw [hs]; simpa using this
    rw [hu]
    dsimp only
    rw [if_neg (by simp), if_neg (by omega)]
    exact getsF_cut most bs [] _ (j - (B1.enc bs.length).length) (by rw [hs, List.drop_left]) (by omega) (by omega) hb
/-- a list whose number alone is there, at least, and more than many -/
theorem getBs_long {bs : List (List UInt8)} {j : Nat} (many most : Int) (hj : (B1.enc bs.length).length ≤ j) (hn : bs.length < 18446744073709551616) (hmany : many < (bs.length : Int)) :
    getBs ((encBs bs).take j) 0 many most = ([], 0, 3) := by
  have hs : (encBs bs).take j = B1.enc bs.length ++ (bs.flatMap encB).take (j - (B1.enc bs.length).length) := by rw [encBs, List.take_append, List.take_of_length_le hj]
  have hu : B1.getU ((encBs bs).take j) 0 = (bs.length, (((B1.enc bs.length).length : Nat) : Int), 0) := by
    have := B1.getU_enc [] bs.length ((bs.flatMap encB).take (j - (B1.enc bs.length).length)) hn
    rw [hs]; simpa using this
  rw [getBs_def, hu]
  dsimp only
  rw [if_neg (by simp), if_pos (.inr hmany)]
end Go.Proofs.Ytbpcfkahnhlahaa
