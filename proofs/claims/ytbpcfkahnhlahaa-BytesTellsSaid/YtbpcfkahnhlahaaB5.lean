/- Layer 1 (bytes): the statements' own helpers. -/
import Derived.Test.YtbpcfkahnhlahaaB4
import Derived.Test.YtbpcfkahnhlahaaSxBlk
set_option linter.unusedVariables false
set_option linter.unusedSimpArgs false
namespace Go.Proofs.Ytbpcfkahnhlahaa
open Go Go.Sx
theorem brS {l l' : List UInt8} {A B : Prop} (h1 : l = l' → A) (h2 : l ≠ l' → B) : cond (ByteArray.toList ⟨l.toArray⟩ == ByteArray.toList ⟨l'.toArray⟩) A B := by rw [eq_str]; exact brd h1 h2
theorem brnS {l l' : List UInt8} {A B : Prop} (h1 : l ≠ l' → A) (h2 : l = l' → B) : cond (!(ByteArray.toList ⟨l.toArray⟩ == ByteArray.toList ⟨l'.toArray⟩)) A B := by rw [eq_str]; exact brn h1 h2

theorem getD_ext {α : Type} {la lb : List α} (d : α) (h : la.length = lb.length) (h2 : ∀ i, i < la.length → la.getD i d = lb.getD i d) : la = lb := by
  apply List.ext_getElem h
  intro i h3 h4
  have := h2 i h3
  simpa [List.getD, h3, h4] using this

theorem same_spec {w : World} {A B : Option Addr} {ca cb : Nat} {la lb : List (List UInt8)} (ha : Imm KBs NoB w A la) (hb : Imm KBs NoB w B lb) (hl : la.length ≤ 140737488355328) :
    CallsV Try.prog 19 #[.slice A la.length ca, .slice B lb.length cb] w fun v w' => v = .bool (decide (la = lb)) ∧ Ext w w' := by
  refine cardindexlaw01_same.calls okay ?_
  unfold cardindexlaw01_same.W
  refine brn (fun h => ?_) (fun h => ?_)
  · exact ⟨by rw [decide_eq_false]; rintro rfl; exact h rfl, .refl _ _⟩
  refine ⟨fun x w1 => ∃ j : Nat, j ≤ la.length ∧ x = (j : Int) ∧ (∀ i, i < j → la.getD i [] = lb.getD i []) ∧ Ext w w1, fun x _ => (la.length - x).toNat, ⟨0, by omega, rfl, fun i h => by omega, .refl _ _⟩, ?_⟩
  rintro _ w1 ⟨j, hj, rfl, hsame, he⟩
  refine brd (fun hlt => ?_) (fun hlt => ?_)
  · obtain ⟨ad, hA, X, cx, hcx, hx, hcell⟩ := itemI ha (x := (j : Int)) (by omega) (by omega)
    obtain ⟨ad', hB, Y, cy, hcy, hy, hcell'⟩ := itemI hb (x := (j : Int)) (by omega) (by omega)
    refine ⟨fun u => Ext w u, he.drew, ad, hA, ⟨by omega, by omega⟩, _, _, _, hcell, _, to_str_all bt hx _, ad', hB, ⟨by omega, by omega⟩, _, _, _, hcell', _, to_str_all bt hy _, ?_⟩
    rw [Int.toNat_natCast]
    refine brnS (fun hne => ?_) (fun heq => ?_)
    · exact ⟨by rw [decide_eq_false]; rintro rfl; exact hne rfl, he.drew⟩
    · rw [wi _ (by omega) (by omega)]
      exact ⟨⟨j + 1, by omega, rfl, fun i hi => if hij : i = j then by subst hij; exact heq else hsame i (by omega), he.drew⟩, by dsimp only; omega⟩
  · obtain rfl : j = la.length := by omega
    exact ⟨by rw [decide_eq_true]; exact getD_ext [] (by omega) hsame, he⟩

/-- the answer of bad -/
def badV (l : List UInt8) (at_ : Int) : Int := if (B1.getU l at_).1 ≠ 0 ∨ (B1.getU l at_).2.1 ≠ 0 then -1 else (B1.getU l at_).2.2
theorem bad_spec (w : World) (b : ByteArray) (at_ : Int) (hb : b.size ≤ 1000000000) :
    CallsV Try.prog 11 #[.string b, .int .i64 at_] w fun v w' => v = .int .i64 (badV (sb b) at_) ∧ Ext w w' := by
  refine cardindexlaw01_bad.calls okay ?_
  unfold cardindexlaw01_bad.W
  obtain ⟨A, c, w1, hr, ho, he, _, _⟩ := to_bytes bt w b (by simp [maxLen]; omega)
  refine ⟨_, _, _, _, hr, ?_⟩
  refine (GetUint_spec ho.imm0 (by rw [sb_length]; omega) at_).mono ?_
  rintro v w2 ⟨rfl, he2⟩
  refine ⟨_, _, _, rfl, ?_⟩
  unfold badV
  generalize B1.getU (sb b) at_ = r
  refine brn (fun h => ?_) (fun h => ?_)
  · exact ⟨by rw [if_pos (.inl (by omega))], he.trans' he2⟩
  refine brn (fun h2 => ?_) (fun h2 => ?_)
  · exact ⟨by rw [if_pos (.inr h2)], he.trans' he2⟩
  · exact ⟨by rw [if_neg (by omega)], he.trans' he2⟩

/-- a card: a number, its digits -/
def KC : Kd (Nat × ByteArray) := ⟨2, fun _ _ a cs => cs = [.int .u64 (a.1 : Int), .string a.2], fun h => by simp [h], fun h _ => h⟩
theorem KC_pos : 0 < KC.size := by decide
theorem fits_spec {w : World} {A : Option Addr} {c : Nat} {l : List (Nat × ByteArray)} (h : Imm KC NoB w A l) (hl : l.length ≤ 1000000000) (hall : ∀ x ∈ l, x.1 < 18446744073709551616 ∧ sb x.2 = B1.enc x.1) :
    CallsV Try.prog 10 #[.slice A l.length c] w fun v w' => v = .bool true ∧ Ext w w' := by
  refine cardindexlaw01_fits.calls okay ?_
  unfold cardindexlaw01_fits.W
  refine ⟨fun x w1 => ∃ j : Nat, j ≤ l.length ∧ x = (j : Int) ∧ Ext w w1, fun x _ => (l.length - x).toNat, ⟨0, by omega, rfl, .refl _ _⟩, ?_⟩
  rintro _ w1 ⟨j, hj, rfl, he⟩
  refine brd (fun hlt => ?_) (fun hlt => ⟨rfl, he⟩)
  have hjl : j < l.length := by omega
  obtain ⟨ad, hA, cs, hrep, hc⟩ := (h.ext KC_pos he).get1 hjl
  obtain ⟨hn, hs⟩ := hall l[j] (List.getElem_mem _)
  generalize l[j] = x at *
  obtain ⟨n, s⟩ := x
  dsimp only at hn hs
  cases hrep
  have hsz : s.size ≤ 10 := by rw [← sb_length, hs]; exact B1.enc_le_ten hn
  have hs0 : 0 < s.size := by rw [← sb_length, hs]; exact B1.enc_length_pos n
  refine ⟨ad, hA, ⟨by omega, by omega⟩, _, by rw [Int.toNat_natCast]; exact hc 0 _ rfl, _, by rw [Int.toNat_natCast, add_add]; exact hc 1 _ rfl, ?_⟩
  have b0 : Blk (w1.alloc (.cells #[.int .u64 0, .string (ByteArray.mk #[])] 25)) w1.heap.size [.int .u64 0, .string (ByteArray.mk #[])] := Blk.alloc _ _ _
  have e0 : Ext w (w1.alloc (.cells #[.int .u64 0, .string (ByteArray.mk #[])] 25)) := he.alloc _
  generalize w1.alloc (.cells #[.int .u64 0, .string (ByteArray.mk #[])] 25) = u0 at *
  have hgs : w.heap.size ≤ w1.heap.size := he.size
  generalize w1.heap.size = g at *
  refine ⟨⟨by rw [b0.cell (v := .int .u64 0) rfl]; rfl, b0.unfrozen 0 0⟩, ?_⟩
  have b1 := b0.set 0 0 (.int .u64 n)
  have e1 := e0.setNewAdd (o := 0) (i := 0) hgs (.int .u64 n)
  generalize u0.setCell ((⟨g, 0, none⟩ : Addr).add 0) (.int .u64 n) = u1 at *
  refine ⟨⟨by rw [b1.cell (v := .string (ByteArray.mk #[])) rfl]; rfl, b1.unfrozen 0 1⟩, ?_⟩
  have b2 := b1.set 0 (0 + 1) (.string s)
  have e2 := e1.setNewAdd (o := 0) (i := 0 + 1) hgs (.string s)
  generalize u1.setCell ((⟨g, 0, none⟩ : Addr).add (0 + 1)) (.string s) = u2 at *
  refine ⟨s, b2.cell rfl, ?_⟩
  obtain ⟨X, cx, w3, hr3, ho3, he3, _, _⟩ := to_bytes bt u2 s (by simp [maxLen]; omega)
  refine ⟨_, _, _, _, hr3, ?_⟩
  refine (GetUint_spec ho3.imm0 (by rw [sb_length]; omega) 0).mono ?_
  rintro v w4 ⟨rfl, he4⟩
  rw [hs, B1.getU_enc0 n hn]
  refine ⟨_, _, _, rfl, ?_⟩
  have b4 := (b2.ext he3).ext he4
  refine ⟨s, b4.cell rfl, ?_⟩
  obtain ⟨Y, cy, w5, hr5, ho5, he5, _, _⟩ := to_bytes bt w4 s (by simp [maxLen]; omega)
  refine ⟨_, _, _, _, hr5, ?_⟩
  have b5 := b4.ext he5
  refine ⟨s, b5.cell rfl, ?_⟩
  have hle := ho5.le
  rw [sb_length] at hle
  rw [wi _ (by omega) (by omega)]
  refine ⟨⟨by omega, by omega⟩, ?_⟩
  have hcut := ho5.imm0.cut (lo := 0) (hi := s.size - 1) (m := cy) (by omega)
  rw [List.drop_zero, hs] at hcut
  have hlen : ((s.size : Int) - 1).toNat - 0 = ((B1.enc n).take (s.size - 1)).length := by
    rw [List.length_take, ← hs, sb_length]; omega
  rw [hlen]
  refine (GetUint_spec hcut (by rw [← hlen]; omega) 0).mono ?_
  rintro v w6 ⟨rfl, he6⟩
  rw [B1.getU_cut n (s.size - 1) hn (by rw [← hs, sb_length]; omega)]
  refine ⟨_, _, _, rfl, ?_⟩
  have b6 := b5.ext he6
  refine ⟨fun u => Ext w6 u, Ext.drew (.refl _ _), _, fun u hu => (b6.ext hu).cell rfl, _, fun u hu => (b6.ext hu).cell rfl, ?_⟩
  refine (Uint_spec (OwnB.nil _) n (by omega) (by simp)).mono ?_
  rintro v w7 ⟨Z, cz, rfl, ho7, hg7, _⟩
  refine ⟨_, _, _, rfl, ?_⟩
  have he7 : Ext w6 w7 := (hg7.ext (.refl _ _) (New.none _)).drew0
  refine ⟨fun u => Ext w7 u, fun u hu => he7.trans' hu, .refl _ _, _, to_str_all bt ho7.imm0 _, ?_⟩
  have hss : s = ⟨(sb s).toArray⟩ := by simp [sb]
  have eall : Ext w w7 := ((((e2.trans' he3).trans' he4).trans' he5).trans' he6).trans' he7
  rw [List.nil_append, ← hs, ← hss]
  refine br (fun h => by simp at h) (fun _ => ?_)
  refine ⟨_, fun u hu => (b6.ext (he7.trans' hu)).cell rfl, ?_⟩
  refine brn (fun h => absurd rfl h) (fun _ => ?_)
  refine ⟨_, fun u hu => (b6.ext (he7.trans' hu)).cell rfl, ?_⟩
  refine brn (fun h => absurd (by rw [sb_length]) h) (fun _ => ?_)
  refine brn (fun h => absurd rfl h) (fun _ => ?_)
  refine brn (fun h => absurd rfl h) (fun _ => ?_)
  rw [wi _ (by omega) (by omega)]
  exact ⟨⟨j + 1, by omega, rfl, eall⟩, by dsimp only; omega⟩
end Go.Proofs.Ytbpcfkahnhlahaa
