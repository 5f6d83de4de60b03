/- Layer 1 (bytes): strings and lists of strings, read. -/
import Derived.Test.YtbpcfkahnhlahaaB3
import Derived.Test.YtbpcfkahnhlahaaSxList
set_option linter.unusedVariables false
set_option linter.unusedSimpArgs false
namespace Go.Proofs.Ytbpcfkahnhlahaa
open Go Go.Sx
theorem getU_ok {l : List UInt8} {at_ : Int} (h : (B1.getU l at_).2.2 = 0) : ∃ p : Nat, (B1.getU l at_).2.1 = (p : Int) ∧ p ≤ l.length ∧ (B1.getU l at_).1 < 18446744073709551616 ∧ 0 ≤ at_ ∧ at_ < p := by
  unfold B1.getU at h ⊢
  by_cases hc : at_ < 0 ∨ (l.length : Int) < at_
  · rw [if_pos hc] at h; cases h
  rw [if_neg hc] at h ⊢
  rw [B1.dec_eq] at h ⊢
  have hbig := B1.vt_lt_u64 (l := l.drop at_.toNat)
  generalize B1.scan 0 (l.drop at_.toNat) = s at *
  have hm : (l.drop at_.toNat).length = l.length - at_.toNat := by simp
  by_cases h1 : s < (l.drop at_.toNat).length
  · rw [if_pos h1] at h ⊢
    split at h
    · cases h
    · rename_i h2
      rw [if_neg h2]
      refine ⟨at_.toNat + (s + 1), ?_, by omega, hbig h1 (fun h3 => h2 (.inr ⟨by omega, h3.2⟩)), by omega, by omega⟩
      show at_ + ((s + 1 : Nat) : Int) = _
      omega
  · rw [if_neg h1] at h; cases h

/-- GetBlob -/
def getB (l : List UInt8) (at_ most : Int) : List UInt8 × Int × Int :=
  let r := B1.getU l at_
  if r.2.2 ≠ 0 then ([], 0, r.2.2) else if most < 0 ∨ most < (r.1 : Int) then ([], 0, 3) else if l.length - r.2.1.toNat < r.1 then ([], 0, 11)
  else ((l.drop r.2.1.toNat).take r.1, r.2.1 + r.1, 0)
theorem GetBlob_spec {Ω : Nat → Prop} {w : World} {A : Option Addr} {c : Nat} {l : List UInt8} (h : Imm KB Ω w A l) (hl : l.length ≤ 140737488355328) (hlc : l.length ≤ c) (at_ most : Int) (hm : most < 9223372036854775808) :
    CallsV Try.prog 12 #[.slice A l.length c, .int .i64 at_, .int .i64 most] w fun v w' => ∃ A' c',
      v = .tuple #[.slice A' (getB l at_ most).1.length c', .int .i64 (getB l at_ most).2.1, .int .i64 (getB l at_ most).2.2] ∧ OwnB w' A' c' (getB l at_ most).1 ∧ Ext w w' ∧ New w A' := by
  refine bytes_GetBlob.calls okay ?_
  unfold bytes_GetBlob.W
  refine (GetUint_spec h hl at_).mono ?_
  rintro v w1 ⟨rfl, he⟩
  refine ⟨_, _, _, rfl, ?_⟩
  have hok := getU_ok (l := l) (at_ := at_)
  have hgb : getB l at_ most = (let r := B1.getU l at_; if r.2.2 ≠ 0 then ([], 0, r.2.2) else if most < 0 ∨ most < (r.1 : Int) then ([], 0, 3) else if l.length - r.2.1.toNat < r.1 then ([], 0, 11)
  else ((l.drop r.2.1.toNat).take r.1, r.2.1 + r.1, 0)) := rfl
  generalize getB l at_ most = g at *
  generalize B1.getU l at_ = r at *
  obtain ⟨n, p, e⟩ := r
  dsimp only at hgb hok ⊢
  have bail : ∀ x : Int, g = ([], 0, x) → ∃ A' c', Value.tuple #[.slice none 0 0, .int .i64 0, .int .i64 x] = .tuple #[.slice A' g.1.length c', .int .i64 g.2.1, .int .i64 g.2.2] ∧ OwnB w1 A' c' g.1 ∧ Ext w w1 ∧ New w A' := by
    rintro x rfl
    exact ⟨none, 0, rfl, OwnB.nil _, he, New.none _⟩
  refine brn (fun h0 => bail _ (by rw [hgb, if_pos h0])) (fun h0 => ?_)
  obtain ⟨q, rfl, hq, hn, _, _⟩ := hok h0
  rw [if_neg (by omega)] at hgb
  rw [Int.toNat_natCast] at hgb ⊢
  refine ⟨⟨by omega, by omega⟩, ?_⟩
  refine brd (fun h1 => bail _ (by rw [hgb, if_pos (.inl h1)])) (fun h1 => ?_)
  rw [wu most (by omega) (by omega)]
  refine brd (fun h2 => bail _ (by rw [hgb, if_pos (.inr h2)])) (fun h2 => ?_)
  rw [if_neg (by omega)] at hgb
  rw [wu _ (by omega) (by omega)]
  refine brd (fun h3 => bail _ (by rw [hgb, if_pos (by omega)])) (fun h3 => ?_)
  rw [if_neg (by omega)] at hgb
  subst hgb
  refine ⟨⟨by omega, by omega⟩, ?_⟩
  have hcut : Imm KB Ω w1 (cutAt (cutAt A c q 1) (c - q) 0 1) ((l.drop q).take n) := by
    have h1 := ((h.ext KB_pos he).cut (lo := q) (hi := l.length) (m := c) hlc)
    rw [List.take_length] at h1
    have h2 := h1.cut (lo := 0) (hi := n) (m := c - q) (by omega)
    rwa [List.drop_zero] at h2
  have hln : ((l.drop q).take n).length = n := by simp; omega
  have ho : OwnB (w1.alloc (.cells #[] 5)) (some ⟨w1.heap.size, 0, none⟩) 0 [] := ownB_lit (w := w1) (l := []) (by simp)
  have hcut' := hcut.ext KB_pos (Fr.alloc NoB w1 (.cells #[] 5))
  obtain ⟨A2, c2, w2, hr, ho2, hg2⟩ := appendBs ho (Src.bytes (P := Try.prog) (c := c - q - 0) hcut') (by simp; omega) 30
  rw [List.nil_append] at hr ho2
  have e1 : (n : Int).toNat - 0 = ((l.drop q).take n).length := by rw [hln]; omega
  rw [e1]
  refine ⟨_, _, _, _, hr, A2, c2, ?_, ho2, ?_, ?_⟩
  · rw [wi _ (show -9223372036854775808 ≤ (n : Int) by omega) (by omega), wi _ (by omega) (by omega)]
  · exact he.trans' (hg2.ext (Fr.alloc NoB w1 _) (New.self w1 0 none))
  · exact (hg2.new (Fr.alloc NoB w1 _) (New.self w1 0 none)).ext he

theorem getB_ok {l : List UInt8} {at_ most : Int} (h : (getB l at_ most).2.2 = 0) : 0 ≤ at_ ∧ at_ < (getB l at_ most).2.1 ∧ (getB l at_ most).2.1 ≤ (l.length : Int) := by
  have hgb : getB l at_ most = (let r := B1.getU l at_; if r.2.2 ≠ 0 then ([], 0, r.2.2) else if most < 0 ∨ most < (r.1 : Int) then ([], 0, 3) else if l.length - r.2.1.toNat < r.1 then ([], 0, 11)
    else ((l.drop r.2.1.toNat).take r.1, r.2.1 + r.1, 0)) := rfl
  have hok := getU_ok (l := l) (at_ := at_)
  generalize getB l at_ most = g at *
  generalize B1.getU l at_ = r at *
  obtain ⟨n, p, e⟩ := r
  dsimp only at hgb hok ⊢
  by_cases h0 : e ≠ 0
  · rw [if_pos h0] at hgb; subst hgb; exact absurd h h0
  rw [if_neg h0] at hgb
  obtain ⟨q, rfl, hq, hn, h1, h2⟩ := hok (by omega)
  split at hgb
  · subst hgb; cases h
  split at hgb
  · subst hgb; cases h
  subst hgb
  rename_i h3
  rw [Int.toNat_natCast] at h3
  refine ⟨h1, ?_, ?_⟩
  · show at_ < (q : Int) + n
    omega
  · show (q : Int) + n ≤ _
    omega

/-- the strings of a list, one behind the other -/
def getsF (l : List UInt8) (most : Int) : Nat → List (List UInt8) → Int → List (List UInt8) × Int × Int
  | 0, acc, p => (acc, p, 0)
  | k + 1, acc, p => if (getB l p most).2.2 = 0 then getsF l most k (acc ++ [(getB l p most).1]) (getB l p most).2.1 else ([], 0, (getB l p most).2.2)
/-- GetBlobs -/
def getBs (l : List UInt8) (at_ many most : Int) : List (List UInt8) × Int × Int :=
  let r := B1.getU l at_
  if r.2.2 ≠ 0 then ([], 0, r.2.2) else if many < 0 ∨ many < (r.1 : Int) then ([], 0, 3) else getsF l most r.1 [] r.2.1
theorem slBs : SlT Try.prog 34 30 1 24 [.slice none 0 0] := ⟨by kernel_rfl, ⟨Try.t30, by kernel_rfl, by kernel_rfl, by kernel_rfl, .slice none 0 0, by kernel_rfl, by kernel_rfl⟩, rfl, by decide⟩

theorem GetBlobs_own {Ω : Nat → Prop} {w : World} {A : Option Addr} {c : Nat} {l : List UInt8} (h : Imm KB Ω w A l) (hl : l.length ≤ 1000000000) (hlc : l.length ≤ c) (at_ many most : Int) (hm : most < 9223372036854775808) (hmn : many < 9223372036854775808) :
    CallsV Try.prog 13 #[.slice A l.length c, .int .i64 at_, .int .i64 many, .int .i64 most] w fun v w' => ∃ A' c',
      v = .tuple #[.slice A' (getBs l at_ many most).1.length c', .int .i64 (getBs l at_ many most).2.1, .int .i64 (getBs l at_ many most).2.2] ∧ OwnK (Kd.ownBytes w.heap.size) w' A' c' (getBs l at_ many most).1 ∧ Ext w w' ∧ New w A' := by
  refine bytes_GetBlobs.calls okay ?_
  unfold bytes_GetBlobs.W
  refine (GetUint_spec h (by omega) at_).mono ?_
  rintro v w1 ⟨rfl, he⟩
  refine ⟨_, _, _, rfl, ?_⟩
  have hok := getU_ok (l := l) (at_ := at_)
  have hgb : getBs l at_ many most = (let r := B1.getU l at_; if r.2.2 ≠ 0 then ([], 0, r.2.2) else if many < 0 ∨ many < (r.1 : Int) then ([], 0, 3) else getsF l most r.1 [] r.2.1) := rfl
  generalize getBs l at_ many most = g at *
  generalize B1.getU l at_ = r at *
  obtain ⟨N, p, e⟩ := r
  dsimp only at hgb hok ⊢
  refine ⟨fun e w2 => Ext w w2 ∧ ((e = 0 ∧ 0 ≤ p ∧ p ≤ (l.length : Int) ∧ g = getsF l most N [] p) ∨ (e ≠ 0 ∧ g = ([], 0, e))), ?_, ?_⟩
  · rintro e2 w2 ⟨he2, hst⟩
    refine ⟨fun q e A2 n2 c2 w3 => ∃ acc : List (List UInt8), n2 = acc.length ∧ OwnK (Kd.ownBytes w.heap.size) w3 A2 c2 acc ∧ Ext w w3 ∧ New w A2 ∧ acc.length ≤ l.length ∧
        ((e = 0 ∧ 0 ≤ q ∧ (acc.length : Int) ≤ q ∧ q ≤ (l.length : Int) ∧ acc.length ≤ N ∧ g = getsF l most (N - acc.length) acc q) ∨ (e ≠ 0 ∧ g = ([], 0, e))),
      fun _ e _ n _ _ => 2 * (N - n) + (if e = 0 then 1 else 0), ⟨[], rfl, OwnK.nil _ _, he2, New.none _, by simp, ?_⟩, ?_⟩
    · rcases hst with ⟨h1, h2, h3, h4⟩ | h
      · exact .inl ⟨h1, h2, h2, h3, by simp, h4⟩
      · exact .inr h
    rintro q e A2 _ c2 w3 ⟨acc, rfl, ho, he3, hnew, hal, hst⟩
    have fail : e ≠ 0 → ∃ A' c', Value.tuple #[.slice none 0 0, .int .i64 0, .int .i64 e] = .tuple #[.slice A' g.1.length c', .int .i64 g.2.1, .int .i64 g.2.2] ∧ OwnK (Kd.ownBytes w.heap.size) w3 A' c' g.1 ∧ Ext w w3 ∧ New w A' := by
      intro hne
      rcases hst with h | ⟨_, h⟩
      · exact absurd h.1 hne
      · subst h; exact ⟨none, 0, rfl, OwnK.nil _ _, he3, New.none _⟩
    rw [wu _ (by omega) (by omega)]
    refine brd (fun hlt => ?_) (fun hlt => ?_)
    · refine brd (fun h0 => ?_) (fun h0 => brn (fun h1 => fail h1) (fun h1 => absurd h1 h0))
      obtain ⟨_, hq0, haq, hql, haN, hg⟩ := hst.elim id (fun h => absurd h0 h.1)
      obtain ⟨k, hk⟩ : ∃ k, N - acc.length = k + 1 := ⟨N - acc.length - 1, by omega⟩
      rw [hk, getsF] at hg
      refine (GetBlob_spec (h.ext KB_pos he3) (by omega) hlc q most hm).mono ?_
      rintro v w4 ⟨A4, c4, rfl, ho4, he4, hn4⟩
      refine ⟨_, _, _, _, _, rfl, ?_⟩
      have hbok := getB_ok (l := l) (at_ := q) (most := most)
      generalize getB l q most = gb at *
      refine brd (fun h5 => ?_) (fun h5 => ?_)
      · rw [if_pos h5] at hg
        obtain ⟨h6, h7, h8⟩ := hbok h5
        have hrep : (Kd.ownBytes w.heap.size).rep (ownB A2) w4 gb.1 [.slice A4 gb.1.length c4] := ⟨A4, c4, rfl, ho4, fun k hk => ⟨fun h' => by
          obtain ⟨xs, hox, _⟩ := ho
          exact absurd (hn4 k hk) (Nat.not_le.2 (hox.lt k h')), Nat.le_trans he3.size (hn4 k hk)⟩⟩
        obtain ⟨A5, c5, w5, hr5, ho5, hg5⟩ := (ho.ext he4).push (K := Kd.ownBytes w.heap.size) slBs (ty := 34) (e' := 30) hrep (by simp [Value.oneCell']) (by simp [maxLen]; omega) (by omega)
        refine ⟨_, _, _, _, hr5, ⟨acc ++ [gb.1], rfl, ho5, hg5.ext (he3.trans' he4) hnew, hg5.new (he3.trans' he4) hnew, by simp; omega, .inl ⟨h5, by omega, by simp; omega, h8, by simp; omega, ?_⟩⟩, ?_⟩
        · rw [hg, show N - (acc ++ [gb.1]).length = k by simp; omega]
        · dsimp only
          rw [if_pos h0, if_pos h5]; simp; omega
      · rw [if_neg h5] at hg
        exact ⟨⟨acc, rfl, ho.ext he4, he3.trans' he4, hnew, hal, .inr ⟨h5, hg⟩⟩, by dsimp only; rw [if_pos h0, if_neg h5]; omega⟩
    · refine brn (fun h1 => fail h1) (fun h1 => ?_)
      obtain ⟨_, hq0, haq, hql, haN, hg⟩ := hst.elim id (fun h => absurd h1 h.1)
      have : N - acc.length = 0 := by omega
      rw [this, getsF] at hg
      subst hg
      exact ⟨A2, c2, rfl, ho, he3, hnew⟩
  · refine brd (fun h0 => ?_) (fun h0 => ?_)
    · obtain ⟨q, rfl, hq, hn, _, _⟩ := hok h0
      rw [if_neg (by omega)] at hgb
      refine brd (fun h1 => ?_) (fun h1 => ?_)
      · exact ⟨he, .inr ⟨by decide, by rw [hgb, if_pos (.inl h1)]⟩⟩
      rw [wu many (by omega) (by omega)]
      refine brd (fun h2 => ?_) (fun h2 => ?_)
      · exact ⟨he, .inr ⟨by decide, by rw [hgb, if_pos (.inr h2)]⟩⟩
      · exact ⟨he, .inl ⟨h0, by omega, by omega, by rw [hgb, if_neg (by omega)]⟩⟩
    · exact ⟨he, .inr ⟨h0, by rw [hgb, if_pos h0]⟩⟩
theorem GetBlobs_spec {Ω : Nat → Prop} {w : World} {A : Option Addr} {c : Nat} {l : List UInt8} (h : Imm KB Ω w A l) (hl : l.length ≤ 1000000000) (hlc : l.length ≤ c) (at_ many most : Int) (hm : most < 9223372036854775808) (hmn : many < 9223372036854775808) :
    CallsV Try.prog 13 #[.slice A l.length c, .int .i64 at_, .int .i64 many, .int .i64 most] w fun v w' => ∃ A' c',
      v = .tuple #[.slice A' (getBs l at_ many most).1.length c', .int .i64 (getBs l at_ many most).2.1, .int .i64 (getBs l at_ many most).2.2] ∧ OwnK KBs w' A' c' (getBs l at_ many most).1 ∧ Ext w w' ∧ New w A' := by
  refine (GetBlobs_own h hl hlc at_ many most hm hmn).mono ?_
  rintro v w1 ⟨A1, c1, rfl, ho, he, hn⟩
  have := OwnK.weaken (K := Kd.ownBytes w.heap.size) (K' := KBs) (f := id) (Eq.refl 1) ho (fun Ω a cs hr => ownBytes_KBs hr)
  rw [List.map_id] at this
  exact ⟨A1, c1, rfl, this, he, hn⟩
end Go.Proofs.Ytbpcfkahnhlahaa
