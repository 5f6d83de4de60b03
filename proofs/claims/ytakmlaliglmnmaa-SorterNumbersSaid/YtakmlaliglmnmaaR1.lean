/- Layer 3 (record): values, rows that are right, small copies. -/
import Derived.Test.YtakmlaliglmnmaaNests1
import Derived.Test.YtakmlaliglmnmaaB1
import Derived.Test.YtakmlaliglmnmaaR1Pure
import Derived.Test.YtakmlaliglmnmaaSxMake
set_option linter.unusedVariables false
set_option linter.unusedSimpArgs false
namespace Go.Proofs.Ytakmlaliglmnmaa
open Go Go.Sx R1
theorem bt : BT Try.prog 76 5 9 := ⟨by kernel_rfl, by kernel_rfl, by kernel_rfl⟩
theorem slV : SlT Try.prog 32 31 3 32 [.int .u8 0, .int .i64 0, .string ByteArray.empty] := ⟨by kernel_rfl, ⟨Try.t31, by kernel_rfl, by kernel_rfl, by kernel_rfl, .agg #[.int .u8 0, .int .i64 0, .string ByteArray.empty], by kernel_rfl, by kernel_rfl⟩, rfl, by decide⟩
theorem slBo : SlT Try.prog 36 4 1 1 [.bool false] := ⟨by kernel_rfl, ⟨Try.t4, by kernel_rfl, by kernel_rfl, by kernel_rfl, .bool false, by kernel_rfl, by kernel_rfl⟩, rfl, by decide⟩
theorem brS {l l' : List UInt8} {A B : Prop} (h1 : l = l' → A) (h2 : l ≠ l' → B) : cond (ByteArray.toList ⟨l.toArray⟩ == ByteArray.toList ⟨l'.toArray⟩) A B := by rw [eq_str]; exact brd h1 h2

/-- a value's cells -/
def vc (v : V) : List Value := [.int .u8 v.k, .int .i64 v.n, .string v.s]
def KV : Kd V := ⟨3, fun _ _ a cs => cs = vc a, fun h => by simp [h, vc], fun h _ => h⟩
theorem KV_pos : 0 < KV.size := by decide
theorem KV_one : ∀ (Ω : Nat → Prop) (w : World) a cs, KV.rep Ω w a cs → ∀ v ∈ cs, v.oneCell' = true := by
  intro Ω w a cs h v hv
  have h : cs = vc a := h
  subst h
  simp [vc] at hv
  rcases hv with rfl | rfl | rfl <;> rfl
def V0 : V := ⟨0, 0, ByteArray.empty⟩
theorem itemV {Ω : Nat → Prop} {w : World} {A : Option Addr} {l : List V} (h : Imm KV Ω w A l) {x : Int} (h0 : 0 ≤ x) (h1 : x < (l.length : Nat)) :
    ∃ ad, A = some ad ∧ ¬ Ω ad.block ∧ ∀ u, w.cell? = u.cell? ∨ Ext w u ∨ (∃ S, Fr S w u ∧ ∀ k, S k → Ω k) → u.cell? ((ad.add (x.toNat * 3)).add 0) = some (.int .u8 (l.getD x.toNat V0).k) ∧ u.cell? ((ad.add (x.toNat * 3)).add (0 + 1)) = some (.int .i64 (l.getD x.toNat V0).n) ∧ u.cell? ((ad.add (x.toNat * 3)).add (0 + 1 + 1)) = some (.string (l.getD x.toNat V0).s) := by
  have hlt : x.toNat < l.length := by omega
  have hg : l[x.toNat]? = some (l.getD x.toNat V0) := by simp [List.getD, hlt]
  obtain ⟨ad, hA, hn, cs, hr, hcell⟩ := h x.toNat _ hg
  have hr : cs = vc (l.getD x.toNat V0) := hr
  subst hr
  refine ⟨ad, hA, hn, fun u hu => ?_⟩
  have hc : ∀ j v, (vc (l.getD x.toNat V0))[j]? = some v → u.cell? ((ad.add (x.toNat * 3)).add j) = some v := by
    intro j v hj
    have h2 := hcell j v hj
    rw [add_add]
    rcases hu with hu | hu | ⟨S, hu, hS⟩
    · rw [← hu]; exact h2
    · exact hu.cell (fun h => h) h2
    · exact hu.cell (by rw [add_block]; exact fun h => hn (hS _ h)) h2
  exact ⟨hc 0 _ rfl, hc 1 _ rfl, hc 2 _ rfl⟩
theorem itemV0 {Ω : Nat → Prop} {w : World} {A : Option Addr} {l : List V} (h : Imm KV Ω w A l) {x : Int} (h0 : 0 ≤ x) (h1 : x < (l.length : Nat)) :
    ∃ ad, A = some ad ∧ w.cell? ((ad.add (x.toNat * 3)).add 0) = some (.int .u8 (l.getD x.toNat V0).k) ∧ w.cell? ((ad.add (x.toNat * 3)).add (0 + 1)) = some (.int .i64 (l.getD x.toNat V0).n) ∧ w.cell? ((ad.add (x.toNat * 3)).add (0 + 1 + 1)) = some (.string (l.getD x.toNat V0).s) := by
  obtain ⟨ad, hA, _, hc⟩ := itemV h h0 h1
  exact ⟨ad, hA, hc w (.inl rfl)⟩
/-- a variable that holds a value, set -/
theorem varV (w : World) (zs : Array Value) (hz : zs.size = 3) (e : TypeId) (a b c : Value) : ((((w.alloc (.cells zs e)).cell? ((⟨w.heap.size, 0, none⟩ : Addr).add 0)).isSome = true ∧ (w.alloc (.cells zs e)).frozen? ((⟨w.heap.size, 0, none⟩ : Addr).add 0) = false) ∧
    ((((w.alloc (.cells zs e)).setCell ((⟨w.heap.size, 0, none⟩ : Addr).add 0) a).cell? ((⟨w.heap.size, 0, none⟩ : Addr).add (0 + 1))).isSome = true ∧ ((w.alloc (.cells zs e)).setCell ((⟨w.heap.size, 0, none⟩ : Addr).add 0) a).frozen? ((⟨w.heap.size, 0, none⟩ : Addr).add (0 + 1)) = false) ∧
    (((((w.alloc (.cells zs e)).setCell ((⟨w.heap.size, 0, none⟩ : Addr).add 0) a).setCell ((⟨w.heap.size, 0, none⟩ : Addr).add (0 + 1)) b).cell? ((⟨w.heap.size, 0, none⟩ : Addr).add (0 + 1 + 1))).isSome = true ∧ (((w.alloc (.cells zs e)).setCell ((⟨w.heap.size, 0, none⟩ : Addr).add 0) a).setCell ((⟨w.heap.size, 0, none⟩ : Addr).add (0 + 1)) b).frozen? ((⟨w.heap.size, 0, none⟩ : Addr).add (0 + 1 + 1)) = false)) ∧
    Blk ((((w.alloc (.cells zs e)).setCell ((⟨w.heap.size, 0, none⟩ : Addr).add 0) a).setCell ((⟨w.heap.size, 0, none⟩ : Addr).add (0 + 1)) b).setCell ((⟨w.heap.size, 0, none⟩ : Addr).add (0 + 1 + 1)) c) w.heap.size [a, b, c] ∧
    Ext w ((((w.alloc (.cells zs e)).setCell ((⟨w.heap.size, 0, none⟩ : Addr).add 0) a).setCell ((⟨w.heap.size, 0, none⟩ : Addr).add (0 + 1)) b).setCell ((⟨w.heap.size, 0, none⟩ : Addr).add (0 + 1 + 1)) c) := by
  obtain ⟨x, y, z, rfl⟩ : ∃ x y z, zs = #[x, y, z] := by
    obtain ⟨l⟩ := zs
    match l, hz with
    | [x, y, z], _ => exact ⟨x, y, z, rfl⟩
  have b0 : Blk (w.alloc (.cells #[x, y, z] e)) w.heap.size [x, y, z] := Blk.alloc _ _ _
  have e0 : Ext w (w.alloc (.cells #[x, y, z] e)) := Fr.alloc NoB w _
  generalize w.alloc (.cells #[x, y, z] e) = w0 at *
  have b1 := b0.set 0 0 a
  have e1 := e0.setNewAdd (o := 0) (i := 0) (Nat.le_refl _) a
  generalize w0.setCell ((⟨w.heap.size, 0, none⟩ : Addr).add 0) a = w1 at *
  have b2 := b1.set 0 (0 + 1) b
  have e2 := e1.setNewAdd (o := 0) (i := 0 + 1) (Nat.le_refl _) b
  generalize w1.setCell ((⟨w.heap.size, 0, none⟩ : Addr).add (0 + 1)) b = w2 at *
  have b3 := b2.set 0 (0 + 1 + 1) c
  have e3 := e2.setNewAdd (o := 0) (i := 0 + 1 + 1) (Nat.le_refl _) c
  exact ⟨⟨⟨by rw [b0.cell (v := x) rfl]; rfl, b0.unfrozen _ _⟩, ⟨by rw [b1.cell (v := y) rfl]; rfl, b1.unfrozen _ _⟩, ⟨by rw [b2.cell (v := z) rfl]; rfl, b2.unfrozen _ _⟩⟩, b3, e3⟩
theorem eq_empty (x : ByteArray) : (ByteArray.toList x == ByteArray.toList (ByteArray.mk #[])) = decide (x.size = 0) := by
  obtain ⟨⟨l⟩⟩ := x
  refine (eq_str l []).trans ?_
  cases l <;> simp [ByteArray.size]

theorem Right_spec (w : World) (v : V) : CallsV Try.prog 31 #[.agg #[.int .u8 v.k, .int .i64 v.n, .string v.s]] w fun r w' => r = .bool (right v) ∧ Ext w w' := by
  refine value_Right.calls okay ?_
  unfold value_Right.W
  have b : Blk (w.alloc (.cells #[.int .u8 v.k, .int .i64 v.n, .string v.s] 31)) w.heap.size [.int .u8 v.k, .int .i64 v.n, .string v.s] := Blk.alloc _ _ _
  have e : Ext w (w.alloc (.cells #[.int .u8 v.k, .int .i64 v.n, .string v.s] 31)) := Fr.alloc NoB w _
  generalize w.alloc (.cells #[.int .u8 v.k, .int .i64 v.n, .string v.s] 31) = W at *
  refine ⟨_, b.cell rfl, ?_⟩
  unfold right
  refine brd (fun h0 => ?_) (fun h0 => ?_)
  · rw [if_pos h0]
    refine ⟨_, b.cell rfl, brd (fun h1 => ⟨_, b.cell rfl, ?_, e⟩) (fun h1 => ⟨by simp [h1], e⟩)⟩
    rw [eq_empty]; simp [h1]
  rw [if_neg h0]
  refine brd (fun h1 => ?_) (fun h1 => ?_)
  · rw [if_pos h1]
    refine ⟨_, b.cell rfl, ?_, e⟩
    rw [eq_empty]
  rw [if_neg h1]
  refine brd (fun h2 => ?_) (fun h2 => ?_)
  · rw [if_pos (.inl h2)]
    refine brd (fun _ => ?_) (fun h => absurd h2 h)
    refine ⟨_, b.cell rfl, brd (fun h1 => ⟨_, b.cell rfl, ?_, e⟩) (fun h1 => ⟨by simp [h1], e⟩)⟩
    have : ((v.s.size : Int) ≤ 65536) = (v.s.size ≤ 65536) := by rw [eq_iff_iff]; omega
    simp [h1, this]
  refine brd (fun h3 => ?_) (fun h3 => ?_)
  · rw [if_pos (.inr h3)]
    refine ⟨_, b.cell rfl, brd (fun h1 => ⟨_, b.cell rfl, ?_, e⟩) (fun h1 => ⟨by simp [h1], e⟩)⟩
    have : ((v.s.size : Int) ≤ 65536) = (v.s.size ≤ 65536) := by rw [eq_iff_iff]; omega
    simp [h1, this]
  · rw [if_neg (by omega)]
    exact ⟨rfl, e⟩
theorem right1_spec (w : World) (v : V) : CallsV Try.prog 82 #[.agg #[.int .u8 v.k, .int .i64 v.n, .string v.s]] w fun r w' => r = .bool (!right v) ∧ Ext w w' := by
  refine record_right_1.calls okay ?_
  unfold record_right_1.W
  have b : Blk (w.alloc (.cells #[.int .u8 v.k, .int .i64 v.n, .string v.s] 31)) w.heap.size [.int .u8 v.k, .int .i64 v.n, .string v.s] := Blk.alloc _ _ _
  have e : Ext w (w.alloc (.cells #[.int .u8 v.k, .int .i64 v.n, .string v.s] 31)) := Fr.alloc NoB w _
  generalize w.alloc (.cells #[.int .u8 v.k, .int .i64 v.n, .string v.s] 31) = W at *
  refine ⟨_, b.cell rfl, _, b.cell rfl, _, b.cell rfl, ?_⟩
  refine (Right_spec W v).mono ?_
  rintro r w' ⟨rfl, e'⟩
  exact ⟨_, rfl, rfl, e.trans' e'⟩

theorem all_of {p : V → Bool} {l : List V} (h : ∀ i, i < l.length → p (l.getD i V0) = true) : l.all p = true := by
  rw [List.all_eq_true]
  intro v hv
  obtain ⟨i, hi, rfl⟩ := List.getElem_of_mem hv
  have := h i hi
  simpa [List.getD, hi] using this
theorem all_not {p : V → Bool} {l : List V} {i : Nat} (hi : i < l.length) (h : p (l.getD i V0) = false) : l.all p = false := by
  rw [List.all_eq_false]
  exact ⟨l[i], by simp, by simpa [List.getD, hi] using h⟩
theorem IndexFunc_spec {Ω : Nat → Prop} {w : World} {A : Option Addr} {c : Nat} {l : List V} (h : Imm KV Ω w A l) (hl : l.length ≤ maxLen) :
    CallsV Try.prog 93 #[.slice A l.length c, .func (.func 82) #[] #[]] w fun r w' => (∃ x : Int, r = .int .i64 x ∧ (0 ≤ x ↔ l.all right = false)) ∧ Ext w w' := by
  refine slices_IndexFunc_api_Value_api_Value.calls okay ?_
  unfold slices_IndexFunc_api_Value_api_Value.W
  simp only [maxLen] at hl
  refine ⟨fun x w1 => ∃ j : Nat, j ≤ l.length ∧ x = (j : Int) ∧ (∀ i, i < j → right (l.getD i V0) = true) ∧ Ext w w1, fun x _ => (l.length - x).toNat, ⟨0, by omega, rfl, fun i h => by omega, .refl _ _⟩, ?_⟩
  rintro _ w1 ⟨j, hj, rfl, hall, he⟩
  refine brd (fun hlt => ?_) (fun hge => ?_)
  · obtain ⟨ad, hA, h1, h2, h3⟩ := itemV0 (h.ext KV_pos he) (x := (j : Int)) (by omega) (by omega)
    refine ⟨ad, hA, ⟨by omega, by omega⟩, _, h1, _, h2, _, h3, ?_⟩
    rw [Int.toNat_natCast]
    refine (right1_spec w1 _).mono ?_
    rintro r w2 ⟨rfl, e2⟩
    refine ⟨_, rfl, brnb (fun hr => ?_) (fun hr => ?_)⟩
    · exact ⟨⟨_, rfl, ⟨fun _ => all_not (by omega) hr, fun _ => by omega⟩⟩, he.trans' e2⟩
    · rw [wi _ (by omega) (by omega)]
      exact ⟨⟨j + 1, by omega, rfl, fun i hi => if hij : i = j then by subst hij; exact hr else hall i (by omega), he.trans' e2⟩, by dsimp only; omega⟩
  · obtain rfl : j = l.length := by omega
    exact ⟨⟨_, rfl, ⟨fun h => by omega, fun h => by rw [all_of hall] at h; cases h⟩⟩, he⟩
theorem right_spec {Ω : Nat → Prop} {w : World} {A : Option Addr} {c : Nat} {l : List V} (h : Imm KV Ω w A l) (hl : l.length ≤ maxLen) :
    CallsV Try.prog 57 #[.slice A l.length c] w fun r w' => r = .int .i64 (rightRow l) ∧ Ext w w' := by
  refine record_right.calls okay ?_
  unfold record_right.W rightRow
  refine brd (fun h1 => ⟨by rw [if_pos (by omega)], .refl _ _⟩) (fun h1 => ?_)
  rw [if_neg (by omega)]
  refine CallsV.mono (slices_ContainsFunc_api_Value_api_Value.calls okay ?_ : CallsV _ _ _ _ fun r w' => r = .bool (!(l.all right)) ∧ Ext w w') ?_
  · unfold slices_ContainsFunc_api_Value_api_Value.W
    refine (IndexFunc_spec h hl).mono ?_
    rintro r w1 ⟨⟨x, rfl, hx⟩, e⟩
    refine ⟨_, rfl, ?_, e⟩
    congr 1
    by_cases h0 : 0 ≤ x
    · simp [h0, hx.1 h0]
    · have : l.all right = true := by
        cases hh : l.all right with
        | true => rfl
        | false => exact absurd (hx.2 hh) h0
      rw [this]; simp [h0]
  · rintro r w1 ⟨rfl, e⟩
    refine ⟨_, rfl, brnb (fun h => ?_) (fun h => ?_)⟩
    · exact ⟨by simp [h], e⟩
    · exact ⟨by simp [h], e⟩

/-! ## the statements' helpers -/
def smallV (l : List V) (most long : Int) : Bool := decide ((l.length : Int) ≤ most) && l.all fun v => decide ((v.s.size : Int) ≤ long)
theorem Small_spec {Ω : Nat → Prop} {w : World} {A : Option Addr} {c : Nat} {l : List V} (h : Imm KV Ω w A l) (hl : l.length ≤ maxLen) (most long : Int) :
    CallsV Try.prog 16 #[.slice A l.length c, .int .i64 most, .int .i64 long] w fun r w' => r = .bool (smallV l most long) ∧ w' = w := by
  refine cardindexlow_Small.calls okay ?_
  unfold cardindexlow_Small.W smallV
  simp only [maxLen] at hl
  refine brd (fun h1 => ⟨by rw [decide_eq_false (by omega)]; rfl, rfl⟩) (fun h1 => ?_)
  rw [decide_eq_true (by omega), Bool.true_and]
  refine ⟨fun x w1 => ∃ j : Nat, j ≤ l.length ∧ x = (j : Int) ∧ (∀ i, i < j → decide (((l.getD i V0).s.size : Int) ≤ long) = true) ∧ w1 = w, fun x _ => (l.length - x).toNat, ⟨0, by omega, rfl, fun i h => by omega, rfl⟩, ?_⟩
  rintro _ w1 ⟨j, hj, rfl, hall, rfl⟩
  refine brd (fun hlt => ?_) (fun hge => ?_)
  · obtain ⟨ad, hA, h1, h2, h3⟩ := itemV0 h (x := (j : Int)) (by omega) (by omega)
    refine ⟨ad, hA, ⟨by omega, by omega⟩, _, h3, ?_⟩
    rw [Int.toNat_natCast]
    refine brd (fun hr => ?_) (fun hr => ?_)
    · exact ⟨by rw [all_not (i := j) (by omega)]; simpa using hr, rfl⟩
    · rw [wi _ (by omega) (by omega)]
      exact ⟨⟨j + 1, by omega, rfl, fun i hi => if hij : i = j then by subst hij; simpa using hr else hall i (by omega), rfl⟩, by dsimp only; omega⟩
  · obtain rfl : j = l.length := by omega
    exact ⟨by rw [all_of hall], rfl⟩
/-- owned flags -/
def OwnF (w : World) (A : Option Addr) (c : Nat) (l : List Bool) : Prop := Own w 1 A l.length c (l.map .bool)
theorem OwnF.imm {w : World} {A : Option Addr} {c : Nat} {l : List Bool} (h : OwnF w A c l) : Imm Kd.bool NoB w A l :=
  Own.imm (K := Kd.bool) (by decide) h (fun _ _ h => h) fun i a ha => by
    show ((l.map Value.bool).drop (i * 1)).take 1 = [.bool a]
    have hlt : i < l.length := (List.getElem?_eq_some_iff.1 ha).1
    have e : l[i] = a := (List.getElem?_eq_some_iff.1 ha).2
    rw [Nat.mul_one, List.drop_eq_getElem_cons (by simpa using hlt)]
    simp [e]
theorem OwnF.ext {w w' : World} {A : Option Addr} {c : Nat} {l : List Bool} (h : OwnF w A c l) (e : Ext w w') : OwnF w' A c l := Own.keep h e fun _ _ h => h
theorem OwnF.le {w : World} {A : Option Addr} {c : Nat} {l : List Bool} (h : OwnF w A c l) : l.length ≤ c := Own.le h
theorem KBo_pos : 0 < Kd.bool.size := by decide
theorem itemF {Ω : Nat → Prop} {w : World} {A : Option Addr} {l : List Bool} (h : Imm Kd.bool Ω w A l) {x : Int} (h0 : 0 ≤ x) (h1 : x < (l.length : Nat)) :
    ∃ ad, A = some ad ∧ w.cell? (ad.add (x.toNat * 1)) = some (.bool (l.getD x.toNat false)) := by
  have hlt : x.toNat < l.length := by omega
  have hg : l[x.toNat]? = some (l.getD x.toNat false) := by simp [List.getD, hlt]
  obtain ⟨ad, hA, hn, cs, hr, hcell⟩ := h x.toNat _ hg
  have hr : cs = [.bool (l.getD x.toNat false)] := hr
  subst hr
  exact ⟨ad, hA, hcell 0 _ rfl⟩
theorem OwnF.set {w : World} {A : Option Addr} {c : Nat} {l : List Bool} (h : OwnF w A c l) {x : Int} (h0 : 0 ≤ x) (h1 : x < (l.length : Nat)) (b : Bool) :
    ∃ ad, A = some ad ∧ ((w.cell? ((ad.add (x.toNat * 1)).add 0)).isSome = true ∧ w.frozen? ((ad.add (x.toNat * 1)).add 0) = false) ∧ OwnF (w.setCell ((ad.add (x.toNat * 1)).add 0) (.bool b)) A c (l.set x.toNat b) ∧ Fr (ownB A) w (w.setCell ((ad.add (x.toNat * 1)).add 0) (.bool b)) := by
  obtain ⟨g, rfl, h1, h2, h3⟩ := Own.at_ h (j := x.toNat) (by omega)
  refine ⟨_, rfl, ?_⟩
  rw [add_new, add_new, Nat.zero_add, Nat.add_zero, Nat.mul_one]
  refine ⟨⟨h1, h2⟩, ?_, (h3 _).2⟩
  have := (h3 (.bool b)).1
  unfold OwnF
  rw [List.length_set, List.map_set]
  exact this
theorem CopyValues_spec {w : World} {A : Option Addr} {c : Nat} {l : List V} (h : Imm KV NoB w A l) (hl : l.length ≤ 1000000) :
    CallsV Try.prog 17 #[.slice A l.length c] w fun r w' => ∃ A' c', r = .slice A' l.length c' ∧ OwnK KV w' A' c' l ∧ Ext w w' ∧ New w A' := by
  refine cardindexlow_CopyValues.calls okay ?_
  unfold cardindexlow_CopyValues.W
  obtain ⟨A', c', w', hr, ho, hg⟩ := (OwnK.nil KV w).append slV (ty := 32) (cb := c) (h.sub KV_pos fun k _ h => (ownB_none k h).elim) (KV_one _ _) (by simp [maxLen]; omega) (by simp; omega)
  exact ⟨_, _, _, _, hr, _, _, rfl, ho, hg.ext (.refl _ _) (New.none _), hg.new (.refl _ _) (New.none _)⟩
end Go.Proofs.Ytakmlaliglmnmaa
