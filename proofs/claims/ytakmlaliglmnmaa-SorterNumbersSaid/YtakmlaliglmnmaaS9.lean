/- Layer 7: the statements' sorters of one text each. -/
import Derived.Test.YtakmlaliglmnmaaS8
set_option linter.unusedVariables false
set_option linter.unusedSimpArgs false
namespace Go.Proofs.Ytakmlaliglmnmaa
open Go Go.Sx R1 S1 Go.Lib

/-- a literal's row -/
theorem freshRow {w w' : World} {g : Nat} {cs : List Value} {e : TypeId} (f : Fresh w g w' cs e) (l : List V) (hl : l.length ≤ maxLen) (hcs : cs = l.flatMap vc) : OwnK KV w' (some ⟨g, 0, none⟩) l.length l := by
  obtain ⟨rfl, rfl⟩ := f
  subst hcs
  have hv : ∀ m : List V, (m.flatMap vc).length = m.length * 3 := by
    intro m
    induction m with
    | nil => rfl
    | cons v m ih => rw [List.flatMap_cons, List.length_append, ih, List.length_cons]; simp [vc]; omega
  refine ownK_lit (K := KV) (hv l) hl fun i a hi => ?_
  show ((l.flatMap vc).drop (i * 3)).take 3 = vc a
  have hlt := (List.getElem?_eq_some_iff.1 hi).1
  have he := (List.getElem?_eq_some_iff.1 hi).2
  have hsp : l = l.take i ++ (a :: l.drop (i + 1)) := by
    rw [← he, List.getElem_cons_drop]; simp
  have h3 : ((l.take i).flatMap vc).length = i * 3 := by rw [hv, List.length_take, Nat.min_eq_left (by omega)]
  rw [hsp, List.flatMap_append, List.flatMap_cons, ← h3, List.drop_left]
  rfl
theorem freshFlag {w w' : World} {g : Nat} {d : Bool} {e : TypeId} (f : Fresh w g w' [.bool d] e) : OwnF w' (some ⟨g, 0, none⟩) 1 [d] := by
  obtain ⟨rfl, rfl⟩ := f
  exact own_lit (cs := [.bool d]) (sz := 1) (n := 1) rfl (by decide)
theorem good_num (n : Int) (h : -9223372036854775808 ≤ n ∧ n ≤ 9223372036854775807) : good (numV n) := ⟨(by decide : (0 : Int) ≤ 1 ∧ (1 : Int) ≤ 255), h, (by decide +kernel : (ByteArray.mk #[]).size ≤ maxLen)⟩
theorem good_text (s : ByteArray) (h : s.size ≤ 1000) : good (textV s) := ⟨(by decide : (0 : Int) ≤ 2 ∧ (2 : Int) ≤ 255), (by decide : (-9223372036854775808 : Int) ≤ 0 ∧ (0 : Int) ≤ 9223372036854775807), by show s.size ≤ maxLen; simp only [maxLen]; omega⟩
theorem Moved.ext {R : Nat → Prop} {w w' w0 : World} {g : Nat} {L : Option Addr} {lc : Nat} {D : Option Addr} {dc : Nat} {st st' : St} (h : Sor R w g L lc D dc st) (m : Moved R w w' g L D dc st') (e : Ext w0 w) (hR : ∀ k, R k → w0.heap.size ≤ k) : Ext w0 w' := by
  obtain ⟨L', lc', _, hf, _⟩ := m
  refine e.trans hf (fun _ _ h => h) (fun k hk hh => ?_)
  rcases hh with rfl | hh
  · exact absurd (hR _ h.rg) (Nat.not_le.2 hk)
  · exact absurd (hR _ (h.rL _ hh)) (Nat.not_le.2 hk)

/-- the texts, one behind the other -/
def catS : List S1.One → ByteArray
  | [] => ByteArray.mk #[]
  | x :: l => (x.r.getD 0 V0).s ++ catS l
def cat' : ByteArray → List S1.One → ByteArray
  | acc, [] => acc
  | acc, x :: l => cat' (acc ++ (x.r.getD 0 V0).s) l
theorem cat'_snoc (acc : ByteArray) : ∀ (l : List S1.One) (x : S1.One), cat' acc (l ++ [x]) = cat' acc l ++ (x.r.getD 0 V0).s
  | [], x => rfl
  | y :: l, x => cat'_snoc (acc ++ (y.r.getD 0 V0).s) l x
theorem cat'_size (acc : ByteArray) : ∀ (l : List S1.One), (∀ x ∈ l, (x.r.getD 0 V0).s.size ≤ 100) → (cat' acc l).size ≤ acc.size + 100 * l.length
  | [], _ => by simp [cat']
  | x :: l, h => by
    have h1 := cat'_size (acc ++ (x.r.getD 0 V0).s) l (fun y hy => h y (List.mem_cons.2 (.inr hy)))
    have h2 := h x (List.mem_cons.2 (.inl rfl))
    rw [ByteArray.size_append] at h1
    show (cat' (acc ++ (x.r.getD 0 V0).s) l).size ≤ _
    rw [List.length_cons]; omega
theorem getO_mem {l : List S1.One} {i : Nat} (h : i < l.length) : l.getD i O0 ∈ l := by simp [List.getD, h]
theorem takeO (l : List S1.One) (j : Nat) (h : j < l.length) : l.take (j + 1) = l.take j ++ [l.getD j O0] := by rw [List.take_add_one]; simp [List.getD, h]
theorem all_spec {R : Nat → Prop} {w : World} {g : Nat} {L : Option Addr} {lc : Nat} {D : Option Addr} {dc : Nat} {st : St} (h : Sor R w g L lc D dc st) (hs : st.sorted = true) (h0 : st.at_ = 0) (hl : st.l.length < 100) (h1 : ∀ x ∈ st.l, x.r.length = 1 ∧ (x.r.getD 0 V0).s.size ≤ 100) :
    CallsV Try.prog 33 #[.pointer (some ⟨g, 0, none⟩)] w fun r w' => r = .string (cat' (ByteArray.mk #[]) st.l) ∧ Sor R w' g L lc D dc { st with at_ := st.l.length } ∧ Fr (fun k => k = g) w w' := by
  refine cardindexlaw07_all.calls okay ?_
  unfold cardindexlaw07_all.W
  refine ⟨fun x n u => ∃ j : Nat, j ≤ st.l.length ∧ n = (j : Int) ∧ x = cat' (ByteArray.mk #[]) (st.l.take j) ∧ Sor R u g L lc D dc { st with at_ := j } ∧ Fr (fun k => k = g) w u, fun _ n _ => (100 - n).toNat, ⟨0, by omega, rfl, rfl, by rw [← h0]; exact h, .refl _ _⟩, ?_⟩
  rintro _ _ u ⟨j, hj, rfl, rfl, hu, f⟩
  refine brd (fun _ => ?_) (fun h => by omega)
  refine (Next_spec hu).mono ?_
  rintro _ u1 ⟨A, c, rfl, oR, nA, hu1, f1⟩
  have f2 := f.trans f1 (fun _ _ h => h) (fun _ _ h => h)
  refine ⟨_, _, _, _, rfl, ?_⟩
  by_cases hjl : j < st.l.length
  · have hok : nextOk { st with at_ := j } = true := by unfold nextOk; rw [hs, decide_eq_true (by exact hjl)]; rfl
    have hr : nextR { st with at_ := j } = (st.l.getD j O0).r := by rw [nextR, hok]; rfl
    have hst : nextS { st with at_ := j } = { st with at_ := j + 1 } := by rw [nextS, hok]; rfl
    rw [hr] at oR ⊢
    rw [hst] at hu1
    obtain ⟨hl1, hsz⟩ := h1 _ (getO_mem hjl)
    rw [hok, hl1]
    refine brnb (fun h => by cases h) (fun _ => brn (fun h => absurd rfl h) (fun _ => ?_))
    obtain ⟨ad, hA, q1, q2, q3⟩ := itemV0 (oR.imm KV_pos) (x := 0) (by omega) (by rw [hl1]; decide)
    refine ⟨ad, hA, ⟨by omega, by decide⟩, _, q3, ?_⟩
    have hsz' := cat'_size (ByteArray.mk #[]) (st.l.take j) (fun x hx => (h1 x (List.mem_of_mem_take hx)).2)
    rw [List.length_take] at hsz'
    have hz : (ByteArray.mk #[] : ByteArray).size = 0 := rfl
    refine ⟨by show _ + (ByteArray.size ((st.l.getD j O0).r.getD 0 V0).s) ≤ _; omega, ?_⟩
    rw [wi _ (by omega) (by omega)]
    refine ⟨⟨j + 1, by omega, rfl, ?_, hu1, f2⟩, by dsimp only; omega⟩
    rw [takeO _ _ hjl, cat'_snoc]; rfl
  · obtain rfl : j = st.l.length := by omega
    have hok : nextOk { st with at_ := st.l.length } = false := by unfold nextOk; rw [hs, decide_eq_false (by exact Nat.lt_irrefl _)]; rfl
    have hst : nextS { st with at_ := st.l.length } = { st with at_ := st.l.length } := by rw [nextS, hok]; rfl
    rw [hst] at hu1
    rw [hok]
    refine brnb (fun _ => ?_) (fun h => by cases h)
    rw [List.take_length]
    exact ⟨rfl, hu1, f2⟩

def letter (i : Nat) : ByteArray := ByteArray.extract (ByteArray.mk #[65, 66, 67, 68, 69, 70, 71, 72]) i (i + 1)
theorem letter_size (i : Nat) (h : i < 8) : (letter i).size = 1 := by
  have : ∀ i : Fin 8, (letter i.val).size = 1 := by decide +kernel
  exact this ⟨i, h⟩
/-- the rows that order adds: n of them -/
def ordL (desc : Bool) (ks : List V) : Nat → List S1.One
  | 0 => []
  | i + 1 => ordL desc ks i ++ [⟨(keyR [ks.getD i V0] [desc]).1, [textV (letter i)]⟩]
theorem ordL_length (desc : Bool) (ks : List V) : ∀ n, (ordL desc ks n).length = n
  | 0 => rfl
  | n + 1 => by rw [ordL, List.length_append, ordL_length desc ks n]; rfl
theorem ordL_one (desc : Bool) (ks : List V) : ∀ n, n ≤ 8 → ∀ x ∈ ordL desc ks n, x.r.length = 1 ∧ (x.r.getD 0 V0).s.size ≤ 100
  | 0, _, x, h => by cases h
  | n + 1, hn, x, h => by
    rw [ordL] at h
    rcases List.mem_append.1 h with h | h
    · exact ordL_one desc ks n (by omega) x h
    · rw [List.mem_singleton.1 h]
      refine ⟨rfl, ?_⟩
      show (letter n).size ≤ 100
      rw [letter_size n (by omega)]; decide
theorem once_mem : ∀ (l : List S1.One), ∀ x ∈ once l, x ∈ l := by
  have h : ∀ (l : List S1.One) k, ∀ x ∈ once' k l, x ∈ l := by
    intro l
    induction l with
    | nil => intro k x h; cases h
    | cons y l ih =>
      intro k x h
      rw [once'] at h
      split at h
      · exact List.mem_cons.2 (.inr (ih _ x h))
      · rcases List.mem_cons.1 h with rfl | h
        · exact List.mem_cons.2 (.inl rfl)
        · exact List.mem_cons.2 (.inr (ih _ x h))
  intro l x hx
  cases l with
  | nil => cases hx
  | cons y l =>
    rcases List.mem_cons.1 hx with rfl | hx
    · exact List.mem_cons.2 (.inl rfl)
    · exact List.mem_cons.2 (.inr (h l _ x hx))
theorem inOrder_mem (l : List S1.One) (x : S1.One) (h : x ∈ inOrder l) : x ∈ l := by
  have : x ∈ cls x.k (inOrder l) := List.mem_filter.2 ⟨h, by simp⟩
  rw [inOrder_cls] at this
  exact (List.mem_filter.1 this).1
theorem sorted'_mem (st : St) (x : S1.One) (h : x ∈ sorted' st) : x ∈ st.l := by
  unfold sorted' at h
  split at h
  · exact inOrder_mem _ _ (once_mem _ x h)
  · exact inOrder_mem _ _ h
theorem sorted'_len (st : St) : (sorted' st).length ≤ st.l.length := by
  unfold sorted'
  split
  · have := once_le (inOrder st.l); rwa [inOrder_length] at this
  · rw [inOrder_length]; exact Nat.le_refl _
theorem right_text (s : ByteArray) (h : s.size ≤ 100) : right (textV s) = true := by
  unfold right textV
  show (if (2 : Int) = 0 then _ else if (2 : Int) = 1 then _ else if (2 : Int) = 2 ∨ (2 : Int) = 3 then decide ((0 : Int) = 0 ∧ s.size ≤ 65536) else false) = true
  rw [if_neg (by decide), if_neg (by decide), if_pos (by decide), decide_eq_true]
  exact ⟨rfl, by omega⟩
/-- Add, where all is small -/
theorem addE_small {st : St} {key row : List V} (hs : st.sorted = false) (hk : SmallR key) (hn : st.desc.length = key.length) (hr : SmallR row) (hl : st.l.length < 65536) : addE st key row = 0 := by
  unfold addE
  rw [hs, (hk.key hn).1, hr.put, if_neg (by simp), if_neg (by simp), if_neg (by simp), if_neg (by omega)]
theorem orderL_spec {w : World} {A : Option Addr} {c : Nat} {ks : List V} (hA : Imm KV NoB w A ks) (hl : ks.length ≤ 8) (hr : ∀ v ∈ ks, right v = true ∧ v.s.size ≤ 100) (hg : ∀ v ∈ ks, good v) (desc dist : Bool) :
    CallsV Try.prog 32 #[.bool desc, .bool dist, .slice A ks.length c] w fun r w' => r = .string (cat' (ByteArray.mk #[]) (sorted' ⟨[desc], dist, ordL desc ks ks.length, false, 0⟩)) ∧ Ext w w' := by
  refine cardindexlaw07_order.calls okay ?_
  unfold cardindexlaw07_order.W
  intro g0 w1 f1
  have e1 := f1.ext
  refine (New_spec (freshFlag f1).imm (by simp) dist).mono ?_
  rintro _ w2 ⟨g, D, dc, rfl, h2, e2⟩
  have e12 := e1.trans' e2
  have hb1 := e1.size
  refine ⟨_, _, rfl, brn (fun h => absurd rfl h) (fun _ => ?_)⟩
  refine ⟨fun x u => ∃ (j : Nat) (L : Option Addr) (lc : Nat), j ≤ ks.length ∧ x = (j : Int) ∧ Sor (fun k => w1.heap.size ≤ k) u g L lc D dc ⟨[desc], dist, ordL desc ks j, false, 0⟩ ∧ Ext w u ∧ w1.heap.size ≤ u.heap.size, fun x _ => (ks.length - x).toNat, ⟨0, none, 0, by omega, rfl, h2, e12, e2.size⟩, ?_⟩
  rintro _ u ⟨j, L, lc, hj, rfl, hu, eu, hsz⟩
  refine brd (fun hlt => ?_) (fun hge => ?_)
  · have hjl : j < ks.length := by omega
    obtain ⟨ad, hA', q1, q2, q3⟩ := itemV0 (hA.ext KV_pos eu) (x := (j : Int)) (by omega) (by omega)
    rw [Int.toNat_natCast] at q1 q2 q3
    obtain ⟨hrv, hsv⟩ := hr _ (getD_mem hjl)
    have hgv := hg _ (getD_mem hjl)
    have hord : ordL desc ks (j + 1) = ordL desc ks j ++ [⟨(keyR [ks.getD j V0] [desc]).1, [textV (letter j)]⟩] := rfl
    generalize ks.getD j V0 = v at *
    have wj : IntKind.i64.wrap ((j : Int) + 1) = ((j + 1 : Nat) : Int) := by rw [wi _ (by omega) (by omega)]; rfl
    rw [wj]
    simp only [Int.toNat_natCast]
    refine ⟨ad, hA', ⟨by omega, by omega⟩, _, q1, _, q2, _, q3, ?_⟩
    intro gv u1 fv
    refine ⟨okV3 fv.blk _ _ _, ?_⟩
    intro u2 hu2
    have bv := setV3 fv.blk (.int .u8 v.k) (.int .i64 v.n) (.string v.s)
    have e02 : Ext u u2 := by rw [hu2]; exact fv.ext.setAll fv.ge _ _
    rw [← hu2] at bv
    have ed : Ext u2 u2.drew := Fr.drew NoB u2
    have hl8 := letter_size j (by omega)
    have hl8' : (letter j).size ≤ 100 := by omega
    have add : ∀ {u3 ga gb : _}, Ext u u3 → OwnK KV u3 (some ⟨ga, 0, none⟩) 1 [v] → OwnK KV u3 (some ⟨gb, 0, none⟩) 1 [textV (letter j)] →
        CallsV Try.prog 18 #[.pointer (some ⟨g, 0, none⟩), .slice (some ⟨ga, 0, none⟩) 1 1, .slice (some ⟨gb, 0, none⟩) 1 1] u3 fun r w' => r = .int .i64 0 ∧ ∃ L' lc', Sor (fun k => w1.heap.size ≤ k) w' g L' lc' D dc ⟨[desc], dist, ordL desc ks (j + 1), false, 0⟩ ∧ Ext w w' ∧ w1.heap.size ≤ w'.heap.size := by
      intro u3 ga gb e3 oa ob
      have h3 := hu.ext e3
      have hs3 := Nat.le_trans hsz e3.size
      refine (Add_spec h3 (fun k hk => Nat.le_trans hs3 hk) (oa.imm KV_pos) (ob.imm KV_pos) (fun x hx => by rw [List.mem_singleton.1 hx]; exact hgv) (fun x hx => by rw [List.mem_singleton.1 hx]; exact good_text _ (by omega)) (by simp [maxLen]) (by simp [maxLen])).mono ?_
      rintro _ u4 ⟨rfl, hm⟩
      have hE : addE ⟨[desc], dist, ordL desc ks j, false, 0⟩ [v] [textV (letter j)] = 0 := addE_small rfl (SmallR.cons hrv hsv SmallR.nil (by decide)) rfl (SmallR.cons (right_text _ hl8') hl8' SmallR.nil (by decide)) (by rw [ordL_length]; omega)
      have hem := hm.ext h3 (eu.trans' e3) (fun k hk => Nat.le_trans hb1 hk)
      obtain ⟨L', lc', h4, hf4, _⟩ := hm
      rw [addS, if_pos hE, ← hord] at h4
      exact ⟨by rw [hE], L', lc', h4, hem, Nat.le_trans hs3 hf4.size⟩
    have fin : ∀ (r : Value) (w' : World), (r = .int .i64 0 ∧ ∃ L' lc', Sor (fun k => w1.heap.size ≤ k) w' g L' lc' D dc ⟨[desc], dist, ordL desc ks (j + 1), false, 0⟩ ∧ Ext w w' ∧ w1.heap.size ≤ w'.heap.size) →
        ∃ x, r = .int .i64 x ∧ (bif !decide (x = 0) then (Value.string (ByteArray.mk #[63]) = .string (cat' (ByteArray.mk #[]) (sorted' ⟨[desc], dist, ordL desc ks ks.length, false, 0⟩)) ∧ Ext w w') else
          (∃ (j' : Nat) (L : Option Addr) (lc : Nat), j' ≤ ks.length ∧ ((j + 1 : Nat) : Int) = (j' : Int) ∧ Sor (fun k => w1.heap.size ≤ k) w' g L lc D dc ⟨[desc], dist, ordL desc ks j', false, 0⟩ ∧ Ext w w' ∧ w1.heap.size ≤ w'.heap.size) ∧ ((ks.length : Int) - ((j + 1 : Nat) : Int)).toNat < ((ks.length : Int) - (j : Int)).toNat) := by
      rintro _ w' ⟨rfl, L', lc', h4, hem, hs4⟩
      exact ⟨_, rfl, brn (fun h => absurd rfl h) (fun _ => ⟨⟨j + 1, L', lc', by omega, rfl, h4, hem, hs4⟩, by omega⟩)⟩
    have hc8 : (↑(ByteArray.size (ByteArray.mk #[65, 66, 67, 68, 69, 70, 71, 72])) : Int) = 8 := rfl
    refine ⟨fun z => Ext u2 z, ed, _, fun z hz => (bv.ext hz).cell rfl, _, fun z hz => (bv.ext hz).cell rfl, _, fun z hz => (bv.ext hz).cell rfl, ⟨by omega, by rw [hc8]; omega⟩, ⟨by omega, by omega⟩, ?_, ?_⟩
    · intro ga u3 fa
      refine (text_spec u3 _).mono ?_
      rintro _ u4 ⟨rfl, e4⟩
      refine ⟨_, _, _, rfl, ?_⟩
      intro gb u5 fb
      have oa : OwnK KV u5 _ 1 [v] := ((freshRow fa [v] (by simp [maxLen]) rfl).ext e4).ext fb.ext
      have ob : OwnK KV u5 _ 1 [textV (letter j)] := freshRow fb [textV (letter j)] (by simp [maxLen]) rfl
      exact (add (e02.trans' (ed.trans' (fa.ext.trans' (e4.trans' fb.ext)))) oa ob).mono fin
    · refine (text_spec _ _).mono ?_
      rintro _ u3 ⟨rfl, e3⟩
      have e3' := ed.trans' e3
      refine ⟨_, _, _, rfl, e3', ?_, ?_⟩
      · intro ga u4 fa
        intro gb u5 fb
        have oa : OwnK KV u5 _ 1 [v] := (freshRow fa [v] (by simp [maxLen]) rfl).ext fb.ext
        have ob : OwnK KV u5 _ 1 [textV (letter j)] := freshRow fb [textV (letter j)] (by simp [maxLen]) rfl
        exact (add (e02.trans' (e3'.trans' (fa.ext.trans' fb.ext))) oa ob).mono fin
      · intro gb u4 fb
        refine ⟨e3'.trans' fb.ext, ?_⟩
        intro ga u5 fa
        have ob : OwnK KV u5 _ 1 [textV (letter j)] := (freshRow fb [textV (letter j)] (by simp [maxLen]) rfl).ext fa.ext
        have oa : OwnK KV u5 _ 1 [v] := freshRow fa [v] (by simp [maxLen]) rfl
        exact (add (e02.trans' (e3'.trans' (fb.ext.trans' fa.ext))) oa ob).mono fin
  · obtain rfl : j = ks.length := by omega
    refine (Sort_spec hu (fun k hk => Nat.le_trans hsz hk)).mono ?_
    rintro _ u1 ⟨rfl, hm⟩
    have hem := hm.ext hu eu (fun k hk => Nat.le_trans hb1 hk)
    obtain ⟨L', lc', h1, hf1, _⟩ := hm
    refine ⟨_, rfl, brn (fun h => absurd rfl h) (fun _ => ?_)⟩
    have hst : sortS ⟨[desc], dist, ordL desc ks ks.length, false, 0⟩ = ⟨[desc], dist, sorted' ⟨[desc], dist, ordL desc ks ks.length, false, 0⟩, true, 0⟩ := rfl
    rw [hst] at h1
    have hlen := sorted'_len ⟨[desc], dist, ordL desc ks ks.length, false, 0⟩
    refine (all_spec h1 rfl rfl (by dsimp only at hlen ⊢; rw [ordL_length] at hlen; omega) (fun x hx => ordL_one desc ks ks.length hl x (sorted'_mem _ x hx))).mono ?_
    rintro _ u2 ⟨rfl, h2', f2⟩
    exact ⟨_, rfl, rfl, hem.trans f2 (fun _ _ h => h) (fun k hk e => absurd (show w1.heap.size ≤ k by rw [e]; exact h1.rg) (by omega))⟩
end Go.Proofs.Ytakmlaliglmnmaa
