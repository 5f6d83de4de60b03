/- Part 8 of the texts of this claim: the engine, contracts, plain laws. -/
import Derived.Test.YtadlhdiejmilmaaZCFullP7
/- Layer 4: numbers' keys; which numbers are there; a tree gone through from the first to the last one, and back. -/
set_option linter.unusedVariables false
set_option linter.unusedSimpArgs false
namespace Go.Proofs.Ytadlhdiejmilmaa
open Go Go.Sx T4
/-! ## entries, by what they are -/
theorem mem_insE {key val : Key} : ∀ {es : Es}, UpE es → ∀ x, x ∈ insE key val es ↔ x = (key, val) ∨ (x ∈ es ∧ x.1 ≠ key)
  | [], _, x => by simp [insE]
  | (k, v) :: r, hu, x => by
    have hu' : Up (k :: keysE r) := hu
    obtain ⟨h1, h2⟩ := List.pairwise_cons.1 hu'
    have ih := mem_insE (key := key) (val := val) (es := r) h2 x
    have hr : ∀ y ∈ r, lt k y.1 := fun y hy => h1 y.1 (List.mem_map.2 ⟨y, hy, rfl⟩)
    rw [insE]
    split
    · rename_i hlt
      rw [List.mem_cons, ih, List.mem_cons]
      constructor
      · rintro (rfl | h | ⟨h, h'⟩)
        · exact .inr ⟨.inl rfl, fun e => lt_ne hlt e⟩
        · exact .inl h
        · exact .inr ⟨.inr h, h'⟩
      · rintro (h | ⟨rfl | h, h'⟩)
        · exact .inr (.inl h)
        · exact .inl rfl
        · exact .inr (.inr ⟨h, h'⟩)
    · rename_i hlt
      split
      · rename_i he
        subst he
        rw [List.mem_cons, List.mem_cons]
        constructor
        · rintro (h | h)
          · exact .inl h
          · exact .inr ⟨.inr h, fun e => lt_irrefl k (by have := hr x h; rwa [e] at this)⟩
        · rintro (h | ⟨rfl | h, h'⟩)
          · exact .inl h
          · exact absurd rfl h'
          · exact .inr h
      · rename_i hne
        have hk : lt key k := (nlt hlt).resolve_left fun e => hne e.symm
        rw [List.mem_cons, List.mem_cons]
        constructor
        · rintro (h | rfl | h)
          · exact .inl h
          · exact .inr ⟨.inl rfl, hne⟩
          · exact .inr ⟨.inr h, fun e => lt_asymm hk (by have := hr x h; rwa [e] at this)⟩
        · rintro (h | ⟨h, h'⟩)
          · exact .inl h
          · exact .inr h
theorem len_insE (key val : Key) : ∀ es : Es, (insE key val es).length = es.length + if inE key es then 0 else 1
  | [] => rfl
  | (k, v) :: r => by
    have ih := len_insE key val r
    rw [insE]
    unfold inE at *
    rw [getE]
    split
    · rw [List.length_cons, ih, List.length_cons]; omega
    · split
      · simp
      · simp
theorem mem_delE {key : Key} : ∀ {es : Es}, UpE es → ∀ x, x ∈ delE key es ↔ (x ∈ es ∧ x.1 ≠ key)
  | [], _, x => by simp [delE]
  | (k, v) :: r, hu, x => by
    have hu' : Up (k :: keysE r) := hu
    obtain ⟨h1, h2⟩ := List.pairwise_cons.1 hu'
    have ih := mem_delE (key := key) (es := r) h2 x
    have hr : ∀ y ∈ r, lt k y.1 := fun y hy => h1 y.1 (List.mem_map.2 ⟨y, hy, rfl⟩)
    rw [delE]
    split
    · rename_i hlt
      rw [List.mem_cons, ih, List.mem_cons]
      constructor
      · rintro (rfl | ⟨h, h'⟩)
        · exact ⟨.inl rfl, fun e => lt_ne hlt e⟩
        · exact ⟨.inr h, h'⟩
      · rintro ⟨rfl | h, h'⟩
        · exact .inl rfl
        · exact .inr ⟨h, h'⟩
    · rename_i hlt
      split
      · rename_i he
        subst he
        rw [List.mem_cons]
        constructor
        · intro h
          exact ⟨.inr h, fun e => lt_irrefl k (by have := hr x h; rwa [e] at this)⟩
        · rintro ⟨rfl | h, h'⟩
          · exact absurd rfl h'
          · exact h
      · rename_i hne
        have hk : lt key k := (nlt hlt).resolve_left fun e => hne e.symm
        rw [List.mem_cons]
        constructor
        · rintro (rfl | h)
          · exact ⟨.inl rfl, hne⟩
          · exact ⟨.inr h, fun e => lt_asymm hk (by have := hr x h; rwa [e] at this)⟩
        · rintro ⟨h, h'⟩
          exact h
theorem len_delE (key : Key) : ∀ es : Es, (delE key es).length + (if inE key es then 1 else 0) = es.length
  | [] => rfl
  | (k, v) :: r => by
    have ih := len_delE key r
    rw [delE]
    unfold inE at *
    rw [getE]
    split
    · rw [List.length_cons, List.length_cons]; omega
    · split
      · simp
      · simp
theorem inE_mem {key : Key} : ∀ {es : Es}, UpE es → (inE key es = true ↔ ∃ v, (key, v) ∈ es)
  | [], _ => by simp [inE, getE]
  | (k, v) :: r, hu => by
    have hu' : Up (k :: keysE r) := hu
    obtain ⟨h1, h2⟩ := List.pairwise_cons.1 hu'
    have ih := inE_mem (key := key) (es := r) h2
    have hr : ∀ y ∈ r, lt k y.1 := fun y hy => h1 y.1 (List.mem_map.2 ⟨y, hy, rfl⟩)
    unfold inE at *
    rw [getE]
    split
    · rename_i hlt
      rw [ih]
      constructor
      · rintro ⟨u, hu⟩; exact ⟨u, by simp [hu]⟩
      · rintro ⟨u, hu⟩
        rcases List.mem_cons.1 hu with e | hu
        · cases e; exact absurd hlt (lt_irrefl key)
        · exact ⟨u, hu⟩
    · rename_i hlt
      split
      · rename_i he; subst he; simp
      · rename_i hne
        have hk : lt key k := (nlt hlt).resolve_left fun e => hne e.symm
        simp only [Option.isSome_none, Bool.false_eq_true, false_iff]
        rintro ⟨u, hu⟩
        rcases List.mem_cons.1 hu with e | hu
        · cases e; exact hne rfl
        · exact lt_asymm hk (hr _ hu)
/-! ## the first one, the one behind, the one ahead -/
theorem aft_first (es : Es) : aftE [] true es = es[0]? := by
  cases es with
  | nil => rfl
  | cons x r =>
    obtain ⟨k, v⟩ := x
    rw [aftE, if_pos]
    · rfl
    · cases k with
      | nil => exact .inr ⟨rfl, rfl⟩
      | cons b r => exact .inl (by show Go.Lib.compareBytes [] (b :: r) < 0; simp [Go.Lib.compareBytes])
theorem pos_at {es : Es} (hu : UpE es) {j : Nat} {k v : Key} (h : es[j]? = some (k, v)) : pos (keysE es) k = j ∧ has (keysE es) k = true := by
  have hj := (List.getElem?_eq_some_iff.1 h).1
  have hk : (keysE es)[j]? = some k := by simp [keysE, h]
  have hlen : (keysE es).length = es.length := keysE_length es
  have hkj : (keysE es)[j]'(by omega) = k := (List.getElem?_eq_some_iff.1 hk).2
  have hp : pos (keysE es) k = j := by
    refine (pos_unique hu (by omega) (fun i hi hij => ?_) fun i hi hij => ?_).symm
    · have := List.pairwise_iff_getElem.1 hu i j hi (by omega) hij
      rwa [hkj] at this
    · rcases Nat.lt_or_ge j i with h' | h'
      · have := List.pairwise_iff_getElem.1 hu j i (by omega) hi h'
        rw [hkj] at this
        exact lt_asymm this
      · obtain rfl : i = j := by omega
        rw [hkj]; exact lt_irrefl k
  exact ⟨hp, by unfold has; rw [hp, hk]; simp⟩
theorem aft_next {es : Es} (hu : UpE es) {j : Nat} {k v : Key} (h : es[j]? = some (k, v)) : aftE k false es = es[j + 1]? := by
  obtain ⟨h1, h2⟩ := pos_at hu h
  rw [aft_pos hu, h1, h2]; rfl
theorem bef_prev {es : Es} (hu : UpE es) {j : Nat} {k v : Key} (h : es[j]? = some (k, v)) : befE k false es = if j = 0 then none else es[j - 1]? := by
  obtain ⟨h1, h2⟩ := pos_at hu h
  rw [bef_pos hu, h1, h2]; rfl
theorem less_lt : ∀ a b : List UInt8, Op.bytesLess a b = decide (lt a b)
  | [], [] => rfl
  | [], y :: b => by simp [Op.bytesLess, lt, Go.Lib.compareBytes]
  | _ :: _, [] => by simp [Op.bytesLess, lt, Go.Lib.compareBytes]
  | x :: a, y :: b => by
    have ih := less_lt a b
    have hc : Go.Lib.compareBytes (x :: a) (y :: b) = if x < y then -1 else if y < x then 1 else Go.Lib.compareBytes a b := by simp only [Go.Lib.compareBytes]
    rw [Op.bytesLess, ih, Bool.eq_iff_iff, decide_eq_true_eq]
    show _ ↔ Go.Lib.compareBytes (x :: a) (y :: b) < 0
    rw [hc]
    unfold lt
    by_cases h1 : x < y
    · simp [h1]
    · by_cases h2 : y < x
      · have : ¬ x = y := fun e => by subst e; exact h1 h2
        simp [h1, h2, this]
      · have : x = y := by
          rw [UInt8.lt_iff_toNat_lt] at h1 h2
          exact UInt8.toNat_inj.1 (by omega)
        simp [h1, h2, this]
        exact ⟨fun h => of_decide_eq_true h, fun h => decide_eq_true h⟩
/-! ## numbers' keys -/
def setD : List (Int × Nat) → Int → Nat → List (Int × Nat)
  | [], a, v => [(a, v)]
  | (x, u) :: l, a, v => if a = x then (a, v) :: l else (x, u) :: setD l a v
theorem setD_map (a : Int) (v : Nat) : ∀ l, setM (mapE l) a (iv v) = mapE (setD l a v)
  | [] => rfl
  | (x, u) :: l => by
    show (if a = x then (a, iv v) :: mapE l else (x, iv u) :: setM (mapE l) a (iv v)) = mapE (if a = x then (a, v) :: l else (x, u) :: setD l a v)
    split
    · rfl
    · rw [setD_map a v l]; rfl
theorem getT_set (a b : Int) (v : Nat) : ∀ l, getT (setD l a v) b = if b = a then some v else getT l b
  | [] => rfl
  | (x, u) :: l => by
    have ih := getT_set a b v l
    rw [setD]
    split
    · rename_i e; subst e
      show (if b = a then some v else getT l b) = if b = a then some v else if b = a then some u else getT l b
      split <;> rfl
    · rename_i hne
      show (if b = x then some u else getT (setD l a v) b) = if b = a then some v else if b = x then some u else getT l b
      rw [ih]
      by_cases h1 : b = x
      · have : ¬ b = a := fun e => hne (by rw [← e, h1])
        simp [h1]; intro e; exact absurd e.symm hne
      · rw [if_neg h1, if_neg h1]
theorem len_set (a : Int) (v : Nat) : ∀ l, (setD l a v).length = l.length + if (getT l a).isSome then 0 else 1
  | [] => rfl
  | (x, u) :: l => by
    have ih := len_set a v l
    rw [setD]
    show _ = l.length + 1 + if (if a = x then some u else getT l a).isSome then 0 else 1
    split
    · simp
    · rw [List.length_cons, ih]; omega
theorem keyN_inj {n m : Nat} (hn : n < 65536) (hm : m < 65536) (h : keyN n = keyN m) : n = m := by
  simp only [keyN, List.cons.injEq, and_true] at h
  have h1 := congrArg UInt8.toNat h.1
  have h2 := congrArg UInt8.toNat h.2
  simp only [UInt8.toNat_ofNat'] at h1 h2
  omega
/-- what a map says, and what a tree holds -/
structure RelD (D : List (Int × Nat)) (es : Es) : Prop where
  a : ∀ x ∈ es, ∃ n i : Nat, n < 65536 ∧ i < 65536 ∧ x = (keyN n, keyN i) ∧ getT D (n : Int) = some i
  b : ∀ n i : Nat, n < 65536 → getT D (n : Int) = some i → (keyN n, keyN i) ∈ es ∧ i < 65536
  len : D.length = es.length
theorem RelD.nil : RelD [] [] := ⟨fun x h => (by cases h), fun n i _ h => (by cases h), rfl⟩
theorem RelD.has {D : List (Int × Nat)} {es : Es} (h : RelD D es) (hu : UpE es) {n : Nat} (hn : n < 65536) : inE (keyN n) es = (getT D (n : Int)).isSome := by
  rw [Bool.eq_iff_iff, inE_mem hu]
  constructor
  · rintro ⟨v, hv⟩
    obtain ⟨m, i, h1, h2, h3, h4⟩ := h.a _ hv
    have : n = m := keyN_inj hn h1 (congrArg Prod.fst h3)
    subst this
    rw [h4]; rfl
  · intro hs
    cases hg : getT D (n : Int) with
    | none => rw [hg] at hs; cases hs
    | some i => exact ⟨_, (h.b n i hn hg).1⟩
theorem RelD.set {D : List (Int × Nat)} {es : Es} (h : RelD D es) (hu : UpE es) {n i : Nat} (hn : n < 65536) (hi : i < 65536) : RelD (setD D (n : Int) i) (insE (keyN n) (keyN i) es) := by
  refine ⟨fun x hx => ?_, fun m j hm hg => ?_, ?_⟩
  · rcases (mem_insE hu x).1 hx with rfl | ⟨hx, hne⟩
    · exact ⟨n, i, hn, hi, rfl, by rw [getT_set, if_pos rfl]⟩
    · obtain ⟨m, j, h1, h2, rfl, h4⟩ := h.a x hx
      refine ⟨m, j, h1, h2, rfl, ?_⟩
      rw [getT_set, if_neg (fun e => hne (by rw [show m = n by omega])), h4]
  · rw [getT_set] at hg
    rw [mem_insE hu]
    split at hg
    · obtain rfl : m = n := by omega
      cases hg
      exact ⟨.inl rfl, hi⟩
    · rename_i hne
      obtain ⟨h1, h2⟩ := h.b m j hm hg
      exact ⟨.inr ⟨h1, fun e => hne (by rw [keyN_inj hm hn e])⟩, h2⟩
  · rw [len_set, len_insE, h.has hu hn, h.len]
theorem Sole.upE {A : Ar} {H : Nat} {es : Es} (h : Sole A H es) : UpE es := by
  obtain ⟨i, ps, Q, _, T, _⟩ := h.at_
  exact T.tree.up
theorem key_spec (w : World) (n : Nat) (hn : n < 65536) : CallsV Try.prog 18 #[.int .i64 (n : Int)] w fun r w' => ∃ A, r = .slice A (keyN n).length 2 ∧ OwnB w' A 2 (keyN n) ∧ Ext w w' ∧ New w A := by
  refine cardindexlaw04_key.calls okay ?_
  unfold cardindexlaw04_key.W
  refine ⟨by decide, fun g w' f => ?_⟩
  have e1 : IntKind.u8.wrap (Int.fdiv (n : Int) (2 ^ Min.min (Int.toNat 8) 64)) = ((n / 256 % 256 : Nat) : Int) := by
    rw [IntKind.wrap_u8]
    have : (2 : Int) ^ Min.min (Int.toNat 8) 64 = 256 := rfl
    rw [this, Int.fdiv_eq_ediv_of_nonneg _ (by decide)]; omega
  have e2 : IntKind.u8.wrap (n : Int) = ((n % 256 : Nat) : Int) := by rw [IntKind.wrap_u8]; omega
  have hcs : ([.int .u8 (IntKind.u8.wrap (Int.fdiv (n : Int) (2 ^ Min.min (Int.toNat 8) 64))), .int .u8 (IntKind.u8.wrap (n : Int))] : List Value) = (keyN n).map u8 := by
    rw [e1, e2]
    simp only [keyN, List.map_cons, List.map_nil, u8]
    simp only [UInt8.toNat_ofNat']
  rw [hcs] at f
  have e := f.ext
  obtain ⟨rfl, rfl⟩ := f
  exact ⟨_, rfl, ownB_lit (w := w) (l := keyN n) (by simp [keyN, maxLen]), e, New.self w 0 none⟩
/-- what is told, as a loop keeps it -/
def Got (u : World) (x : Option (Key × Key)) (A : Option Addr) (n c : Nat) (B : Option Addr) (m d : Nat) (ok : Bool) : Prop := match x with
  | none => ok = false ∧ n = 0
  | some (k, v) => ok = true ∧ n = k.length ∧ m = v.length ∧ Imm KB NoB u A k ∧ Imm KB NoB u B v
theorem Got.ext {u u' : World} {x : Option (Key × Key)} {A : Option Addr} {n c : Nat} {B : Option Addr} {m d : Nat} {ok : Bool} (h : Got u x A n c B m d ok) (e : Ext u u') : Got u' x A n c B m d ok := by
  cases x with
  | none => exact h
  | some p => obtain ⟨h1, h2, h3, h4, h5⟩ := h; exact ⟨h1, h2, h3, h4.ext KB_pos e, h5.ext KB_pos e⟩
theorem Told.got {w w' : World} {x : Option (Key × Key)} {r : Value} (h : Told w x r w') : ∃ A n c B m d ok, r = .tuple #[.slice A n c, .slice B m d, .bool ok] ∧ Got w' x A n c B m d ok := by
  cases x with
  | none => exact ⟨none, 0, 0, none, 0, 0, false, h, rfl, rfl⟩
  | some p => obtain ⟨k, v⟩ := p; obtain ⟨A, c, B, d, rfl, h2, h3, _⟩ := h; exact ⟨A, _, c, B, _, d, true, rfl, rfl, rfl, rfl, h2.imm0, h3.imm0⟩
/-- the key of the one ahead of a place -/
def prevK (es : Es) (j : Nat) : Key := if j = 0 then [] else (es.getD (j - 1) ([], [])).1
set_option maxHeartbeats 400000 in
theorem walks_spec {w : World} {R M : Nat → Prop} {g : Nat} {A : Ar} (h : Ar1 R M w g A) {H : Nat} {es : Es} (S : Sole A H es) {mb : Nat} {D : List (Int × Nat)} (hm : MapK fI w mb (mapE D)) (hD : RelD D es) (hel : es.length ≤ 1000000) :
    CallsV Try.prog 20 #[.pointer (some ⟨g, 0, none⟩), .map (some mb)] w fun r w' => r = .bool true ∧ Ext w w' := by
  have hu := S.upE
  refine cardindexlaw04_walks.calls okay ?_
  unfold cardindexlaw04_walks.W
  refine (sLen h S).mono ?_
  rintro _ w1 ⟨rfl, e1⟩
  refine ⟨_, rfl, _, _, maplen (hm.ext e1) _, brn (fun h => absurd (by rw [hD.len]) h) fun _ => ?_⟩
  refine (sAfter (h.ext e1) S (key := []) (Imm.nil KB NoB w1 none) 0 true).mono ?_
  rintro _ w2 ⟨ht, e2⟩
  rw [aft_first] at ht
  obtain ⟨A1, n1, c1, B1, m1, d1, ok1, rfl, hg⟩ := ht.got
  refine ⟨_, _, _, _, _, _, _, rfl, ?_⟩
  refine ⟨fun aA an ac x kA kn kc vA vn vc ok u => ∃ j : Nat, j ≤ es.length ∧ x = (j : Int) ∧ Ext w u ∧ an = (prevK es j).length ∧ Imm KB NoB u aA (prevK es j) ∧ Got u es[j]? kA kn kc vA vn vc ok,
    fun _ _ _ x _ _ _ _ _ _ _ _ => (es.length - x).toNat, ⟨0, by omega, rfl, e1.trans' e2, rfl, Imm.nil _ _ _ _, hg⟩, ?_⟩
  rintro aA an ac _ kA kn kc vA vn vc ok u ⟨j, hj, rfl, eu, rfl, hat, hg⟩
  cases hx : es[j]? with
  | some p =>
    obtain ⟨k, v⟩ := p
    rw [hx] at hg
    obtain ⟨rfl, rfl, rfl, hk, hv⟩ := hg
    have hjl := (List.getElem?_eq_some_iff.1 hx).1
    have hmem : (k, v) ∈ es := List.mem_of_getElem? hx
    obtain ⟨n, i, hn, hi, hkv, hgt⟩ := hD.a _ hmem
    obtain ⟨rfl, rfl⟩ : k = keyN n ∧ v = keyN i := by simpa using hkv
    have hkl : (keyN n).length = 2 := rfl
    refine ⟨fun u' => u' = u, ?_, ?_⟩
    · intro u' hu'
      obtain rfl : u = u' := hu'.symm
      obtain ⟨ad, hA, _, cs0, hr0, hv0⟩ := hk 0 (UInt8.ofNat (n / 256)) rfl
      obtain ⟨ad1, hA1, _, cs1, hr1, hv1⟩ := hk 1 (UInt8.ofNat n) rfl
      rw [hA] at hA1; cases hA1
      have hc0 : u.cell? (ad.add (Int.toNat 0 * 1)) = some (u8 (UInt8.ofNat (n / 256))) := hv0 0 _ (by rw [show cs0 = [u8 (UInt8.ofNat (n / 256))] from hr0]; rfl)
      have hc1 : u.cell? (ad.add (Int.toNat 1 * 1)) = some (u8 (UInt8.ofNat n)) := hv1 0 _ (by rw [show cs1 = [u8 (UInt8.ofNat n)] from hr1]; rfl)
      have ed : Ext u u.drew := Fr.drew NoB u
      have hl := ((hm.ext (eu.trans' ed)).look (P := Try.prog) keyI (t := 30) (kt := 3) (et := 3) (by kernel_rfl) (n : Int) (z := .int .i64 0) zeroI).1
      rw [getT_M, hgt] at hl
      refine ⟨ad, hA, ⟨by omega, by rw [hkl]; decide⟩, fun z => Ext u z, ed, _, fun z ez => Ext.cell ez hc0, ad, hA, ⟨by omega, by rw [hkl]; decide⟩, _, fun z ez => Ext.cell ez hc1, (i : Int), true, u.drew, ?_, ed, brnb (fun h => by cases h) fun _ => ?_⟩
      · have a1 : (((UInt8.ofNat (n / 256)).toNat : Nat) : Int) = ((n / 256 : Nat) : Int) := by simp only [UInt8.toNat_ofNat']; omega
        have a2 : (((UInt8.ofNat n).toNat : Nat) : Int) = ((n % 256 : Nat) : Int) := by simp only [UInt8.toNat_ofNat']
        rw [a1, a2, wi ((n / 256 : Nat) : Int) (by omega) (by omega), wi (256 * _) (by omega) (by omega), wi ((n % 256 : Nat) : Int) (by omega) (by omega), wi _ (by omega) (by omega), show (256 : Int) * ((n / 256 : Nat) : Int) + ((n % 256 : Nat) : Int) = (n : Int) by omega]
        exact hl
      · refine (key_spec u.drew i hi).mono ?_
        rintro _ u1 ⟨kA', rfl, ok', e1', _⟩
        refine ⟨_, _, _, rfl, (SameBytes_spec (hv.ext KB_pos (ed.trans' e1')) ok'.imm0).same ⟨_, rfl, brnb (fun h => by simp at h) fun _ => ?_⟩⟩
        have e2' := (eu.trans' ed).trans' e1'
        refine (sAfter (h.ext e2') S (hk.ext KB_pos (ed.trans' e1')) kc false).mono ?_
        rintro _ u2 ⟨ht, e3'⟩
        rw [aft_next hu hx] at ht
        obtain ⟨A3, n3, c3, B3, m3, d3, ok3, rfl, hg3⟩ := ht.got
        have hprev : prevK es (j + 1) = keyN n := by unfold prevK; rw [if_neg (by omega), Nat.add_sub_cancel]; simp [List.getD, hx]
        rw [wi _ (by omega) (by omega)]
        exact ⟨_, _, _, _, _, _, _, rfl, ⟨j + 1, by omega, by omega, e2'.trans' e3', by rw [hprev], by rw [hprev]; exact hk.ext KB_pos ((ed.trans' e1').trans' e3'), hg3⟩, by dsimp only; omega⟩
    · refine brn (fun h => absurd rfl h) fun _ => brd (fun h0 => ?_) (fun _ => rfl)
      refine ⟨_, _, to_str bt hk kc, _, _, to_str bt hat ac, ?_⟩
      have tl : ∀ l : List UInt8, ByteArray.toList ⟨l.toArray⟩ = l := fun l => by rw [ByteArray.toList_eq]
      obtain ⟨j', rfl⟩ : ∃ j', j = j' + 1 := ⟨j - 1, by omega⟩
      obtain ⟨y, hy⟩ : ∃ y, es[j']? = some y := ⟨_, List.getElem?_eq_getElem (by omega)⟩
      have hpk : prevK es (j' + 1) = y.1 := by unfold prevK; rw [if_neg (by omega), Nat.add_sub_cancel]; simp [List.getD, hy]
      have hlt : lt y.1 (keyN n) := by
        have h1 : (keysE es)[j']? = some y.1 := by simp [keysE, hy]
        have h2 : (keysE es)[j' + 1]? = some (keyN n) := by simp [keysE, hx]
        obtain ⟨l1, g1⟩ := List.getElem?_eq_some_iff.1 h1
        obtain ⟨l2, g2⟩ := List.getElem?_eq_some_iff.1 h2
        have := List.pairwise_iff_getElem.1 hu j' (j' + 1) l1 l2 (by omega)
        rwa [g1, g2] at this
      rw [hpk, tl, tl, less_lt, decide_eq_false (lt_asymm hlt)]
      refine brf ?_ rfl
      simp only [Bool.false_or]
      exact beq_false_of_ne fun e => lt_ne hlt e.symm
  | none =>
    rw [hx] at hg
    obtain ⟨rfl, rfl⟩ := hg
    have hjl : j = es.length := by have := List.getElem?_eq_none_iff.1 hx; omega
    subst hjl
    refine ⟨_, _, maplen (hm.ext eu) _, brn (fun h => absurd (by rw [hD.len]) h) fun _ => ?_⟩
    refine (sLast (h.ext eu) S).mono ?_
    rintro _ u2 ⟨ht, eu2⟩
    obtain ⟨A2, n2, c2, B2, m2, d2, ok2, rfl, hg2⟩ := ht.got
    refine ⟨_, _, _, _, _, _, _, rfl, ?_⟩
    refine ⟨fun aA an ac x kA kn kc ok v => ∃ j : Nat, j ≤ es.length ∧ x = (j : Int) ∧ Ext u v ∧ an = (prevK es j).length ∧ Imm KB NoB v aA (prevK es j) ∧ ∃ vA vn vc, Got v (if j = 0 then none else es[j - 1]?) kA kn kc vA vn vc ok,
      fun _ _ _ x _ _ _ _ _ => x.toNat, ⟨es.length, Nat.le_refl _, rfl, eu2, rfl, hat.ext KB_pos eu2, B2, m2, d2, ?_⟩, ?_⟩
    · rw [List.getLast?_eq_getElem?] at hg2
      split
      · rename_i h0; rw [List.eq_nil_of_length_eq_zero h0] at hg2; exact hg2
      · exact hg2
    · rintro aA an ac _ kA kn kc ok v ⟨j, hj, rfl, ev, rfl, hat, vA, vn, vc, hg⟩
      cases j with
      | zero =>
        obtain ⟨rfl, _⟩ : ok = false ∧ kn = 0 := hg
        exact ⟨rfl, eu.trans' ev⟩
      | succ j =>
        obtain ⟨y, hy⟩ : ∃ y, es[j]? = some y := ⟨_, List.getElem?_eq_getElem (by omega)⟩
        obtain ⟨k, v0⟩ := y
        rw [if_neg (by omega), Nat.add_sub_cancel, hy] at hg
        obtain ⟨rfl, rfl, rfl, hk, hv⟩ := hg
        have hpk : prevK es (j + 1) = k := by unfold prevK; rw [if_neg (by omega), Nat.add_sub_cancel]; simp [List.getD, hy]
        refine (SameBytes_spec hk hat).same ⟨_, rfl, brnb (fun h => by rw [hpk] at h; simp at h) fun _ => ?_⟩
        have ewv := eu.trans' ev
        refine (sBefore (h.ext ewv) S hk kc false).mono ?_
        rintro _ v1 ⟨ht, e1'⟩
        rw [bef_prev hu hy] at ht
        obtain ⟨A3, n3, c3, B3, m3, d3, ok3, rfl, hg3⟩ := ht.got
        refine ⟨_, _, _, _, _, _, _, rfl, (sBefore (h.ext (ewv.trans' e1')) S (hk.ext KB_pos e1') kc false).mono ?_⟩
        rintro _ v2 ⟨ht, e2'⟩
        rw [bef_prev hu hy] at ht
        obtain ⟨A4, n4, c4, B4, m4, d4, ok4, rfl, hg4⟩ := ht.got
        refine ⟨_, _, _, _, _, _, _, rfl, ?_⟩
        rw [wi _ (by omega) (by omega)]
        have hnk : n3 = (prevK es j).length ∧ Imm KB NoB v1 A3 (prevK es j) := by
          cases j with
          | zero => rw [if_pos rfl] at hg3; exact ⟨hg3.2, Imm.nil _ _ _ _⟩
          | succ j =>
            obtain ⟨y, hy'⟩ : ∃ y, es[j]? = some y := ⟨_, List.getElem?_eq_getElem (by omega)⟩
            rw [if_neg (by omega), Nat.add_sub_cancel, hy'] at hg3
            have hpk : prevK es (j + 1) = y.1 := by unfold prevK; rw [if_neg (by omega), Nat.add_sub_cancel]; simp [List.getD, hy']
            rw [hpk]
            exact ⟨hg3.2.1, hg3.2.2.2.1⟩
        exact ⟨⟨j, by omega, by omega, (ev.trans' e1').trans' e2', hnk.1, hnk.2.ext KB_pos e2', B4, m4, d4, hg4⟩, by dsimp only; omega⟩
end Go.Proofs.Ytadlhdiejmilmaa
/- Layer 4: an arena that is full. -/
set_option linter.unusedVariables false
set_option linter.unusedSimpArgs false
namespace Go.Proofs.Ytadlhdiejmilmaa
open Go Go.Sx T4
abbrev KI : Kd Int := Kd.int .i64
theorem KI_pos : 0 < KI.size := by decide
theorem itemI {Ω : Nat → Prop} {w : World} {A : Option Addr} {l : List Int} (h : Imm KI Ω w A l) {j : Nat} (hj : j < l.length) : ∃ ad x, A = some ad ∧ w.cell? (ad.add (j * 1)) = some (.int .i64 x) := by
  obtain ⟨ad, hA, _, cs, hr, hv⟩ := h j l[j] (List.getElem?_eq_getElem hj)
  exact ⟨ad, l[j], hA, hv 0 _ (by rw [show cs = [.int .i64 l[j]] from hr]; rfl)⟩
/-- an arena of one tree and the map of what is in it -/
structure Both (w0 : World) (R M : Nat → Prop) (u : World) (g : Nat) (A : Ar) (H : Nat) (es : Es) (mb : Nat) (D : List (Int × Nat)) : Prop where
  hs : Hs w0 R M u g A
  sole : Sole A H es
  map : MapK fI u mb (mapE D)
  off : ¬ R mb
  ge : w0.heap.size ≤ mb
  rel : RelD D es
theorem Both.ext {w0 : World} {R M : Nat → Prop} {u u' : World} {g : Nat} {A : Ar} {H : Nat} {es : Es} {mb : Nat} {D : List (Int × Nat)} (h : Both w0 R M u g A H es mb D) (e : Ext u u') : Both w0 R M u' g A H es mb D :=
  ⟨h.hs.ext e, h.sole, h.map.ext e, h.off, h.ge, h.rel⟩
theorem Both.look {w0 : World} {R M : Nat → Prop} {u : World} {g : Nat} {A : Ar} {H : Nat} {es : Es} {mb : Nat} {D : List (Int × Nat)} (h : Both w0 R M u g A H es mb D) (n : Int) :
    ∃ x, RunsTo Try.prog (Instr.lookup 30 (.map (some mb)) (.int .i64 n) true) u (.tuple #[.int .i64 x, .bool (getT D n).isSome]) u := by
  have hl := (h.map.look (P := Try.prog) keyI (t := 30) (kt := 3) (et := 3) (by kernel_rfl) n (z := .int .i64 0) zeroI).1
  rw [getT_M] at hl
  cases hg : getT D n with
  | none => rw [hg] at hl; exact ⟨_, hl⟩
  | some i => rw [hg] at hl; exact ⟨_, hl⟩
/-- behind a Put that went: the map is told -/
theorem Both.told {w0 : World} {R M R' M' : Nat → Prop} {u u' : World} {g : Nat} {A A' : Ar} {H H' : Nat} {es : Es} {mb : Nat} {D : List (Int × Nat)} (h : Both w0 R M u g A H es mb D) (h' : Ar1 R' M' u' g A') (c : Chg R M u R' M' u') {n i : Nat} (hn : n < 65536) (hi : i < 65536) (S : Sole A' H' (insE (keyN n) (keyN i) es)) :
    ∃ v, RunsTo Try.prog (Instr.mapUpdate 30 (.map (some mb)) (.int .i64 (n : Int)) (.int .i64 (i : Int))) u' () v ∧ Both w0 R' M' v g A' H' (insE (keyN n) (keyN i) es) mb (setD D (n : Int) i) := by
  have hs' := h.hs.chg h' c
  have hmu := h.map.keep c.fr fun hm => h.off (h.hs.ar.mr _ hm)
  have hoff := c.off h.map.lt h.off
  obtain ⟨v, r, m, f⟩ := hmu.update (P := Try.prog) keyI (t := 30) (kt := 3) (et := 3) (by kernel_rfl) (n : Int) (iv i)
  rw [setD_map] at m
  exact ⟨v, r, hs'.frame f fun k e => e ▸ ⟨hoff, h.ge⟩, S, m, hoff, h.ge, h.rel.set h.sole.upE hn hi⟩
theorem Both.walks {w0 : World} {R M : Nat → Prop} {u : World} {g : Nat} {A : Ar} {H : Nat} {es : Es} {mb : Nat} {D : List (Int × Nat)} (h : Both w0 R M u g A H es mb D) (hl : es.length ≤ 1000000) :
    CallsV Try.prog 20 #[.pointer (some ⟨g, 0, none⟩), .map (some mb)] u fun r w' => r = .bool true ∧ Ext u w' := walks_spec h.hs.ar h.sole h.map h.rel hl
theorem len_insE_le (key val : Key) (es : Es) : (insE key val es).length ≤ es.length + 1 := by rw [len_insE]; split <;> omega
set_option maxRecDepth 100000 in
set_option maxHeartbeats 400000 in
theorem TreeFull_spec {Ω : Nat → Prop} {w : World} (fan most : Int) {LA : Option Addr} {lc : Nat} {l : List Int} (hl : Imm KI Ω w LA l) :
    CallsV Try.prog 3 #[.int .i64 fan, .int .i64 most, .slice LA l.length lc] w fun r w' => r = .bool true ∧ Ext w w' := by
  refine cardindexlaw04_TreeFull.calls okay ?_
  unfold cardindexlaw04_TreeFull.W
  refine (Pick_spec w most 40 (by decide) (by decide)).mono ?_
  rintro _ w' ⟨a, rfl, ha, hw'⟩
  obtain rfl : w = w' := hw'.symm
  refine ⟨_, rfl, (Pick_spec _ fan 6 (by decide) (by decide)).mono ?_⟩
  rintro _ w' ⟨b, rfl, hb, hw'⟩
  obtain rfl : w = w' := hw'.symm
  refine ⟨_, rfl, ?_⟩
  rw [wi (4 + (b : Int)) (by omega) (by omega), wi (1 + (a : Int)) (by omega) (by omega), show (4 : Int) + (b : Int) = ((4 + b : Nat) : Int) by omega, show (1 : Int) + (a : Int) = ((1 + a : Nat) : Int) by omega]
  refine (sNew _ (4 + b) (1 + a) (by omega) (by omega) (by omega) (by omega)).mono ?_
  rintro _ w1 ⟨g, R, M, rfl, _, _, _, hcr⟩
  refine ⟨_, _, rfl, hcr.mono ?_⟩
  rintro _ w2 ⟨rfl, R2, M2, h2, e2, hR2⟩
  have S2 := (sole_new (fan := 4 + b) (most := 1 + a) (by omega) (by omega) (by omega) (by omega)).2
  refine ⟨_, _, rfl, brn (fun h => absurd rfl h) fun _ => brn (fun h => absurd rfl h) fun _ => ⟨_, _, makeMap_run _ _, ?_⟩⟩
  generalize hw3 : w2.alloc (.map #[] 0) = w3
  have e3 : Ext w2 w3 := by rw [← hw3]; exact Fr.alloc NoB w2 _
  have hm3 : MapK fI w3 w2.heap.size (mapE []) := by rw [← hw3]; exact ⟨#[], 0, Go.heap_alloc_new w2 _, rfl⟩
  have B3 : Both _ R2 M2 w3 g (mkT (A0 (4 + b) (1 + a))) 1 [] w2.heap.size [] := ⟨⟨h2.ext e3, e2.trans' e3, hR2⟩, S2, hm3, fun h => by have := h2.lt _ h; omega, e2.size, .nil⟩
  have aw : ∀ {u : World} {R M : Nat → Prop} {A : Ar} {H : Nat} {es : Es} {D : List (Int × Nat)}, Both w R M u g A H es w2.heap.size D → es.length ≤ 1000 → CallsV Try.prog 20 #[.pointer (some ⟨g, 0, none⟩), .map (some w2.heap.size)] u fun v w' => ∃ x, v = .bool x ∧ bif x then CallsV Try.prog 21 #[] w' fun v w' => ∃ x, v = .bool x ∧ ((fun r w' => r = Value.bool true ∧ Ext w w') (.bool x) w') else ((fun r w' => r = Value.bool true ∧ Ext w w') (.bool false) w') := by
    intro u R M A H es D hB hl
    refine (hB.walks (by omega)).mono ?_
    rintro _ u1 ⟨rfl, e1⟩
    refine ⟨true, rfl, (awake_spec u1).mono ?_⟩
    rintro _ u2 ⟨rfl, e2⟩
    exact ⟨true, rfl, rfl, (hB.hs.e.trans' e1).trans' e2⟩
  refine ⟨fun x u => ∃ j : Nat, j ≤ l.length ∧ j ≤ 300 ∧ x = (j : Int) ∧ ∃ A H es R M D, Both w R M u g A H es w2.heap.size D ∧ A.most = 1 + a ∧ es.length ≤ j, fun x _ => (300 - x).toNat, ⟨0, by omega, by omega, rfl, _, _, _, _, _, _, B3, rfl, by simp⟩, ?_⟩
  rintro _ u ⟨j, hj, hj3, rfl, A, H, es, R, M, D, hB, hm, hlen⟩
  have awB := aw hB (by omega)
  refine brd (fun hlt => brd (fun hlt3 => ?_) (fun _ => awB)) (fun _ => awB)
  obtain ⟨ad, x, hA, hc⟩ := itemI (hl.ext KI_pos hB.hs.e) (j := j) (by omega)
  refine ⟨ad, hA, ⟨by omega, by omega⟩, x, by rw [Int.toNat_natCast]; exact hc, (Pick_spec u x 1000 (by decide) (by decide)).mono ?_⟩
  rintro _ _ ⟨n, rfl, hn, rfl⟩
  obtain ⟨x0, hx0⟩ := hB.look (n : Int)
  refine ⟨_, rfl, _, _, _, hx0, (sNodes hB.hs.ar hB.sole).mono ?_⟩
  rintro _ u1 ⟨rfl, rfl⟩
  have hB := hB.ext (Fr.drew NoB _)
  refine ⟨_, rfl, (sDeep hB.hs.ar hB.sole).mono ?_⟩
  rintro _ u2 ⟨rfl, e2'⟩
  have hB := hB.ext e2'
  refine ⟨_, rfl, (key_spec u2 n (by omega)).mono ?_⟩
  rintro _ u3 ⟨KA, rfl, oK, e3', _⟩
  have hB := hB.ext e3'
  refine ⟨_, _, _, rfl, (key_spec u3 j (by omega)).mono ?_⟩
  rintro _ u4 ⟨VA, rfl, oV, e4', _⟩
  have hB := hB.ext e4'
  refine ⟨_, _, _, rfl, (sPut hB.hs.ar hB.sole (oK.ext e4').imm0 oV.imm0 2 2 (show 2 ≤ 1048576 by decide) (show 2 ≤ 1048576 by decide)).mono ?_⟩
  rintro _ u5 ⟨A', R', M', full, h', c, hf', hm', rfl, hfull, hnot⟩
  refine ⟨_, _, rfl, fun v => ∃ A H es R M D, Both w R M v g A H es w2.heap.size D ∧ A.most = 1 + a ∧ es.length ≤ j + 1, ?_, ?_⟩
  · rintro v ⟨A, H, es, R, M, D, hB, hm, hlen⟩
    obtain ⟨_, _, _, _, _, _, hle, _⟩ := hB.sole.at_
    refine (sNodes hB.hs.ar hB.sole).mono ?_
    rintro _ _ ⟨rfl, rfl⟩
    have hB := hB.ext (Fr.drew NoB _)
    refine ⟨_, rfl, brd (fun h => absurd h (by omega)) fun _ => (sCheck hB.hs.ar hB.sole).mono ?_⟩
    rintro _ v2 ⟨rfl, ev2⟩
    have hB := hB.ext ev2
    refine ⟨_, rfl, brn (fun h => absurd rfl h) fun _ => ?_⟩
    rw [wi _ (by omega) (by omega)]
    exact ⟨⟨j + 1, by omega, by omega, by omega, A, H, es, _, _, D, hB, hm, hlen⟩, by dsimp only; omega⟩
  · cases full with
    | false =>
      obtain ⟨H', S'⟩ := hnot rfl
      obtain ⟨v, hr, hB'⟩ := hB.told h' c (n := n) (i := j) (by omega) (by omega) S'
      refine brd (fun _ => ⟨v, hr, A', H', _, _, _, _, hB', hm'.trans hm, ?_⟩) fun h => absurd rfl h
      have := len_insE_le (keyN n) (keyN j) es
      omega
    | true =>
      obtain ⟨rfl, hin, hroom⟩ := hfull rfl
      have hB' : Both w R' M' u5 g A' H es w2.heap.size D := ⟨hB.hs.chg h' c, hB.sole, hB.map.keep c.fr fun hm => hB.off (hB.hs.ar.mr _ hm), c.off hB.map.lt hB.off, hB.ge, hB.rel⟩
      have hup := hB.sole.up
      obtain ⟨_, _, _, _, _, hm64, hle, _⟩ := hB.sole.at_
      refine brd (fun h => by cases h) fun _ => brn (fun h => absurd rfl h) fun _ => br (fun hs => ?_) fun _ => brd (fun h => ?_) fun _ => ?_
      · rw [hB.rel.has hB.sole.upE (by omega)] at hin
        rw [hin] at hs; cases hs
      · rw [wi ((A'.nodes : Int) + _) (by omega) (by omega), wi _ (by omega) (by omega)] at h
        omega
      · refine (sNodes hB'.hs.ar hB'.sole).mono ?_
        rintro _ _ ⟨rfl, rfl⟩
        have hB' := hB'.ext (Fr.drew NoB _)
        refine ⟨_, rfl, brn (fun h => absurd rfl h) fun _ => (sDeep hB'.hs.ar hB'.sole).mono ?_⟩
        rintro _ u7 ⟨rfl, e7⟩
        exact ⟨_, rfl, brn (fun h => absurd rfl h) fun _ => ⟨_, _, _, _, _, _, hB'.ext e7, hm, by omega⟩⟩
end Go.Proofs.Ytadlhdiejmilmaa
