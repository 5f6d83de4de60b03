/- Part 9 of the texts of this claim: the engine, contracts, plain laws. -/
import Derived.Test.YthfagbfllheneaaZCApart6P8
import Derived.Test.YthfagbfllheneaaZCApart6P7
import Derived.Test.YthfagbfllheneaaZCApart6P3
set_option linter.unusedVariables false
set_option linter.unusedSimpArgs false
namespace Go.Proofs.Ythfagbfllheneaa
open Go Go.Sx T4
structure Op6 where
  kind : Int
  which : Int
  n : Int
  how : Int
  key : Key
  val : Key
def KOp6 : Kd Op6 := ⟨6, fun Ω w o cs => ∃ a b, cs = [.int .i64 o.kind, .int .i64 o.which, .int .i64 o.n, .int .u8 o.how, a, b] ∧ KBs.rep Ω w o.key [a] ∧ KBs.rep Ω w o.val [b], fun ⟨_, _, h, _⟩ => by simp [h], fun ⟨a, b, h, h1, h2⟩ st => ⟨a, b, h, KBs.keep h1 st, KBs.keep h2 st⟩⟩
structure OpC6 (w : World) (o : Op6) (ad : Addr) (KA : Option Addr) (kc : Nat) (VA : Option Addr) (vc : Nat) : Prop where
  c0 : w.cell? (ad.add 0) = some (.int .i64 o.kind)
  c1 : w.cell? (ad.add 1) = some (.int .i64 o.which)
  c2 : w.cell? (ad.add 2) = some (.int .i64 o.n)
  c3 : w.cell? (ad.add 3) = some (.int .u8 o.how)
  c4 : w.cell? (ad.add 4) = some (.slice KA o.key.length kc)
  c5 : w.cell? (ad.add 5) = some (.slice VA o.val.length vc)
  k : Imm KB NoB w KA o.key
  v : Imm KB NoB w VA o.val
theorem OpC6.ext {w w' : World} {o : Op6} {ad : Addr} {KA : Option Addr} {kc : Nat} {VA : Option Addr} {vc : Nat} (h : OpC6 w o ad KA kc VA vc) (e : Ext w w') : OpC6 w' o ad KA kc VA vc :=
  ⟨Ext.cell e h.c0, Ext.cell e h.c1, Ext.cell e h.c2, Ext.cell e h.c3, Ext.cell e h.c4, Ext.cell e h.c5, h.k.ext KB_pos e, h.v.ext KB_pos e⟩
theorem opC6 {Ω : Nat → Prop} {w : World} {A : Option Addr} {l : List Op6} (h : Imm KOp6 Ω w A l) {j : Nat} (hj : j < l.length) : ∃ ad KA kc VA vc, A = some ad ∧ OpC6 w l[j] (ad.add (j * 6)) KA kc VA vc := by
  obtain ⟨ad, hA, _, cs, ⟨a, b, rfl, h1, h2⟩, hc⟩ := h j l[j] (List.getElem?_eq_getElem hj)
  obtain ⟨KA, kc, e1, l1, i1⟩ := h1
  obtain ⟨VA, vc, e2, l2, i2⟩ := h2
  simp at e1 e2
  subst e1; subst e2
  exact ⟨ad, KA, kc, VA, vc, hA, by rw [add_add]; exact hc 0 _ rfl, by rw [add_add]; exact hc 1 _ rfl, by rw [add_add]; exact hc 2 _ rfl, by rw [add_add]; exact hc 3 _ rfl, by rw [add_add]; exact hc 4 _ rfl, by rw [add_add]; exact hc 5 _ rfl, i1.sub KB_pos fun _ _ h => h.elim, i2.sub KB_pos fun _ _ h => h.elim⟩
end Go.Proofs.Ythfagbfllheneaa
set_option linter.unusedVariables false
set_option linter.unusedSimpArgs false
namespace Go.Proofs.Ythfagbfllheneaa
open Go Go.Sx T4
/-! ## bytes turned about -/
def fl (b : UInt8) : UInt8 := UInt8.ofNat (255 - b.toNat)
theorem fl_nat (b : UInt8) : (fl b).toNat = 255 - b.toNat := u8_of (by omega)
theorem fl_fl (b : UInt8) : fl (fl b) = b := UInt8.toNat_inj.1 (by rw [fl_nat, fl_nat]; have := u8_lt b; omega)
theorem flip8' : ∀ n : Fin 256, IntKind.u8.wrap ((BitVec.toNat (BitVec.ofInt 8 ((n.val : Nat) : Int) ^^^ BitVec.ofInt 8 255) : Nat) : Int) = ((255 - n.val : Nat) : Int) := by decide +kernel
theorem flip8 (b : UInt8) : IntKind.u8.wrap ((BitVec.toNat (BitVec.ofInt 8 (b.toNat : Int) ^^^ BitVec.ofInt 8 255) : Nat) : Int) = (((fl b).toNat : Nat) : Int) := by
  rw [fl_nat]; exact flip8' ⟨b.toNat, b.toNat_lt⟩
def flipL (l : List UInt8) (j : Nat) : List UInt8 := (l.take j).map fl ++ l.drop j
theorem flipL_0 (l : List UInt8) : flipL l 0 = l := by simp [flipL]
theorem flipL_len (l : List UInt8) (j : Nat) (hj : j ≤ l.length) : (flipL l j).length = l.length := by simp [flipL]; omega
theorem flipL_cons {l : List UInt8} {j : Nat} (hj : j < l.length) : flipL l j = (l.take j).map fl ++ l[j] :: l.drop (j + 1) := by rw [flipL, List.drop_eq_getElem_cons hj]
theorem flipL_get {l : List UInt8} {j : Nat} (hj : j < l.length) : (flipL l j)[j]? = some l[j] := by
  have h : ((l.take j).map fl).length = j := by simp; omega
  rw [flipL_cons hj, List.getElem?_append_right (by omega), h, Nat.sub_self]; rfl
theorem flipL_set {l : List UInt8} {j : Nat} (hj : j < l.length) : (flipL l j).set j (fl l[j]) = flipL l (j + 1) := by
  have h : ((l.take j).map fl).length = j := by simp; omega
  rw [flipL_cons hj, List.set_append_right _ _ (by omega), h, Nat.sub_self]
  show (l.take j).map fl ++ fl l[j] :: l.drop (j + 1) = (l.take (j + 1)).map fl ++ l.drop (j + 1)
  rw [List.take_succ_eq_append_getElem hj, List.map_append, List.append_assoc]; rfl
theorem flipStep {u0 u : World} {A : Option Addr} {c : Nat} {l : List UInt8} {j : Nat} (hO : OwnB u A c (flipL l j)) (hN : New u0 A) (e : Ext u0 u) (hj : j < l.length) : ∃ ad, A = some ad ∧ u.cell? (ad.add (j * 1)) = some (.int .u8 ((l[j]).toNat : Int)) ∧ stOK (ad.add (j * 1)) 0 [.int .u8 ((fl l[j]).toNat : Int)] u ∧
    ∀ u', u' = setAll (ad.add (j * 1)) 0 [.int .u8 ((fl l[j]).toNat : Int)] u → OwnB u' A c (flipL l (j + 1)) ∧ Fr (ownB A) u u' ∧ Ext u0 u' := by
  have hjl : j < (flipL l j).length := by rw [flipL_len l j (by omega)]; exact hj
  obtain ⟨g, hA, h1, h2, h3⟩ := Own.at_ hO (j := j) (by omega)
  obtain ⟨ad, hA', hc⟩ := hO.imm0.byte hjl
  obtain rfl : ad = ⟨g, 0, none⟩ := by rw [hA] at hA'; exact (Option.some.inj hA').symm
  have hg := flipL_get hj
  rw [List.getElem?_eq_getElem hjl] at hg
  rw [Option.some.inj hg] at hc
  have ea : ((⟨g, 0, none⟩ : Addr).add (j * 1)) = ⟨g, j, none⟩ := by rw [Nat.mul_one, add_new, Nat.zero_add]
  refine ⟨_, hA, hc, by rw [ea]; exact ⟨h1, h2⟩, fun w' hw => ?_⟩
  rw [ea] at hw
  subst hw
  obtain ⟨q1, q2⟩ := h3 (u8 (fl l[j]))
  refine ⟨?_, q2, e.trans q2 (fun _ _ h => h) fun k hk ho => by have := hN k ho; omega⟩
  rw [← flipL_set hj]
  unfold OwnB
  rw [List.length_set, List.map_set]
  exact q1
def OwnE (w : World) (A : Option Addr) (c : Nat) (l : List UInt8) : Prop := l = [] ∨ OwnB w A c l
theorem OwnE.own {w : World} {A : Option Addr} {c : Nat} {l : List UInt8} (h : OwnE w A c l) (hl : l ≠ []) : OwnB w A c l := h.resolve_left hl
theorem OwnE.keep {w w' : World} {A : Option Addr} {c : Nat} {l : List UInt8} {S : Nat → Prop} (h : OwnE w A c l) (f : Fr S w w') (hn : ∀ k, ownB A k → ¬ S k) : OwnE w' A c l := h.imp id fun h => OwnB.keep h f hn
section
variable {w u : World} {T C : Nat → Prop} {s g : Nat} {A : Ar} {D : List Tr} {k : Option Key} {es : Es}
theorem getE_mem {key v : Key} : ∀ {es : Es}, getE key es = some v → (key, v) ∈ es
  | [], h => by cases h
  | (k, x) :: r, h => by
    rw [getE] at h
    split at h
    · exact List.mem_cons_of_mem _ (getE_mem h)
    · split at h
      · rename_i h1 h2; subst h2; cases h; exact List.mem_cons_self ..
      · cases h
def oneX (es : Es) (k : Option Key) : Int := match atX [(1, es)] 1 k with
  | some ([b], _) => (b.toNat : Int)
  | _ => -1
theorem at_one {l : List Bool} (hT : HasT es l) : atX [(1, es)] 1 k = none ∨ ∃ b v, k = some [b] ∧ atX [(1, es)] 1 k = some ([b], v) ∧ ([b], v) ∈ es := by
  cases k with
  | none => exact .inl rfl
  | some key =>
    cases hg : getE key es with
    | none => exact .inl (by show (getE key es).map _ = none; rw [hg]; rfl)
    | some v =>
      have hin : inE key es = true := by unfold inE; rw [hg]; rfl
      obtain ⟨v', hv'⟩ := (inE_mem hT.up).1 hin
      obtain ⟨b, hb⟩ := hT.one _ hv'
      have hb : key = [b] := hb
      subst hb
      refine .inr ⟨b, v, rfl, by show (getE [b] es).map _ = _; rw [hg]; rfl, ?_⟩
      exact getE_mem hg
theorem oneX_spec {l : List Bool} (hT : HasT es l) (H : Gs w u T C s A D es) (hc : Cur (OC T C) u g s 1 k) : CallsV Try.prog 56 #[.pointer (some ⟨g, 0, none⟩)] u fun r u' => r = .int .i64 (oneX es k) ∧ Ext u u' := by
  rcases at_one (k := k) hT with h | ⟨b, v, rfl, h, _⟩
  · refine (one_none H hc h).mono fun r u' ⟨h1, h2⟩ => ⟨?_, h2⟩
    unfold oneX; rw [h]; exact h1
  · refine (one_spec H hc h).mono fun r u' ⟨h1, h2⟩ => ⟨?_, h2⟩
    unfold oneX; rw [h]; exact h1
theorem key_spec {l : List Bool} (hT : HasT es l) (H : Gs w u T C s A D es) (hc : Cur (OC T C) u g s 1 k) : CallsV Try.prog 65 #[.pointer (some ⟨g, 0, none⟩)] u fun r u' => Ext u u' ∧ ∃ B c, r = .slice B ((atX [(1, es)] 1 k).elim [] (fun p => p.1)).length c ∧ OwnE u' B c ((atX [(1, es)] 1 k).elim [] (fun p => p.1)) ∧ New u B := by
  refine (cKey H.sto hc).mono ?_
  rintro r u1 ⟨e, hr⟩
  replace hr : match atX (foD D) 1 k with
    | none => r = .slice none 0 0
    | some (key, _) => ∃ A c, r = .slice A key.length c ∧ OwnB u1 A c key ∧ New u A := hr
  rw [H.fo] at hr
  refine ⟨e, ?_⟩
  cases hx : atX [(1, es)] 1 k with
  | none => rw [hx] at hr; exact ⟨none, 0, hr, .inl rfl, New.none _⟩
  | some p => rw [hx] at hr; obtain ⟨B, c, h1, h2, h3⟩ := hr; exact ⟨B, c, h1, .inr h2, h3⟩
theorem value_spec {l : List Bool} (hT : HasT es l) (H : Gs w u T C s A D es) (hc : Cur (OC T C) u g s 1 k) : CallsV Try.prog 66 #[.pointer (some ⟨g, 0, none⟩)] u fun r u' => Ext u u' ∧ ∃ B c, r = .slice B ((atX [(1, es)] 1 k).elim [] (fun p => p.2)).length c ∧ OwnE u' B c ((atX [(1, es)] 1 k).elim [] (fun p => p.2)) ∧ New u B := by
  refine (cValue H.sto hc).mono ?_
  rintro r u1 ⟨e, hr⟩
  replace hr : match atX (foD D) 1 k with
    | none => ∃ c, r = .slice none 0 c
    | some (_, v) => ∃ A c, r = .slice A v.length c ∧ OwnB u1 A c v ∧ New u A := hr
  rw [H.fo] at hr
  refine ⟨e, ?_⟩
  cases hx : atX [(1, es)] 1 k with
  | none => rw [hx] at hr; obtain ⟨c, h1⟩ := hr; exact ⟨none, c, h1, .inl rfl, New.none _⟩
  | some p => rw [hx] at hr; obtain ⟨B, c, h1, h2, h3⟩ := hr; exact ⟨B, c, h1, .inr h2, h3⟩
end
def Apt (w u : World) (T : Nat → Prop) (s g gt g2 : Nat) (A : Ar) (D : List Tr) (es : Es) (kd : Option Key) : Prop :=
  Gs w u T (C3 g gt g2) s A D es ∧ (∃ kc, Cur (OC T (C3 g gt g2)) u g s 1 kc) ∧ Cur (OC T (C3 g gt g2)) u g2 s 1 kd
set_option maxRecDepth 10000 in
set_option maxHeartbeats 1000000 in
theorem CursorApart_spec {Ω Ω2 : Nat → Prop} {w : World} {KA OA : Option Addr} {kc oc : Nat} {keys : List UInt8} {ops : List Op6} (iK : Imm KB Ω w KA keys) (hkc : keys.length ≤ kc) (iO : Imm KOp6 Ω2 w OA ops) :
    CallsV Try.prog 14 #[.slice KA keys.length kc, .slice OA ops.length oc] w fun r w' => r = .bool true ∧ Ext w w' := by
  refine cardindexlaw06_CursorApart.calls okay ?_
  unfold cardindexlaw06_CursorApart.W
  refine (grown_spec iK hkc).mono ?_
  rintro _ w1 ⟨s, g, T, A, D, es, l, rfl, G, hc, hT, hvals⟩
  refine ⟨_, _, _, _, rfl, ?_⟩
  intro gt w2 f2
  refine ⟨l, ⟨rfl, hT.len⟩, ?_⟩
  have p := putAll (vs := l.map Value.bool) f2.blk (by rw [List.length_map, List.length_map, List.length_replicate, hT.len])
  refine ⟨p.1, fun w3 hw3 => ?_⟩
  obtain ⟨q1, q2⟩ := p.2 w3 hw3
  have hgl := (hc NoB).lt
  have hgt := f2.ge
  have e3 : Ext w1 w3 := f2.ext.trans q2 (fun _ _ h => h) (fun k hk e => by have e : k = gt := e; omega)
  have hgw : w.heap.size ≤ gt := Nat.le_trans G.e.size hgt
  have hzT : ¬ T gt := fun h => by have := G.sto.lt gt h; omega
  have G3 := (G.ext e3).add hgw q1.lt hzT
  refine (cNew G3.sto 1).mono ?_
  rintro r w4 ⟨e4, ⟨_, g2, rfl, hg2, hc2⟩ | ⟨hno, _⟩⟩
  rotate_left
  · exact absurd (gsIds G3) hno
  have hne2 : g2 ≠ g := by have := e3.size; omega
  have G4 : Gs w w4 T (C3 g gt g2) s A D es := (G3.ext e4).add (Nat.le_trans G3.e.size hg2) (hc2 NoB).lt (fun h => by have := G3.sto.lt g2 h; omega)
  have C0 : Cur (OC T (C3 g gt g2)) w4 g s 1 none := ((hc _).ext e3).ext e4
  have D0 : Cur (OC T (C3 g gt g2)) w4 g2 s 1 none := hc2 _
  clear hc hc2 G G3 p q1 q2 e3 e4 hzT f2 hgl hgt hgw
  have cg : C3 g gt g2 g := .inl (.inl rfl)
  have cd : C3 g gt g2 g2 := .inr rfl
  refine ⟨_, _, rfl, brnb (fun h => by cases h) fun _ => brn (fun h => absurd rfl h) fun _ => brd (fun _ => ?_) (fun hk0 => ?_)⟩
  · refine (awake6_spec w4).mono ?_
    rintro _ w5 ⟨rfl, e5⟩
    exact ⟨_, rfl, rfl, G4.e.trans' e5⟩
  have hpos : 0 < keys.length := by omega
  have hcut : (keys.take 1).drop 0 = [keys[0]] := by rw [List.drop_zero, List.take_one]; cases keys with | nil => simp at hpos | cons a r => rfl
  have iC : Imm KB Ω w (cutAt KA kc 0 1) [keys[0]] := by
    have := iK.cut (lo := 0) (hi := 1) (m := kc) (by omega)
    rw [hcut] at this; exact this
  refine ⟨⟨by omega, by omega⟩, (gSeek G4 D0 cd (x := aftE [keys[0]] true es) (how := 1) (key := [keys[0]]) rfl (iC.ext KB_pos G4.e) (kc - 0)).mono ?_⟩
  rintro _ w5 ⟨rfl, G5, D5, f5⟩
  have C5 := C0.other f5 hne2.symm (.inr cd)
  generalize ((aftE [keys[0]] true es).map fun p => p.1) = kd at D5
  refine ⟨_, rfl, (oneX_spec hT G5 D5).mono ?_⟩
  rintro _ w6 ⟨rfl, e6⟩
  refine ⟨_, rfl, (gLen (G5.ext e6)).mono ?_⟩
  rintro _ w7 ⟨rfl, e7⟩
  have e67 := e6.trans' e7
  have S0 : Apt w w7 T s g gt g2 A D es kd := ⟨G5.ext e67, ⟨_, C5.ext e67⟩, D5.ext e67⟩
  clear G4 C0 D0 G5 C5 D5 f5
  refine ⟨_, rfl, fun x u => ∃ j : Nat, x = (j : Int) ∧ j ≤ 60 ∧ Apt w u T s g gt g2 A D es kd, fun x _ => (60 - x).toNat, ⟨0, rfl, by omega, S0⟩, ?_⟩
  clear S0
  have aw : ∀ {u : World}, Apt w u T s g gt g2 A D es kd → CallsV Try.prog 59 #[] u fun v w' => ∃ x, v = .bool x ∧ ((fun r w' => r = Value.bool true ∧ Ext w w') (.bool x) w') := fun S => (awake6_spec _).mono fun v w' ⟨h1, h2⟩ => ⟨true, h1, rfl, S.1.e.trans' h2⟩
  rintro _ u ⟨j, rfl, hj, S⟩
  refine brd (fun hlt => brd (fun hlt2 => ?_) fun _ => aw S) fun _ => aw S
  have hjl : j < ops.length := by omega
  have hwi : IntKind.i64.wrap ((j : Int) + 1) = ((j + 1 : Nat) : Int) := by rw [wi _ (by omega) (by omega)]; omega
  obtain ⟨ad, oKA, okc, oVA, ovc, hOA, C⟩ := opC6 iO hjl
  generalize ops[j] = op at C
  have Cu := C.ext S.1.e
  refine ⟨fun u => Apt w u T s g gt g2 A D es kd, fun u1 S1 => by rw [hwi]; exact ⟨⟨j + 1, rfl, by omega, S1⟩, by dsimp only; omega⟩, ad, hOA, ⟨by omega, by omega⟩, _, _, _, by rw [Int.toNat_natCast]; exact Cu.c4, brd (fun _ => S) fun hsm => ⟨fun u => Apt w u T s g gt g2 A D es kd, ?_, ?_⟩⟩
  · clear Cu C S
    rintro u ⟨G, ⟨kc, C⟩, D'⟩
    refine (key_spec hT G C).mono ?_
    rintro _ u1 ⟨e1, B1, c1, rfl, o1, n1⟩
    have G1 := G.ext e1
    have C1 := C.ext e1
    refine ⟨_, _, _, rfl, (value_spec hT G1 C1).mono ?_⟩
    rintro _ u2 ⟨e2, B2, c2, rfl, o2, n2⟩
    have G2 := G1.ext e2
    have C2 := C1.ext e2
    have D2 := (D'.ext e1).ext e2
    have o1' : OwnE u2 B1 c1 ((atX [(1, es)] 1 kc).elim [] (fun p => p.1)) := o1.keep e2 fun _ _ h => h
    have n1' : New u B1 := n1
    have n2' : New u B2 := n2.ext e1
    have hdis : ∀ k, ownB B2 k → ¬ ((atX [(1, es)] 1 kc).elim [] (fun p => p.1) ≠ [] ∧ ownB B1 k) := fun k hk h => by
      have h1 := Own.lt (o1.own h.1) k h.2
      have h2 := n2 k hk
      omega
    have e02 := e1.trans' e2
    generalize hkl : (atX [(1, es)] 1 kc).elim [] (fun p => p.1) = kl at *
    generalize hvl : (atX [(1, es)] 1 kc).elim [] (fun p => p.2) = vl at *
    have hl1 : kl.length ≤ 1 := by
      rcases at_one (k := kc) hT with h | ⟨b, v, rfl, h, hm⟩
      · rw [h] at hkl; rw [← hkl]; exact Nat.zero_le _
      · rw [h] at hkl; rw [← hkl]; exact Nat.le_refl _
    have hl2 : vl.length ≤ 1 := by
      rcases at_one (k := kc) hT with h | ⟨b, v, rfl, h, hm⟩
      · rw [h] at hvl; rw [← hvl]; exact Nat.zero_le _
      · rw [h] at hvl; rw [← hvl]
        have hv := hvals _ hm
        have hv : v = [b] := hv
        rw [hv]; exact Nat.le_refl _
    refine ⟨_, _, _, rfl, fun x z => ∃ i : Nat, x = (i : Int) ∧ i ≤ kl.length ∧ Ext u z ∧ OwnE z B1 c1 (flipL kl i) ∧ OwnE z B2 c2 vl, fun x _ => (kl.length - x).toNat, ⟨0, rfl, Nat.zero_le _, e02, by rw [flipL_0]; exact o1', o2⟩, ?_⟩
    rintro _ z ⟨i, rfl, hi, ez, y1, y2⟩
    have hwi2 : IntKind.i64.wrap ((i : Int) + 1) = ((i + 1 : Nat) : Int) := by rw [wi _ (by omega) (by omega)]; omega
    refine brd (fun hlt => ?_) (fun hge => ?_)
    · have hil : i < kl.length := by omega
      have hne : kl ≠ [] := fun e => by rw [e] at hil; simp at hil
      obtain ⟨ad, hA, hcell, p1, p2⟩ := flipStep (u0 := u) (y1.own fun e => by have := congrArg List.length e; rw [flipL_len kl i hi] at this; simp at this; exact hne this) n1' ez hil
      rw [hwi2]
      refine ⟨ad, hA, ⟨by omega, by omega⟩, _, by rw [Int.toNat_natCast]; exact hcell, ad, hA, ⟨by omega, by omega⟩, ?_⟩
      rw [flip8, Int.toNat_natCast]
      refine ⟨p1, fun z' hz => ?_⟩
      obtain ⟨q1, q2, q3⟩ := p2 z' hz
      exact ⟨⟨i + 1, rfl, hil, q3, .inr q1, y2.keep q2 fun k hk h => hdis k hk ⟨hne, h⟩⟩, by dsimp only; omega⟩
    obtain rfl : i = kl.length := by omega
    clear o1 o1' o2 hwi2
    refine ⟨fun x z => ∃ i : Nat, x = (i : Int) ∧ i ≤ vl.length ∧ Ext u z ∧ OwnE z B1 c1 (flipL kl kl.length) ∧ OwnE z B2 c2 (flipL vl i), fun x _ => (vl.length - x).toNat, ⟨0, rfl, Nat.zero_le _, ez, y1, by rw [flipL_0]; exact y2⟩, ?_⟩
    clear y1 y2 ez
    rintro _ z ⟨i, rfl, hi2, ez, y1, y2⟩
    have hwi2 : IntKind.i64.wrap ((i : Int) + 1) = ((i + 1 : Nat) : Int) := by rw [wi _ (by omega) (by omega)]; omega
    refine brd (fun hlt => ?_) (fun hge => ?_)
    · have hil : i < vl.length := by omega
      have hne : vl ≠ [] := fun e => by rw [e] at hil; simp at hil
      obtain ⟨ad, hA, hcell, p1, p2⟩ := flipStep (u0 := u) (y2.own fun e => by have := congrArg List.length e; rw [flipL_len vl i hi2] at this; simp at this; exact hne this) n2' ez hil
      rw [hwi2]
      refine ⟨ad, hA, ⟨by omega, by omega⟩, _, by rw [Int.toNat_natCast]; exact hcell, ad, hA, ⟨by omega, by omega⟩, ?_⟩
      rw [flip8, Int.toNat_natCast]
      refine ⟨p1, fun z' hz => ?_⟩
      obtain ⟨q1, q2, q3⟩ := p2 z' hz
      refine ⟨⟨i + 1, rfl, hil, q3, ?_, .inr q1⟩, by dsimp only; omega⟩
      rcases y1 with y1 | y1
      · exact .inl y1
      · rcases Classical.em (kl = []) with h0 | h0
        · exact .inl (by rw [h0]; rfl)
        · exact .inr (OwnB.keep y1 q2 fun k hk h => hdis k h ⟨h0, hk⟩)
    obtain rfl : i = vl.length := by omega
    clear y2 hwi2 hi2 hlt hge
    have ed : Ext z z.drew := Fr.drew NoB z
    have e0 : Ext u z.drew := ez.trans' ed
    refine (oneX_spec hT (G.ext e0) (D'.ext e0)).mono ?_
    rintro _ z1 ⟨rfl, x1⟩
    refine ⟨_, rfl, brn (fun h => absurd rfl h) fun _ => (gLen (G.ext (e0.trans' x1))).mono ?_⟩
    rintro _ z2 ⟨rfl, x2⟩
    have e2' : Ext u z2 := (e0.trans' x1).trans' x2
    have Gz := G.ext e2'
    have Cz := C.ext e2'
    have Dz := D'.ext e2'
    refine ⟨_, rfl, brn (fun h => absurd rfl h) fun _ => (cValid Gz.sto Cz).mono ?_⟩
    rintro _ z3 ⟨rfl, x3⟩
    have hfo : foD D = [(1, es)] := G.fo
    have G3 := Gz.ext x3
    have C3' := Cz.ext x3
    have D3 := Dz.ext x3
    have fin : Apt w z3 T s g gt g2 A D es kd := ⟨G3, ⟨kc, C3'⟩, D3⟩
    refine ⟨_, rfl, br (fun hv => ?_) (fun _ => fin)⟩
    replace hv : (atX (foD D) 1 kc).isSome = true := hv
    rw [hfo] at hv
    rcases at_one (k := kc) hT with h | ⟨b, v, rfl, h, hm⟩
    · rw [h] at hv; cases hv
    obtain rfl : v = [b] := hvals _ hm
    rw [h] at hkl hvl
    obtain rfl : kl = [b] := hkl.symm
    obtain rfl : vl = [b] := hvl.symm
    have hbl := u8_lt b
    have e3' : Ext z z3 := ((ed.trans' x1).trans' x2).trans' x3
    have y1' : OwnB z3 B1 c1 [fl b] := OwnB.keep (y1.own (by simp [flipL])) e3' fun _ _ h => h
    obtain ⟨ad, hA, hcell⟩ := y1'.imm0.byte (i := 0) (by simp)
    have hcell : z3.cell? (ad.add (0 * 1)) = some (.int .u8 ((fl b).toNat : Int)) := hcell
    refine brn (fun h => absurd rfl h) fun _ => ⟨ad, hA, ⟨by decide, by show (0 : Int) < 1; decide⟩, fun z' => Ext z3 z', .refl _ _, ((fl b).toNat : Int), fun z' e => Ext.cell e hcell, (one_spec G3 C3' h).mono ?_⟩
    rintro _ z4 ⟨rfl, x4⟩
    have hw2 : IntKind.i64.wrap (b.toNat : Int) = (b.toNat : Int) := wi _ (by omega) (by omega)
    rw [flip8, fl_fl, hw2]
    refine ⟨_, rfl, x4, brn (fun h => absurd rfl h) fun _ => (value_spec hT (G3.ext x4) (C3'.ext x4)).mono ?_⟩
    rw [h]
    rintro _ z5 ⟨x5, B5, c5, rfl, o5, _⟩
    have x45 := x4.trans' x5
    refine ⟨_, _, _, rfl, x45, (key_spec hT (G3.ext x45) (C3'.ext x45)).mono ?_⟩
    rw [h]
    rintro _ z6 ⟨x6, B6, c6, rfl, o6, _⟩
    have x46 := x45.trans' x6
    have j5 : Imm KB NoB z6 B5 [b] := (o5.own (l := [b]) (by simp)).imm0.ext KB_pos x6
    have j6 : Imm KB NoB z6 B6 [b] := (o6.own (l := [b]) (by simp)).imm0
    refine ⟨_, _, _, rfl, x46, (SameBytes_spec j5 j6).same ⟨_, rfl, x46, brnb (fun h => absurd (decide_eq_true rfl) (by rw [h]; decide)) fun _ => ⟨G3.ext x46, ⟨_, C3'.ext x46⟩, D3.ext x46⟩⟩⟩
  · obtain ⟨G, ⟨kc, Cc⟩, D'⟩ := S
    have mv : ∀ {u u' : World} {x : Option (Key × Key)}, Cur (OC T (C3 g gt g2)) u g2 s 1 kd → Gs w u' T (C3 g gt g2) s A D es ∧ Cur (OC T (C3 g gt g2)) u' g s 1 (x.map fun p => p.1) ∧ Fr (fun k => k = g) u u' → Apt w u' T s g gt g2 A D es kd := fun hD ⟨h1, h2, h3⟩ => ⟨h1, ⟨_, h2⟩, hD.other h3 hne2 (.inr cg)⟩
    refine ⟨ad, hOA, ⟨by omega, by omega⟩, _, by rw [Int.toNat_natCast]; exact Cu.c0, brd (fun _ => (gRewind G Cc cg rfl).mono fun r u' ⟨h1, h2⟩ => ⟨_, h1, mv D' h2⟩) fun _ => brd (fun _ => (gLast G Cc cg rfl).mono fun r u' ⟨h1, h2⟩ => ⟨_, h1, mv D' h2⟩) fun _ => ?_⟩
    refine ⟨fun _ u' => u' = u, ?_, brd (fun _ => rfl) fun _ => rfl⟩
    rintro x u0 hu0
    obtain rfl : u = u0 := hu0.symm
    refine br (fun _ => (gNext G Cc cg rfl).mono fun r u' ⟨h1, h2⟩ => ⟨_, h1, mv D' h2⟩) fun _ => ⟨fun _ u' => u' = u, ?_, brd (fun _ => rfl) fun _ => rfl⟩
    rintro x u0 hu0
    obtain rfl : u = u0 := hu0.symm
    refine br (fun _ => (gPrev G Cc cg rfl).mono fun r u' ⟨h1, h2⟩ => ⟨_, h1, mv D' h2⟩) fun _ => ?_
    have ed : Ext u u.drew := Fr.drew NoB u
    refine ⟨ad, hOA, ⟨by omega, by omega⟩, fun z => Ext u z, ed, _, fun z e => by rw [Int.toNat_natCast]; exact (Cu.ext e).c3, ad, hOA, ⟨by omega, by omega⟩, _, _, _, fun z e => by rw [Int.toNat_natCast]; exact (Cu.ext e).c4, ?_⟩
    exact (gSeek (G.ext ed) (Cc.ext ed) cg rfl (Cu.ext ed).k okc).mono fun r u' ⟨h1, h2⟩ => ⟨_, h1, mv (D'.ext ed) h2⟩
end Go.Proofs.Ythfagbfllheneaa
set_option linter.unusedVariables false
namespace Go.Proofs.Ythfagbfllheneaa
open Go Go.Sx
theorem opens_Bs6 : Opens Try.prog 28 KBs (fun l => l.length ≤ maxLen ∧ ∀ a ∈ l, True) := opens_slice Try.underlying28 (by kernel_rfl) KB_pos (opens_u8 Try.underlying5)
theorem opens_Op6 : Opens Try.prog 113 KOp6 (fun _ => True) := by
  intro H enc w fuel cs x hx
  obtain ⟨hl, hf⟩ := opens_fields (by kernel_rfl) hx
  have hl3 : cs.length = 6 := hl.trans (by kernel_rfl)
  obtain ⟨k, hk, _⟩ := hf (K := Kd.int .i64) 0 (ft := 3) (off := 0) (by kernel_rfl) (by kernel_rfl) (opens_int Try.underlying3)
  obtain ⟨r, hr, _⟩ := hf (K := Kd.int .i64) 1 (ft := 3) (off := 1) (by kernel_rfl) (by kernel_rfl) (opens_int Try.underlying3)
  obtain ⟨n, hn, _⟩ := hf (K := Kd.int .i64) 2 (ft := 3) (off := 2) (by kernel_rfl) (by kernel_rfl) (opens_int Try.underlying3)
  obtain ⟨h, hh, _⟩ := hf (K := Kd.int .u8) 3 (ft := 96) (off := 3) (by kernel_rfl) (by kernel_rfl) (opens_int Try.underlying96)
  obtain ⟨a, ha, _⟩ := hf (K := KBs) 4 (ft := 28) (off := 4) (by kernel_rfl) (by kernel_rfl) opens_Bs6
  obtain ⟨b, hb, _⟩ := hf (K := KBs) 5 (ft := 28) (off := 5) (by kernel_rfl) (by kernel_rfl) opens_Bs6
  match cs, hl3 with
  | [c0, c1, c2, c3, c4, c5], _ =>
    have hk : [c0] = [.int .i64 k] := hk
    have hr : [c1] = [.int .i64 r] := hr
    have hn : [c2] = [.int .i64 n] := hn
    have hh : [c3] = [.int .u8 h] := hh
    cases hk; cases hr; cases hn; cases hh
    exact ⟨⟨k, r, n, h, a, b⟩, ⟨_, _, rfl, ha, hb⟩, trivial⟩
end Go.Proofs.Ythfagbfllheneaa
