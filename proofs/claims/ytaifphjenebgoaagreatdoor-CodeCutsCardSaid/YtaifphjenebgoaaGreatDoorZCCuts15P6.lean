/- Part 6 of the texts of this claim: the engine, contracts, plain laws. -/
import Derived.Test.YtaifphjenebgoaaGreatDoorZCCuts15P3
import Derived.Test.YtaifphjenebgoaaGreatDoorZCCuts15P5
import Derived.Test.YtaifphjenebgoaaGreatDoorZCCuts15P4
set_option linter.unusedVariables false
set_option linter.unusedSimpArgs false
namespace Go.Proofs.YtaifphjenebgoaaGreatDoor
open Go Go.Sx R1 K15
section
variable {b : List UInt8} {A : Option Addr} {c : Nat} {w0 w w' : World} {g : Nat} {s : Option (List UInt8)}
theorem own_old {α : Type} {K : Kd α} (hz : 0 < K.size) {u : World} {B : Option Addr} {d : Nat} {l : List α} (h : OwnK (Kd.out (Old w) K) u B d l) (n : New w B) : Imm K (Old w) u B l := by
  obtain ⟨xs, ho, hr⟩ := h
  exact Own.imm (K := K) hz ho (fun k hk ho => absurd ho (Nat.not_lt.2 (n k hk))) (fun i a ha => K.keep (hr i a ha) ⟨Nat.le_refl _, fun _ _ _ => rfl, fun k hk h => .inr h⟩)
theorem own_fr {α : Type} {K : Kd α} {u u1 : World} {B : Option Addr} {d : Nat} {l : List α} (hg : g < w.heap.size) (h : OwnK (Kd.out (Old w) K) u B d l) (n : New w B) (f : Fr (At g) u u1) : OwnK (Kd.out (Old w) K) u1 B d l :=
  h.fr f (fun k hk e => by have e : k = g := e; have := n k hk; omega) (fun a cs _ hr => K.keep hr (f.step (fun k hk e => .inr (by have e : k = g := e; show k < w.heap.size; omega)) (fun _ _ h => h)))
theorem rep_old {α : Type} {K : Kd α} {u u1 : World} {B : Option Addr} {d : Nat} {l : List α} {y : α} {cs : List Value} (hs : w.heap.size ≤ u.heap.size) (ho : OwnK (Kd.out (Old w) K) u B d l) (h : K.rep (Old u) u1 y cs) : (Kd.out (Old w) K).rep (ownB B) u1 y cs :=
  K.keep h ⟨Nat.le_refl _, fun _ _ _ => rfl, fun k hk hh => hh.elim (fun hB => ho.lt k hB) (fun hw => Nat.lt_of_lt_of_le hw hs)⟩
theorem slE_bool : SlT Tryz.prog 57 4 1 1 [.bool false] := ⟨by kernel_rfl, ⟨Tryz.t4, by kernel_rfl, by kernel_rfl, by kernel_rfl, .bool false, by kernel_rfl, by kernel_rfl⟩, rfl, by decide⟩
theorem some_bool_spec (h : Rdr b A c w0 w g s) (most : Nat) (hm : most ≤ 5000) {r : Rd Bool} {fid : Nat} {first cap : Array Value} (hb : bodied Tryz.prog fid = true)
    (hE : ∀ u s, Rdr b A c w0 u g s → Fr (At g) w u → CallsV Tryz.prog fid (first.toList ++ ([] ++ cap.toList)).toArray u fun v u' => ∃ x : Bool, v = .bool x ∧ Rdr b A c w0 u' g (adv r s) ∧ Got r s x ∧ Fr (At g) u u') :
    CallsV Tryz.prog 73 #[.pointer (some ⟨g, 0, none⟩), .int .i64 most, .func (.func fid) first cap] w fun v w' => ∃ (B : Option Addr) (d : Nat) (l : List Bool), v = .slice B l.length d ∧ l.length ≤ d ∧ l.length ≤ most ∧ Imm Kd.bool (Old w) w' B l ∧
      Rdr b A c w0 w' g (adv (someO most r) s) ∧ Got (someO most r) s l ∧ Fr (At g) w w' := by
  refine code_some_bool.calls okay ?_
  unfold code_some_bool.W
  have hgw := h.lt
  have h0w := h.ext.size
  refine (rnum_spec h most (by omega)).mono ?_
  rintro _ w1 ⟨x, rfl, h1, qx, hx, f1⟩
  refine ⟨_, rfl, ?_⟩
  obtain ⟨s1, hs1⟩ : ∃ s1, s1 = adv (numO most) s := ⟨_, rfl⟩
  have hsm := adv_some (r := r) qx
  rw [← hs1] at h1 hsm
  refine ⟨fun B n d k u => ∃ (l : List Bool) (j : Nat), n = l.length ∧ k = (j : Int) ∧ l.length + j = x.toNat ∧ OwnK (Kd.out (Old w) Kd.bool) u B d l ∧ New w B ∧ Rdr b A c w0 u g (adv (repO r l.length) s1) ∧ Got (repO r l.length) s1 l ∧ Fr (At g) w u, fun _ _ _ k _ => k.toNat,
    ⟨[], x.toNat, rfl, by omega, by simp, OwnK.nil _ _, New.none _, by rw [List.length_nil, adv_rep0]; exact h1, Got.rep0 _ _, f1⟩, ?_⟩
  rintro B _ d _ u ⟨l, j, rfl, rfl, hlj, hown, hnew, hu, qu, pu⟩
  have zu := pu.size
  have done : adv (repO r l.length) s1 = adv (repO r x.toNat) s1 → Got (repO r x.toNat) s1 l → ∃ (B' : Option Addr) (d' : Nat) (l' : List Bool), Value.slice B l.length d = .slice B' l'.length d' ∧ l'.length ≤ d' ∧ l'.length ≤ most ∧ Imm Kd.bool (Old w) u B' l' ∧
      Rdr b A c w0 u g (adv (someO most r) s) ∧ Got (someO most r) s l' ∧ Fr (At g) w u := fun he hq =>
    ⟨B, d, l, rfl, hown.le, by omega, own_old KBo_pos hown hnew, by rw [hsm, ← he]; exact hu, qx.some (by rw [← hs1]; exact hq), pu⟩
  refine brd (fun hj => ?_) (fun hj => ?_)
  · obtain ⟨a, ha, bk, hst⟩ := hu.st
    refine ⟨_, rfl, _, bk.cell rfl, brnb (fun hf => ?_) (fun ht => ?_)⟩
    · refine ⟨fid, first, cap, rfl, hb, ?_⟩
      refine (hE u _ hu pu).mono ?_
      rintro _ u1 ⟨y, rfl, h1, q1, f1⟩
      have hrep : Kd.bool.rep (Old u) u1 y [.bool y] := rfl
      refine ⟨_, rfl, fun g3 u2 f3 => ?_⟩
      obtain ⟨rfl, rfl⟩ := f3
      have hown1 := own_fr hgw hown hnew f1
      obtain ⟨B', d', u3, hrun, hown3, hgr⟩ := OwnK.push (K := Kd.out (Old w) Kd.bool) slE_bool (ty := 57) hown1 (rep_old zu hown hrep) (by
        intro v hv
        simp only [List.mem_cons, List.not_mem_nil, or_false] at hv
        rcases hv with rfl <;> rfl) (e' := 4) (by simp only [maxLen]; omega) (by omega)
      refine ⟨_, _, _, _, hrun, ?_⟩
      rw [wi ((j : Int) - 1) (by omega) (by omega)]
      have z1 := f1.size
      have hnew' : New w B' := fun k hk => (hgr.sub k hk).elim (fun h => hnew k h) (fun h => by have h : u1.heap.size ≤ k := h; omega)
      refine ⟨⟨l ++ [y], j - 1, rfl, by omega, by rw [List.length_append, List.length_singleton]; omega, hown3, hnew', ?_, ?_, ?_⟩, by dsimp only; omega⟩
      · rw [List.length_append, List.length_singleton, adv_rep]
        exact h1.fr hgr.fr (fun hk => by have := hnew g hk; omega) (fun k hk hB => by have := hnew k hB; omega)
      · rw [List.length_append, List.length_singleton]; exact qu.rep q1
      · exact (pu.trans f1 (fun _ _ h => h) (fun _ _ h => h)).trans hgr.fr (fun _ _ h => h) (fun k hk hB => by have := hnew k hB; omega)
    · have hn : adv (repO r l.length) s1 = none := by cases hq : adv (repO r l.length) s1 with | none => rfl | some z => rw [hq] at ht; cases ht
      have hn' : adv (repO r x.toNat) s1 = none := by rw [← hlj]; exact adv_rep_none hn j
      exact done (by rw [hn, hn']) (Got.bad hn')
  · have hj0 : l.length = x.toNat := by omega
    exact done (by rw [hj0]) (by rw [← hj0]; exact qu)
theorem slE_string : SlT Tryz.prog 22 9 1 16 [.string ByteArray.empty] := ⟨by kernel_rfl, ⟨Tryz.t9, by kernel_rfl, by kernel_rfl, by kernel_rfl, .string ByteArray.empty, by kernel_rfl, by kernel_rfl⟩, rfl, by decide⟩
theorem some_string_spec (h : Rdr b A c w0 w g s) (most : Nat) (hm : most ≤ 5000) {r : Rd ByteArray} {fid : Nat} {first cap : Array Value} (hb : bodied Tryz.prog fid = true)
    (hE : ∀ u s, Rdr b A c w0 u g s → Fr (At g) w u → CallsV Tryz.prog fid (first.toList ++ ([] ++ cap.toList)).toArray u fun v u' => ∃ x : ByteArray, v = .string x ∧ Rdr b A c w0 u' g (adv r s) ∧ Got r s x ∧ Fr (At g) u u') :
    CallsV Tryz.prog 31 #[.pointer (some ⟨g, 0, none⟩), .int .i64 most, .func (.func fid) first cap] w fun v w' => ∃ (B : Option Addr) (d : Nat) (l : List ByteArray), v = .slice B l.length d ∧ l.length ≤ d ∧ l.length ≤ most ∧ Imm Kd.str (Old w) w' B l ∧
      Rdr b A c w0 w' g (adv (someO most r) s) ∧ Got (someO most r) s l ∧ Fr (At g) w w' := by
  refine code_some_string.calls okay ?_
  unfold code_some_string.W
  have hgw := h.lt
  have h0w := h.ext.size
  refine (rnum_spec h most (by omega)).mono ?_
  rintro _ w1 ⟨x, rfl, h1, qx, hx, f1⟩
  refine ⟨_, rfl, ?_⟩
  obtain ⟨s1, hs1⟩ : ∃ s1, s1 = adv (numO most) s := ⟨_, rfl⟩
  have hsm := adv_some (r := r) qx
  rw [← hs1] at h1 hsm
  refine ⟨fun B n d k u => ∃ (l : List ByteArray) (j : Nat), n = l.length ∧ k = (j : Int) ∧ l.length + j = x.toNat ∧ OwnK (Kd.out (Old w) Kd.str) u B d l ∧ New w B ∧ Rdr b A c w0 u g (adv (repO r l.length) s1) ∧ Got (repO r l.length) s1 l ∧ Fr (At g) w u, fun _ _ _ k _ => k.toNat,
    ⟨[], x.toNat, rfl, by omega, by simp, OwnK.nil _ _, New.none _, by rw [List.length_nil, adv_rep0]; exact h1, Got.rep0 _ _, f1⟩, ?_⟩
  rintro B _ d _ u ⟨l, j, rfl, rfl, hlj, hown, hnew, hu, qu, pu⟩
  have zu := pu.size
  have done : adv (repO r l.length) s1 = adv (repO r x.toNat) s1 → Got (repO r x.toNat) s1 l → ∃ (B' : Option Addr) (d' : Nat) (l' : List ByteArray), Value.slice B l.length d = .slice B' l'.length d' ∧ l'.length ≤ d' ∧ l'.length ≤ most ∧ Imm Kd.str (Old w) u B' l' ∧
      Rdr b A c w0 u g (adv (someO most r) s) ∧ Got (someO most r) s l' ∧ Fr (At g) w u := fun he hq =>
    ⟨B, d, l, rfl, hown.le, by omega, own_old KStr_pos hown hnew, by rw [hsm, ← he]; exact hu, qx.some (by rw [← hs1]; exact hq), pu⟩
  refine brd (fun hj => ?_) (fun hj => ?_)
  · obtain ⟨a, ha, bk, hst⟩ := hu.st
    refine ⟨_, rfl, _, bk.cell rfl, brnb (fun hf => ?_) (fun ht => ?_)⟩
    · refine ⟨fid, first, cap, rfl, hb, ?_⟩
      refine (hE u _ hu pu).mono ?_
      rintro _ u1 ⟨y, rfl, h1, q1, f1⟩
      have hrep : Kd.str.rep (Old u) u1 y [.string y] := rfl
      refine ⟨_, rfl, fun g3 u2 f3 => ?_⟩
      obtain ⟨rfl, rfl⟩ := f3
      have hown1 := own_fr hgw hown hnew f1
      obtain ⟨B', d', u3, hrun, hown3, hgr⟩ := OwnK.push (K := Kd.out (Old w) Kd.str) slE_string (ty := 22) hown1 (rep_old zu hown hrep) (by
        intro v hv
        simp only [List.mem_cons, List.not_mem_nil, or_false] at hv
        rcases hv with rfl <;> rfl) (e' := 9) (by simp only [maxLen]; omega) (by omega)
      refine ⟨_, _, _, _, hrun, ?_⟩
      rw [wi ((j : Int) - 1) (by omega) (by omega)]
      have z1 := f1.size
      have hnew' : New w B' := fun k hk => (hgr.sub k hk).elim (fun h => hnew k h) (fun h => by have h : u1.heap.size ≤ k := h; omega)
      refine ⟨⟨l ++ [y], j - 1, rfl, by omega, by rw [List.length_append, List.length_singleton]; omega, hown3, hnew', ?_, ?_, ?_⟩, by dsimp only; omega⟩
      · rw [List.length_append, List.length_singleton, adv_rep]
        exact h1.fr hgr.fr (fun hk => by have := hnew g hk; omega) (fun k hk hB => by have := hnew k hB; omega)
      · rw [List.length_append, List.length_singleton]; exact qu.rep q1
      · exact (pu.trans f1 (fun _ _ h => h) (fun _ _ h => h)).trans hgr.fr (fun _ _ h => h) (fun k hk hB => by have := hnew k hB; omega)
    · have hn : adv (repO r l.length) s1 = none := by cases hq : adv (repO r l.length) s1 with | none => rfl | some z => rw [hq] at ht; cases ht
      have hn' : adv (repO r x.toNat) s1 = none := by rw [← hlj]; exact adv_rep_none hn j
      exact done (by rw [hn, hn']) (Got.bad hn')
  · have hj0 : l.length = x.toNat := by omega
    exact done (by rw [hj0]) (by rw [← hj0]; exact qu)
theorem slE_api_Value : SlT Tryz.prog 23 54 3 32 [.int .u8 0, .int .i64 0, .string ByteArray.empty] := ⟨by kernel_rfl, ⟨Tryz.t54, by kernel_rfl, by kernel_rfl, by kernel_rfl, .agg #[.int .u8 0, .int .i64 0, .string ByteArray.empty], by kernel_rfl, by kernel_rfl⟩, rfl, by decide⟩
theorem some_api_Value_spec (h : Rdr b A c w0 w g s) (most : Nat) (hm : most ≤ 5000) {r : Rd V} {fid : Nat} {first cap : Array Value} (hb : bodied Tryz.prog fid = true)
    (hE : ∀ u s, Rdr b A c w0 u g s → Fr (At g) w u → CallsV Tryz.prog fid (first.toList ++ ([] ++ cap.toList)).toArray u fun v u' => ∃ x : V, v = .agg #[.int .u8 x.k, .int .i64 x.n, .string x.s] ∧ Rdr b A c w0 u' g (adv r s) ∧ Got r s x ∧ Fr (At g) u u') :
    CallsV Tryz.prog 34 #[.pointer (some ⟨g, 0, none⟩), .int .i64 most, .func (.func fid) first cap] w fun v w' => ∃ (B : Option Addr) (d : Nat) (l : List V), v = .slice B l.length d ∧ l.length ≤ d ∧ l.length ≤ most ∧ Imm KV (Old w) w' B l ∧
      Rdr b A c w0 w' g (adv (someO most r) s) ∧ Got (someO most r) s l ∧ Fr (At g) w w' := by
  refine code_some_api_Value.calls okay ?_
  unfold code_some_api_Value.W
  have hgw := h.lt
  have h0w := h.ext.size
  refine (rnum_spec h most (by omega)).mono ?_
  rintro _ w1 ⟨x, rfl, h1, qx, hx, f1⟩
  refine ⟨_, rfl, ?_⟩
  obtain ⟨s1, hs1⟩ : ∃ s1, s1 = adv (numO most) s := ⟨_, rfl⟩
  have hsm := adv_some (r := r) qx
  rw [← hs1] at h1 hsm
  refine ⟨fun B n d k u => ∃ (l : List V) (j : Nat), n = l.length ∧ k = (j : Int) ∧ l.length + j = x.toNat ∧ OwnK (Kd.out (Old w) KV) u B d l ∧ New w B ∧ Rdr b A c w0 u g (adv (repO r l.length) s1) ∧ Got (repO r l.length) s1 l ∧ Fr (At g) w u, fun _ _ _ k _ => k.toNat,
    ⟨[], x.toNat, rfl, by omega, by simp, OwnK.nil _ _, New.none _, by rw [List.length_nil, adv_rep0]; exact h1, Got.rep0 _ _, f1⟩, ?_⟩
  rintro B _ d _ u ⟨l, j, rfl, rfl, hlj, hown, hnew, hu, qu, pu⟩
  have zu := pu.size
  have done : adv (repO r l.length) s1 = adv (repO r x.toNat) s1 → Got (repO r x.toNat) s1 l → ∃ (B' : Option Addr) (d' : Nat) (l' : List V), Value.slice B l.length d = .slice B' l'.length d' ∧ l'.length ≤ d' ∧ l'.length ≤ most ∧ Imm KV (Old w) u B' l' ∧
      Rdr b A c w0 u g (adv (someO most r) s) ∧ Got (someO most r) s l' ∧ Fr (At g) w u := fun he hq =>
    ⟨B, d, l, rfl, hown.le, by omega, own_old KV_pos hown hnew, by rw [hsm, ← he]; exact hu, qx.some (by rw [← hs1]; exact hq), pu⟩
  refine brd (fun hj => ?_) (fun hj => ?_)
  · obtain ⟨a, ha, bk, hst⟩ := hu.st
    refine ⟨_, rfl, _, bk.cell rfl, brnb (fun hf => ?_) (fun ht => ?_)⟩
    · refine ⟨fid, first, cap, rfl, hb, ?_⟩
      refine (hE u _ hu pu).mono ?_
      rintro _ u1 ⟨y, rfl, h1, q1, f1⟩
      have hrep : KV.rep (Old u) u1 y [.int .u8 y.k, .int .i64 y.n, .string y.s] := rfl
      refine ⟨_, _, _, rfl, fun g3 u2 f3 => ?_⟩
      obtain ⟨rfl, rfl⟩ := f3
      have hown1 := own_fr hgw hown hnew f1
      obtain ⟨B', d', u3, hrun, hown3, hgr⟩ := OwnK.push (K := Kd.out (Old w) KV) slE_api_Value (ty := 23) hown1 (rep_old zu hown hrep) (by
        intro v hv
        simp only [List.mem_cons, List.not_mem_nil, or_false] at hv
        rcases hv with rfl | rfl | rfl <;> rfl) (e' := 54) (by simp only [maxLen]; omega) (by omega)
      refine ⟨_, _, _, _, hrun, ?_⟩
      rw [wi ((j : Int) - 1) (by omega) (by omega)]
      have z1 := f1.size
      have hnew' : New w B' := fun k hk => (hgr.sub k hk).elim (fun h => hnew k h) (fun h => by have h : u1.heap.size ≤ k := h; omega)
      refine ⟨⟨l ++ [y], j - 1, rfl, by omega, by rw [List.length_append, List.length_singleton]; omega, hown3, hnew', ?_, ?_, ?_⟩, by dsimp only; omega⟩
      · rw [List.length_append, List.length_singleton, adv_rep]
        exact h1.fr hgr.fr (fun hk => by have := hnew g hk; omega) (fun k hk hB => by have := hnew k hB; omega)
      · rw [List.length_append, List.length_singleton]; exact qu.rep q1
      · exact (pu.trans f1 (fun _ _ h => h) (fun _ _ h => h)).trans hgr.fr (fun _ _ h => h) (fun k hk hB => by have := hnew k hB; omega)
    · have hn : adv (repO r l.length) s1 = none := by cases hq : adv (repO r l.length) s1 with | none => rfl | some z => rw [hq] at ht; cases ht
      have hn' : adv (repO r x.toNat) s1 = none := by rw [← hlj]; exact adv_rep_none hn j
      exact done (by rw [hn, hn']) (Got.bad hn')
  · have hj0 : l.length = x.toNat := by omega
    exact done (by rw [hj0]) (by rw [← hj0]; exact qu)
theorem slE_api_Cur : SlT Tryz.prog 24 56 3 24 [.string ByteArray.empty, .bool false, .bool false] := ⟨by kernel_rfl, ⟨Tryz.t56, by kernel_rfl, by kernel_rfl, by kernel_rfl, .agg #[.string ByteArray.empty, .bool false, .bool false], by kernel_rfl, by kernel_rfl⟩, rfl, by decide⟩
theorem some_api_Cur_spec (h : Rdr b A c w0 w g s) (most : Nat) (hm : most ≤ 5000) {r : Rd Cur} {fid : Nat} {first cap : Array Value} (hb : bodied Tryz.prog fid = true)
    (hE : ∀ u s, Rdr b A c w0 u g s → Fr (At g) w u → CallsV Tryz.prog fid (first.toList ++ ([] ++ cap.toList)).toArray u fun v u' => ∃ x : Cur, v = .agg #[.string x.name, .bool x.ix, .bool x.wr] ∧ Rdr b A c w0 u' g (adv r s) ∧ Got r s x ∧ Fr (At g) u u') :
    CallsV Tryz.prog 36 #[.pointer (some ⟨g, 0, none⟩), .int .i64 most, .func (.func fid) first cap] w fun v w' => ∃ (B : Option Addr) (d : Nat) (l : List Cur), v = .slice B l.length d ∧ l.length ≤ d ∧ l.length ≤ most ∧ Imm KCur (Old w) w' B l ∧
      Rdr b A c w0 w' g (adv (someO most r) s) ∧ Got (someO most r) s l ∧ Fr (At g) w w' := by
  refine code_some_api_Cur.calls okay ?_
  unfold code_some_api_Cur.W
  have hgw := h.lt
  have h0w := h.ext.size
  refine (rnum_spec h most (by omega)).mono ?_
  rintro _ w1 ⟨x, rfl, h1, qx, hx, f1⟩
  refine ⟨_, rfl, ?_⟩
  obtain ⟨s1, hs1⟩ : ∃ s1, s1 = adv (numO most) s := ⟨_, rfl⟩
  have hsm := adv_some (r := r) qx
  rw [← hs1] at h1 hsm
  refine ⟨fun B n d k u => ∃ (l : List Cur) (j : Nat), n = l.length ∧ k = (j : Int) ∧ l.length + j = x.toNat ∧ OwnK (Kd.out (Old w) KCur) u B d l ∧ New w B ∧ Rdr b A c w0 u g (adv (repO r l.length) s1) ∧ Got (repO r l.length) s1 l ∧ Fr (At g) w u, fun _ _ _ k _ => k.toNat,
    ⟨[], x.toNat, rfl, by omega, by simp, OwnK.nil _ _, New.none _, by rw [List.length_nil, adv_rep0]; exact h1, Got.rep0 _ _, f1⟩, ?_⟩
  rintro B _ d _ u ⟨l, j, rfl, rfl, hlj, hown, hnew, hu, qu, pu⟩
  have zu := pu.size
  have done : adv (repO r l.length) s1 = adv (repO r x.toNat) s1 → Got (repO r x.toNat) s1 l → ∃ (B' : Option Addr) (d' : Nat) (l' : List Cur), Value.slice B l.length d = .slice B' l'.length d' ∧ l'.length ≤ d' ∧ l'.length ≤ most ∧ Imm KCur (Old w) u B' l' ∧
      Rdr b A c w0 u g (adv (someO most r) s) ∧ Got (someO most r) s l' ∧ Fr (At g) w u := fun he hq =>
    ⟨B, d, l, rfl, hown.le, by omega, own_old KCur_pos hown hnew, by rw [hsm, ← he]; exact hu, qx.some (by rw [← hs1]; exact hq), pu⟩
  refine brd (fun hj => ?_) (fun hj => ?_)
  · obtain ⟨a, ha, bk, hst⟩ := hu.st
    refine ⟨_, rfl, _, bk.cell rfl, brnb (fun hf => ?_) (fun ht => ?_)⟩
    · refine ⟨fid, first, cap, rfl, hb, ?_⟩
      refine (hE u _ hu pu).mono ?_
      rintro _ u1 ⟨y, rfl, h1, q1, f1⟩
      have hrep : KCur.rep (Old u) u1 y [.string y.name, .bool y.ix, .bool y.wr] := rfl
      refine ⟨_, _, _, rfl, fun g3 u2 f3 => ?_⟩
      obtain ⟨rfl, rfl⟩ := f3
      have hown1 := own_fr hgw hown hnew f1
      obtain ⟨B', d', u3, hrun, hown3, hgr⟩ := OwnK.push (K := Kd.out (Old w) KCur) slE_api_Cur (ty := 24) hown1 (rep_old zu hown hrep) (by
        intro v hv
        simp only [List.mem_cons, List.not_mem_nil, or_false] at hv
        rcases hv with rfl | rfl | rfl <;> rfl) (e' := 56) (by simp only [maxLen]; omega) (by omega)
      refine ⟨_, _, _, _, hrun, ?_⟩
      rw [wi ((j : Int) - 1) (by omega) (by omega)]
      have z1 := f1.size
      have hnew' : New w B' := fun k hk => (hgr.sub k hk).elim (fun h => hnew k h) (fun h => by have h : u1.heap.size ≤ k := h; omega)
      refine ⟨⟨l ++ [y], j - 1, rfl, by omega, by rw [List.length_append, List.length_singleton]; omega, hown3, hnew', ?_, ?_, ?_⟩, by dsimp only; omega⟩
      · rw [List.length_append, List.length_singleton, adv_rep]
        exact h1.fr hgr.fr (fun hk => by have := hnew g hk; omega) (fun k hk hB => by have := hnew k hB; omega)
      · rw [List.length_append, List.length_singleton]; exact qu.rep q1
      · exact (pu.trans f1 (fun _ _ h => h) (fun _ _ h => h)).trans hgr.fr (fun _ _ h => h) (fun k hk hB => by have := hnew k hB; omega)
    · have hn : adv (repO r l.length) s1 = none := by cases hq : adv (repO r l.length) s1 with | none => rfl | some z => rw [hq] at ht; cases ht
      have hn' : adv (repO r x.toNat) s1 = none := by rw [← hlj]; exact adv_rep_none hn j
      exact done (by rw [hn, hn']) (Got.bad hn')
  · have hj0 : l.length = x.toNat := by omega
    exact done (by rw [hj0]) (by rw [← hj0]; exact qu)
theorem slE_api_Sort : SlT Tryz.prog 25 59 3 40 [.slice none 0 0, .int .i64 0, .bool false] := ⟨by kernel_rfl, ⟨Tryz.t59, by kernel_rfl, by kernel_rfl, by kernel_rfl, .agg #[.slice none 0 0, .int .i64 0, .bool false], by kernel_rfl, by kernel_rfl⟩, rfl, by decide⟩
theorem some_api_Sort_spec (h : Rdr b A c w0 w g s) (most : Nat) (hm : most ≤ 5000) {r : Rd Srt} {fid : Nat} {first cap : Array Value} (hb : bodied Tryz.prog fid = true)
    (hE : ∀ u s, Rdr b A c w0 u g s → Fr (At g) w u → CallsV Tryz.prog fid (first.toList ++ ([] ++ cap.toList)).toArray u fun v u' => ∃ (x : Srt) (B1 : Option Addr) (d1 : Nat), v = .agg #[.slice B1 x.desc.length d1, .int .i64 x.cols, .bool x.dist] ∧ x.desc.length ≤ d1 ∧ Imm Kd.bool (Old u) u' B1 x.desc ∧ Rdr b A c w0 u' g (adv r s) ∧ Got r s x ∧ Fr (At g) u u') :
    CallsV Tryz.prog 38 #[.pointer (some ⟨g, 0, none⟩), .int .i64 most, .func (.func fid) first cap] w fun v w' => ∃ (B : Option Addr) (d : Nat) (l : List Srt), v = .slice B l.length d ∧ l.length ≤ d ∧ l.length ≤ most ∧ Imm KSrt (Old w) w' B l ∧
      Rdr b A c w0 w' g (adv (someO most r) s) ∧ Got (someO most r) s l ∧ Fr (At g) w w' := by
  refine code_some_api_Sort.calls okay ?_
  unfold code_some_api_Sort.W
  have hgw := h.lt
  have h0w := h.ext.size
  refine (rnum_spec h most (by omega)).mono ?_
  rintro _ w1 ⟨x, rfl, h1, qx, hx, f1⟩
  refine ⟨_, rfl, ?_⟩
  obtain ⟨s1, hs1⟩ : ∃ s1, s1 = adv (numO most) s := ⟨_, rfl⟩
  have hsm := adv_some (r := r) qx
  rw [← hs1] at h1 hsm
  refine ⟨fun B n d k u => ∃ (l : List Srt) (j : Nat), n = l.length ∧ k = (j : Int) ∧ l.length + j = x.toNat ∧ OwnK (Kd.out (Old w) KSrt) u B d l ∧ New w B ∧ Rdr b A c w0 u g (adv (repO r l.length) s1) ∧ Got (repO r l.length) s1 l ∧ Fr (At g) w u, fun _ _ _ k _ => k.toNat,
    ⟨[], x.toNat, rfl, by omega, by simp, OwnK.nil _ _, New.none _, by rw [List.length_nil, adv_rep0]; exact h1, Got.rep0 _ _, f1⟩, ?_⟩
  rintro B _ d _ u ⟨l, j, rfl, rfl, hlj, hown, hnew, hu, qu, pu⟩
  have zu := pu.size
  have done : adv (repO r l.length) s1 = adv (repO r x.toNat) s1 → Got (repO r x.toNat) s1 l → ∃ (B' : Option Addr) (d' : Nat) (l' : List Srt), Value.slice B l.length d = .slice B' l'.length d' ∧ l'.length ≤ d' ∧ l'.length ≤ most ∧ Imm KSrt (Old w) u B' l' ∧
      Rdr b A c w0 u g (adv (someO most r) s) ∧ Got (someO most r) s l' ∧ Fr (At g) w u := fun he hq =>
    ⟨B, d, l, rfl, hown.le, by omega, own_old KSrt_pos hown hnew, by rw [hsm, ← he]; exact hu, qx.some (by rw [← hs1]; exact hq), pu⟩
  refine brd (fun hj => ?_) (fun hj => ?_)
  · obtain ⟨a, ha, bk, hst⟩ := hu.st
    refine ⟨_, rfl, _, bk.cell rfl, brnb (fun hf => ?_) (fun ht => ?_)⟩
    · refine ⟨fid, first, cap, rfl, hb, ?_⟩
      refine (hE u _ hu pu).mono ?_
      rintro _ u1 ⟨y, B1, d1, rfl, hd1, hi1, h1, q1, f1⟩
      have hrep : KSrt.rep (Old u) u1 y [.slice B1 y.desc.length d1, .int .i64 y.cols, .bool y.dist] := ⟨B1, d1, rfl, hd1, hi1⟩
      refine ⟨_, _, _, _, _, rfl, fun g3 u2 f3 => ?_⟩
      obtain ⟨rfl, rfl⟩ := f3
      have hown1 := own_fr hgw hown hnew f1
      obtain ⟨B', d', u3, hrun, hown3, hgr⟩ := OwnK.push (K := Kd.out (Old w) KSrt) slE_api_Sort (ty := 25) hown1 (rep_old zu hown hrep) (by
        intro v hv
        simp only [List.mem_cons, List.not_mem_nil, or_false] at hv
        rcases hv with rfl | rfl | rfl <;> rfl) (e' := 59) (by simp only [maxLen]; omega) (by omega)
      refine ⟨_, _, _, _, hrun, ?_⟩
      rw [wi ((j : Int) - 1) (by omega) (by omega)]
      have z1 := f1.size
      have hnew' : New w B' := fun k hk => (hgr.sub k hk).elim (fun h => hnew k h) (fun h => by have h : u1.heap.size ≤ k := h; omega)
      refine ⟨⟨l ++ [y], j - 1, rfl, by omega, by rw [List.length_append, List.length_singleton]; omega, hown3, hnew', ?_, ?_, ?_⟩, by dsimp only; omega⟩
      · rw [List.length_append, List.length_singleton, adv_rep]
        exact h1.fr hgr.fr (fun hk => by have := hnew g hk; omega) (fun k hk hB => by have := hnew k hB; omega)
      · rw [List.length_append, List.length_singleton]; exact qu.rep q1
      · exact (pu.trans f1 (fun _ _ h => h) (fun _ _ h => h)).trans hgr.fr (fun _ _ h => h) (fun k hk hB => by have := hnew k hB; omega)
    · have hn : adv (repO r l.length) s1 = none := by cases hq : adv (repO r l.length) s1 with | none => rfl | some z => rw [hq] at ht; cases ht
      have hn' : adv (repO r x.toNat) s1 = none := by rw [← hlj]; exact adv_rep_none hn j
      exact done (by rw [hn, hn']) (Got.bad hn')
  · have hj0 : l.length = x.toNat := by omega
    exact done (by rw [hj0]) (by rw [← hj0]; exact qu)
theorem slE_api_Acc : SlT Tryz.prog 26 61 2 24 [.string ByteArray.empty, .bool false] := ⟨by kernel_rfl, ⟨Tryz.t61, by kernel_rfl, by kernel_rfl, by kernel_rfl, .agg #[.string ByteArray.empty, .bool false], by kernel_rfl, by kernel_rfl⟩, rfl, by decide⟩
theorem some_api_Acc_spec (h : Rdr b A c w0 w g s) (most : Nat) (hm : most ≤ 5000) {r : Rd Tot} {fid : Nat} {first cap : Array Value} (hb : bodied Tryz.prog fid = true)
    (hE : ∀ u s, Rdr b A c w0 u g s → Fr (At g) w u → CallsV Tryz.prog fid (first.toList ++ ([] ++ cap.toList)).toArray u fun v u' => ∃ x : Tot, v = .agg #[.string x.fn, .bool x.dist] ∧ Rdr b A c w0 u' g (adv r s) ∧ Got r s x ∧ Fr (At g) u u') :
    CallsV Tryz.prog 40 #[.pointer (some ⟨g, 0, none⟩), .int .i64 most, .func (.func fid) first cap] w fun v w' => ∃ (B : Option Addr) (d : Nat) (l : List Tot), v = .slice B l.length d ∧ l.length ≤ d ∧ l.length ≤ most ∧ Imm KTot (Old w) w' B l ∧
      Rdr b A c w0 w' g (adv (someO most r) s) ∧ Got (someO most r) s l ∧ Fr (At g) w w' := by
  refine code_some_api_Acc.calls okay ?_
  unfold code_some_api_Acc.W
  have hgw := h.lt
  have h0w := h.ext.size
  refine (rnum_spec h most (by omega)).mono ?_
  rintro _ w1 ⟨x, rfl, h1, qx, hx, f1⟩
  refine ⟨_, rfl, ?_⟩
  obtain ⟨s1, hs1⟩ : ∃ s1, s1 = adv (numO most) s := ⟨_, rfl⟩
  have hsm := adv_some (r := r) qx
  rw [← hs1] at h1 hsm
  refine ⟨fun B n d k u => ∃ (l : List Tot) (j : Nat), n = l.length ∧ k = (j : Int) ∧ l.length + j = x.toNat ∧ OwnK (Kd.out (Old w) KTot) u B d l ∧ New w B ∧ Rdr b A c w0 u g (adv (repO r l.length) s1) ∧ Got (repO r l.length) s1 l ∧ Fr (At g) w u, fun _ _ _ k _ => k.toNat,
    ⟨[], x.toNat, rfl, by omega, by simp, OwnK.nil _ _, New.none _, by rw [List.length_nil, adv_rep0]; exact h1, Got.rep0 _ _, f1⟩, ?_⟩
  rintro B _ d _ u ⟨l, j, rfl, rfl, hlj, hown, hnew, hu, qu, pu⟩
  have zu := pu.size
  have done : adv (repO r l.length) s1 = adv (repO r x.toNat) s1 → Got (repO r x.toNat) s1 l → ∃ (B' : Option Addr) (d' : Nat) (l' : List Tot), Value.slice B l.length d = .slice B' l'.length d' ∧ l'.length ≤ d' ∧ l'.length ≤ most ∧ Imm KTot (Old w) u B' l' ∧
      Rdr b A c w0 u g (adv (someO most r) s) ∧ Got (someO most r) s l' ∧ Fr (At g) w u := fun he hq =>
    ⟨B, d, l, rfl, hown.le, by omega, own_old KTot_pos hown hnew, by rw [hsm, ← he]; exact hu, qx.some (by rw [← hs1]; exact hq), pu⟩
  refine brd (fun hj => ?_) (fun hj => ?_)
  · obtain ⟨a, ha, bk, hst⟩ := hu.st
    refine ⟨_, rfl, _, bk.cell rfl, brnb (fun hf => ?_) (fun ht => ?_)⟩
    · refine ⟨fid, first, cap, rfl, hb, ?_⟩
      refine (hE u _ hu pu).mono ?_
      rintro _ u1 ⟨y, rfl, h1, q1, f1⟩
      have hrep : KTot.rep (Old u) u1 y [.string y.fn, .bool y.dist] := rfl
      refine ⟨_, _, rfl, fun g3 u2 f3 => ?_⟩
      obtain ⟨rfl, rfl⟩ := f3
      have hown1 := own_fr hgw hown hnew f1
      obtain ⟨B', d', u3, hrun, hown3, hgr⟩ := OwnK.push (K := Kd.out (Old w) KTot) slE_api_Acc (ty := 26) hown1 (rep_old zu hown hrep) (by
        intro v hv
        simp only [List.mem_cons, List.not_mem_nil, or_false] at hv
        rcases hv with rfl | rfl <;> rfl) (e' := 61) (by simp only [maxLen]; omega) (by omega)
      refine ⟨_, _, _, _, hrun, ?_⟩
      rw [wi ((j : Int) - 1) (by omega) (by omega)]
      have z1 := f1.size
      have hnew' : New w B' := fun k hk => (hgr.sub k hk).elim (fun h => hnew k h) (fun h => by have h : u1.heap.size ≤ k := h; omega)
      refine ⟨⟨l ++ [y], j - 1, rfl, by omega, by rw [List.length_append, List.length_singleton]; omega, hown3, hnew', ?_, ?_, ?_⟩, by dsimp only; omega⟩
      · rw [List.length_append, List.length_singleton, adv_rep]
        exact h1.fr hgr.fr (fun hk => by have := hnew g hk; omega) (fun k hk hB => by have := hnew k hB; omega)
      · rw [List.length_append, List.length_singleton]; exact qu.rep q1
      · exact (pu.trans f1 (fun _ _ h => h) (fun _ _ h => h)).trans hgr.fr (fun _ _ h => h) (fun k hk hB => by have := hnew k hB; omega)
    · have hn : adv (repO r l.length) s1 = none := by cases hq : adv (repO r l.length) s1 with | none => rfl | some z => rw [hq] at ht; cases ht
      have hn' : adv (repO r x.toNat) s1 = none := by rw [← hlj]; exact adv_rep_none hn j
      exact done (by rw [hn, hn']) (Got.bad hn')
  · have hj0 : l.length = x.toNat := by omega
    exact done (by rw [hj0]) (by rw [← hj0]; exact qu)
theorem slE_api_Instr : SlT Tryz.prog 27 46 5 40 [.int .u8 0, .int .i64 0, .int .i64 0, .int .i64 0, .int .i64 0] := ⟨by kernel_rfl, ⟨Tryz.t46, by kernel_rfl, by kernel_rfl, by kernel_rfl, .agg #[.int .u8 0, .int .i64 0, .int .i64 0, .int .i64 0, .int .i64 0], by kernel_rfl, by kernel_rfl⟩, rfl, by decide⟩
theorem some_api_Instr_spec (h : Rdr b A c w0 w g s) (most : Nat) (hm : most ≤ 5000) {r : Rd Ins} {fid : Nat} {first cap : Array Value} (hb : bodied Tryz.prog fid = true)
    (hE : ∀ u s, Rdr b A c w0 u g s → Fr (At g) w u → CallsV Tryz.prog fid (first.toList ++ ([] ++ cap.toList)).toArray u fun v u' => ∃ x : Ins, v = .agg #[.int .u8 x.op, .int .i64 x.a, .int .i64 x.b, .int .i64 x.c, .int .i64 x.d] ∧ Rdr b A c w0 u' g (adv r s) ∧ Got r s x ∧ Fr (At g) u u') :
    CallsV Tryz.prog 42 #[.pointer (some ⟨g, 0, none⟩), .int .i64 most, .func (.func fid) first cap] w fun v w' => ∃ (B : Option Addr) (d : Nat) (l : List Ins), v = .slice B l.length d ∧ l.length ≤ d ∧ l.length ≤ most ∧ Imm KIns (Old w) w' B l ∧
      Rdr b A c w0 w' g (adv (someO most r) s) ∧ Got (someO most r) s l ∧ Fr (At g) w w' := by
  refine code_some_api_Instr.calls okay ?_
  unfold code_some_api_Instr.W
  have hgw := h.lt
  have h0w := h.ext.size
  refine (rnum_spec h most (by omega)).mono ?_
  rintro _ w1 ⟨x, rfl, h1, qx, hx, f1⟩
  refine ⟨_, rfl, ?_⟩
  obtain ⟨s1, hs1⟩ : ∃ s1, s1 = adv (numO most) s := ⟨_, rfl⟩
  have hsm := adv_some (r := r) qx
  rw [← hs1] at h1 hsm
  refine ⟨fun B n d k u => ∃ (l : List Ins) (j : Nat), n = l.length ∧ k = (j : Int) ∧ l.length + j = x.toNat ∧ OwnK (Kd.out (Old w) KIns) u B d l ∧ New w B ∧ Rdr b A c w0 u g (adv (repO r l.length) s1) ∧ Got (repO r l.length) s1 l ∧ Fr (At g) w u, fun _ _ _ k _ => k.toNat,
    ⟨[], x.toNat, rfl, by omega, by simp, OwnK.nil _ _, New.none _, by rw [List.length_nil, adv_rep0]; exact h1, Got.rep0 _ _, f1⟩, ?_⟩
  rintro B _ d _ u ⟨l, j, rfl, rfl, hlj, hown, hnew, hu, qu, pu⟩
  have zu := pu.size
  have done : adv (repO r l.length) s1 = adv (repO r x.toNat) s1 → Got (repO r x.toNat) s1 l → ∃ (B' : Option Addr) (d' : Nat) (l' : List Ins), Value.slice B l.length d = .slice B' l'.length d' ∧ l'.length ≤ d' ∧ l'.length ≤ most ∧ Imm KIns (Old w) u B' l' ∧
      Rdr b A c w0 u g (adv (someO most r) s) ∧ Got (someO most r) s l' ∧ Fr (At g) w u := fun he hq =>
    ⟨B, d, l, rfl, hown.le, by omega, own_old KIns_pos hown hnew, by rw [hsm, ← he]; exact hu, qx.some (by rw [← hs1]; exact hq), pu⟩
  refine brd (fun hj => ?_) (fun hj => ?_)
  · obtain ⟨a, ha, bk, hst⟩ := hu.st
    refine ⟨_, rfl, _, bk.cell rfl, brnb (fun hf => ?_) (fun ht => ?_)⟩
    · refine ⟨fid, first, cap, rfl, hb, ?_⟩
      refine (hE u _ hu pu).mono ?_
      rintro _ u1 ⟨y, rfl, h1, q1, f1⟩
      have hrep : KIns.rep (Old u) u1 y [.int .u8 y.op, .int .i64 y.a, .int .i64 y.b, .int .i64 y.c, .int .i64 y.d] := rfl
      refine ⟨_, _, _, _, _, rfl, fun g3 u2 f3 => ?_⟩
      obtain ⟨rfl, rfl⟩ := f3
      have hown1 := own_fr hgw hown hnew f1
      obtain ⟨B', d', u3, hrun, hown3, hgr⟩ := OwnK.push (K := Kd.out (Old w) KIns) slE_api_Instr (ty := 27) hown1 (rep_old zu hown hrep) (by
        intro v hv
        simp only [List.mem_cons, List.not_mem_nil, or_false] at hv
        rcases hv with rfl | rfl | rfl | rfl | rfl <;> rfl) (e' := 46) (by simp only [maxLen]; omega) (by omega)
      refine ⟨_, _, _, _, hrun, ?_⟩
      rw [wi ((j : Int) - 1) (by omega) (by omega)]
      have z1 := f1.size
      have hnew' : New w B' := fun k hk => (hgr.sub k hk).elim (fun h => hnew k h) (fun h => by have h : u1.heap.size ≤ k := h; omega)
      refine ⟨⟨l ++ [y], j - 1, rfl, by omega, by rw [List.length_append, List.length_singleton]; omega, hown3, hnew', ?_, ?_, ?_⟩, by dsimp only; omega⟩
      · rw [List.length_append, List.length_singleton, adv_rep]
        exact h1.fr hgr.fr (fun hk => by have := hnew g hk; omega) (fun k hk hB => by have := hnew k hB; omega)
      · rw [List.length_append, List.length_singleton]; exact qu.rep q1
      · exact (pu.trans f1 (fun _ _ h => h) (fun _ _ h => h)).trans hgr.fr (fun _ _ h => h) (fun k hk hB => by have := hnew k hB; omega)
    · have hn : adv (repO r l.length) s1 = none := by cases hq : adv (repO r l.length) s1 with | none => rfl | some z => rw [hq] at ht; cases ht
      have hn' : adv (repO r x.toNat) s1 = none := by rw [← hlj]; exact adv_rep_none hn j
      exact done (by rw [hn, hn']) (Got.bad hn')
  · have hj0 : l.length = x.toNat := by omega
    exact done (by rw [hj0]) (by rw [← hj0]; exact qu)
end
end Go.Proofs.YtaifphjenebgoaaGreatDoor
set_option linter.unusedVariables false
set_option linter.unusedSimpArgs false
namespace Go.Proofs.YtaifphjenebgoaaGreatDoor
open Go Go.Sx R1 K15
section
variable {b : List UInt8} {A : Option Addr} {c : Nat} {w0 w w' : World} {g : Nat} {s : Option (List UInt8)}
theorem rsrt_spec (h : Rdr b A c w0 w g s) :
    CallsV Tryz.prog 39 #[.pointer (some ⟨g, 0, none⟩)] w fun v w' => ∃ (x : Srt) (B1 : Option Addr) (d1 : Nat), v = .agg #[.slice B1 x.desc.length d1, .int .i64 x.cols, .bool x.dist] ∧ x.desc.length ≤ d1 ∧ Imm Kd.bool (Old w) w' B1 x.desc ∧
      Rdr b A c w0 w' g (adv srtO s) ∧ Got srtO s x ∧ Fr (At g) w w' := by
  refine code_reader_sorter.calls okay ?_
  unfold code_reader_sorter.W
  intro g1 w1 f1
  have hg1 := f1.ge
  have hgw := h.lt
  have gne : ¬ At g g1 := fun e => by have e : g1 = g := e; omega
  refine (some_bool_spec (h.ex f1.ext) 30 (by omega) (r := flagO) (fid := 72) (first := #[.pointer (some ⟨g, 0, none⟩)]) (cap := #[]) (by kernel_rfl) (fun u s hu fu => rflag_spec hu)).mono ?_
  rintro _ w2 ⟨B, d, l, rfl, hd, hl, hi, h2, q2, f2⟩
  refine ⟨_, _, _, rfl, ?_⟩
  intro g2 w3 f3
  have hg2 := f3.ge
  have z1 := f1.ext.size
  have z2 := f2.size
  have lt1 := f1.lt
  have gne2 : ¬ At g g2 := fun e => by have e : g2 = g := e; omega
  have g12 : g1 ≠ g2 := by omega
  have hi3 : Imm Kd.bool (fun k => k < w1.heap.size ∨ k = g2) w3 B l := hi.keep (by decide) ⟨f3.ext.size, fun k hk _ => f3.ext.block k hk (fun h => h), fun k hk hh => hh.elim (fun h => h) (fun e => by omega)⟩
  have p3 : Fr (At g) w w3 := ((f1.ext.fr.trans f2 (fun _ _ h => h) (fun _ _ h => h)).ext f3.ext.fr)
  have bk1 : Blk w3 g1 _ := (f1.blk.keep f2 gne).ext f3.ext
  refine ⟨f3.blk.stOK _ 0 (by simp), fun w4 hw4 => ?_⟩
  obtain ⟨b4, f4⟩ := set0 f3.blk hw4 rfl
  have h4 := h.new (by omega) f4 (h2.ex f3.ext)
  have p4 := Fr.new p3 (by omega) f4
  have bk1 := bk1.keep f4 (fun e => g12 e)
  have keepG : ∀ {u v : World}, Fr (At g) u v → Imm Kd.bool (fun k => k < w1.heap.size ∨ k = g2) u B l → Imm Kd.bool (fun k => k < w1.heap.size ∨ k = g2) v B l := fun f hi =>
    hi.keep (by decide) (f.step (fun k _ e => .inl (by have e : k = g := e; omega)) (fun _ _ h => h))
  have keep2 : ∀ {u v : World}, Fr (At g2) u v → Imm Kd.bool (fun k => k < w1.heap.size ∨ k = g2) u B l → Imm Kd.bool (fun k => k < w1.heap.size ∨ k = g2) v B l := fun f hi =>
    hi.keep (by decide) (f.step (fun k _ e => .inr e) (fun _ _ h => h))
  have keep1 : ∀ {u v : World}, Fr (At g1) u v → Imm Kd.bool (fun k => k < w1.heap.size ∨ k = g2) u B l → Imm Kd.bool (fun k => k < w1.heap.size ∨ k = g2) v B l := fun f hi =>
    hi.keep (by decide) (f.step (fun k _ e => .inl (by have e : k = g1 := e; omega)) (fun _ _ h => h))
  have hi4 := keep2 f4 hi3
  refine (rnum_spec h4 60 (by omega)).mono ?_
  rintro _ w5 ⟨x, rfl, h5, q5, hx, f5⟩
  have b5 := b4.keep f5 gne2
  have bk1 := bk1.keep f5 gne
  have hi5 := keepG f5 hi4
  refine ⟨_, rfl, cellOK b5 (by simp), fun w6 hw6 => ?_⟩
  obtain ⟨b6, f6⟩ := cellSet b5 hw6
  have p5 := p4.trans f5 (fun _ _ h => h) (fun _ _ h => h)
  have h6 := h.new (by omega) f6 h5
  have p6 := Fr.new p5 (by omega) f6
  have bk1 := bk1.keep f6 (fun e => g12 e)
  have hi6 := keep2 f6 hi5
  refine (rflag_spec h6).mono ?_
  rintro _ w7 ⟨y, rfl, h7, q7, f7⟩
  have b7 := b6.keep f7 gne2
  have bk1 := bk1.keep f7 gne
  have hi7 := keepG f7 hi6
  refine ⟨_, rfl, cellOK b7 (by simp), fun w8 hw8 => ?_⟩
  obtain ⟨b8, f8⟩ := cellSet b7 hw8
  have p7 := p6.trans f7 (fun _ _ h => h) (fun _ _ h => h)
  have h8 := h.new (by omega) f8 h7
  have p8 := Fr.new p7 (by omega) f8
  have bk1 := bk1.keep f8 (fun e => g12 e)
  have hi8 := keep2 f8 hi7
  refine ⟨_, _, _, b8.cell rfl, _, b8.cell rfl, _, b8.cell rfl, bk1.stOK _ 0 (by simp), fun w9 hw9 => ?_⟩
  obtain ⟨b9, f9⟩ := set0 bk1 hw9 rfl
  have hi9 := keep1 f9 hi8
  refine ⟨_, _, _, b9.cell rfl, _, b9.cell rfl, _, b9.cell rfl, ⟨l, x, y⟩, B, d, rfl, hd, ?_, ?_, ?_, Fr.new p8 hg1 f9⟩
  · exact hi9.keep (by decide) ⟨Nat.le_refl _, fun _ _ _ => rfl, fun k _ hk => .inl (by have hk : k < w.heap.size := hk; omega)⟩
  · unfold srtO
    rw [adv_map, adv_seq, adv_seq]
    exact h.new hg1 f9 h8
  · exact Got.map (fun z : List Bool × (Int × Bool) => (⟨z.1, z.2.1, z.2.2⟩ : Srt)) (q2.seq (Got.seq q5 q7))
end
end Go.Proofs.YtaifphjenebgoaaGreatDoor
set_option linter.unusedVariables false
set_option linter.unusedSimpArgs false
namespace Go.Proofs.YtaifphjenebgoaaGreatDoor
open Go Go.Sx R1 K15
def PZ : Prog := ⟨0, 0, 0, [], [], [], [], [], []⟩
def AZ : PAd := ⟨none, 0, none, 0, none, 0, none, 0, none, 0, none, 0⟩
theorem PIm.zero (w : World) : PIm w PZ AZ := ⟨Imm.nil _ _ _ _, Imm.nil _ _ _ _, Imm.nil _ _ _ _, Imm.nil _ _ _ _, Imm.nil _ _ _ _, Imm.nil _ _ _ _, Nat.zero_le _, Nat.zero_le _, Nat.zero_le _, Nat.zero_le _, Nat.zero_le _, Nat.zero_le _, Nat.zero_le _⟩
section
variable {b : List UInt8} {A : Option Addr} {c : Nat} {w w5 u v z : World} {g g1 g2 g3 : Nat} {s s' : Option (List UInt8)} {cs : List Value}
structure RSt (b : List UInt8) (A : Option Addr) (c : Nat) (w w5 u : World) (g g1 g2 g3 : Nat) (s : Option (List UInt8)) (cs : List Value) : Prop where
  rd : Rdr b A c w u g1 s
  b0 : Blk u g (pcs PZ AZ)
  b2 : Blk u g2 [.pointer (some ⟨g1, 0, none⟩)]
  b3 : Blk u g3 cs
  le : w5.heap.size ≤ u.heap.size
  o0 : w.heap.size ≤ g
  o1 : g < g1
  o2 : g1 < g2
  o3 : g2 < g3
  o4 : g3 < w5.heap.size
theorem RSt.ok (h : RSt b A c w w5 u g g1 g2 g3 s cs) (f : Fr (At g1) u v) {k : Nat} (hk : k < cs.length) (x : Value) : stOK ((⟨g3, 0, none⟩ : Addr).add k) 0 [x] v := by
  have o2 := h.o2
  have o3 := h.o3
  exact cellOK (h.b3.keep f (fun e => by have e : g3 = g1 := e; omega)) hk
theorem RSt.next (h : RSt b A c w w5 u g g1 g2 g3 s cs) (f : Fr (At g1) u v) (rd : Rdr b A c w v g1 s') {k : Nat} {x : Value} (hz : z = setAll ((⟨g3, 0, none⟩ : Addr).add k) 0 [x] v) :
    RSt b A c w w5 z g g1 g2 g3 s' (cs.set k x) ∧ Fr (Old w5) u z := by
  have o0 := h.o0
  have o1 := h.o1
  have o2 := h.o2
  have o3 := h.o3
  have o4 := h.o4
  have hb := h.b3.keep f (fun e => by have e : g3 = g1 := e; omega)
  obtain ⟨b3, q⟩ := cellSet hb hz
  have n1 : ∀ {k : Nat}, k < g3 → ¬ At g3 k := fun hk e => by have e : _ = g3 := e; omega
  have n2 : ∀ {k : Nat}, k ≠ g1 → ¬ At g1 k := fun hk e => hk e
  have g3l : (Fr (At g3)) v z := q
  refine ⟨⟨rd.fr q (n1 (by omega)) (fun k hk => n1 (by omega)), (h.b0.keep f (n2 (by omega))).keep q (n1 (by omega)), (h.b2.keep f (n2 (by omega))).keep q (n1 o3), b3, Nat.le_trans h.le (Nat.le_trans f.size q.size), o0, o1, o2, o3, o4⟩, ?_⟩
  exact f.trans q (fun k _ e => by have e : k = g1 := e; show k < w5.heap.size; omega) (fun k _ e => by have e : k = g3 := e; show k < w5.heap.size; omega)
theorem imm_old {α : Type} {K : Kd α} (hz : 0 < K.size) (h : w5.heap.size ≤ u.heap.size) {B : Option Addr} {l : List α} (hi : Imm K (Old u) v B l) : Imm K (Old w5) v B l :=
  hi.keep hz ⟨Nat.le_refl _, fun _ _ _ => rfl, fun k _ hk => Nat.lt_of_lt_of_le hk h⟩
theorem imm_fr {α : Type} {K : Kd α} (hz : 0 < K.size) {B : Option Addr} {l : List α} (hi : Imm K (Old w5) u B l) (f : Fr (Old w5) u v) : Imm K (Old w5) v B l :=
  hi.keep hz (f.step (fun _ _ h => h) (fun _ _ h => h))
theorem imm_no {α : Type} {K : Kd α} (hz : 0 < K.size) {B : Option Addr} {l : List α} (hi : Imm K (Old w5) u B l) : Imm K NoB u B l :=
  hi.keep hz ⟨Nat.le_refl _, fun _ _ _ => rfl, fun _ _ h => h.elim⟩
set_option maxRecDepth 20000 in
set_option maxHeartbeats 4000000 in
theorem Read_spec (hb : Imm KB NoB w A b) (hc : b.length ≤ c) (hl : b.length ≤ 140737488355328) (hT : Tab w) :
    CallsV Tryz.prog 9 #[.slice A b.length c] w fun v w' => ∃ (q : Prog) (a : PAd) (e : Int), v = .tuple #[pagg q a, .int .i64 e] ∧ PIm w' q a ∧ Ext w w' ∧ ((readO gV b = some q ∧ e = 0) ∨ (readO gV b = none ∧ q = PZ ∧ e = 140)) := by
  refine code_Read.calls okay ?_
  unfold code_Read.W
  intro g w1 f0 g1 w2 f1 g2 w3 f2
  have y0 := f0.ge
  have y1 := f1.ge
  have y2 := f2.ge
  have l0 := f0.lt
  have l1 := f1.lt
  have l2 := f2.lt
  refine ⟨f2.blk.stOK _ 0 (by simp), fun w4 hw4 => ?_⟩
  obtain ⟨b2, q2⟩ := set0 f2.blk hw4 rfl
  intro g3 w5 f3
  have y3 := f3.ge
  have l3 := f3.lt
  have z4 := q2.size
  have n2 : ∀ {k : Nat}, k < g2 → ¬ At g2 k := fun hk e => by have e : _ = g2 := e; omega
  have e3 : Ext w w3 := (f0.ext.trans' f1.ext).trans' f2.ext
  have e4 : Ext w w4 := e3.trans q2 (fun _ _ h => h) (fun k hk e => by have e : k = g2 := e; omega)
  have st : RSt b A c w w5 w5 g g1 g2 g3 (some b) (pcs PZ AZ) :=
    ⟨⟨hb, hc, hl, by omega, e4.trans' f3.ext, 0, Nat.zero_le _, ((f1.blk.ext f2.ext).keep q2 (n2 (by omega))).ext f3.ext, fun r hr => by cases hr; rfl⟩,
      (((f0.blk.ext f1.ext).ext f2.ext).keep q2 (n2 (by omega))).ext f3.ext, b2.ext f3.ext, f3.blk, Nat.le_refl _, by omega, by omega, by omega, by omega, l3⟩
  clear q2 b2 f0 f1 f2 f3 hw4
  have zz := st.le
  refine ⟨_, st.b2.cell0 rfl, ?_⟩
  refine (rnum_spec st.rd 1099511627776 (by omega)).mono ?_
  rintro _ v1 ⟨x1, rfl, d1, k1, r1, h1⟩
  refine ⟨_, rfl, st.ok h1 (by simp) _, fun u1 hu => ?_⟩
  obtain ⟨st, F1⟩ := st.next h1 d1 hu
  refine ⟨_, st.b2.cell0 rfl, ?_⟩
  refine (rnum_spec st.rd 250 (by omega)).mono ?_
  rintro _ v2 ⟨x2, rfl, d2, k2, r2, h2⟩
  refine ⟨_, rfl, st.ok h2 (by simp) _, fun u2 hu => ?_⟩
  obtain ⟨st, F2⟩ := st.next h2 d2 hu
  refine ⟨_, st.b2.cell0 rfl, ?_⟩
  refine (rnum_spec st.rd 1000 (by omega)).mono ?_
  rintro _ v3 ⟨x3, rfl, d3, k3, r3, h3⟩
  refine ⟨_, rfl, st.ok h3 (by simp) _, fun u3 hu => ?_⟩
  obtain ⟨st, F3⟩ := st.next h3 d3 hu
  clear F1 F2 F3
  have ne21 : ¬ At g1 g2 := fun e => by have e : g2 = g1 := e; have := st.o2; omega
  refine ⟨_, st.b2.cell0 rfl, ?_⟩
  refine (some_string_spec st.rd 200 (by omega) (r := textO 200) (fid := 32) (first := #[]) (cap := #[.pointer (some ⟨g2, 0, none⟩)]) (by kernel_rfl) (fun u s hu fu => rtextf_spec hu (st.b2.keep fu ne21))).mono ?_
  rintro _ v4 ⟨B4, c4, m4, rfl, hc4, hm4, i4, d4, k4, h4⟩
  have i4 := imm_old KStr_pos st.le i4
  refine ⟨_, _, _, rfl, st.ok h4 (by simp) _, fun u4 hu => ?_⟩
  have f4 := (cellSet (st.b3.keep h4 (fun e => by have e : g3 = g1 := e; have := st.o2; have := st.o3; omega)) hu).2
  have o4 := st.o4
  have o3 := st.o3
  have set3 : ∀ {u v : World}, Fr (fun k => k = g3) u v → Fr (Old w5) u v := fun f => f.mono (fun k _ e => by show k < w5.heap.size; omega)
  have i4 := imm_fr KStr_pos i4 (set3 f4)
  obtain ⟨st, F4⟩ := st.next h4 d4 hu
  refine ⟨_, st.b2.cell0 rfl, _, st.b2.cell0 rfl, ?_⟩
  refine (some_api_Value_spec st.rd 1000 (by omega) (r := K15.constO gV) (fid := 35) (first := #[.pointer (some ⟨g1, 0, none⟩)]) (cap := #[]) (by kernel_rfl) (fun u s hu fu => rconst_spec hu)).mono ?_
  rintro _ v5 ⟨B5, c5, m5, rfl, hc5, hm5, i5, d5, k5, h5⟩
  have i5 := imm_old KV_pos st.le i5
  refine ⟨_, _, _, rfl, st.ok h5 (by simp) _, fun u5 hu => ?_⟩
  have i5 := imm_fr KV_pos i5 (set3 (cellSet (st.b3.keep h5 (fun e => by have e : g3 = g1 := e; have := st.o2; omega)) hu).2)
  obtain ⟨st, F5⟩ := st.next h5 d5 hu
  have i4 := imm_fr KStr_pos i4 F5
  refine ⟨_, st.b2.cell0 rfl, _, st.b2.cell0 rfl, ?_⟩
  refine (some_api_Cur_spec st.rd 12 (by omega) (r := curO) (fid := 37) (first := #[.pointer (some ⟨g1, 0, none⟩)]) (cap := #[]) (by kernel_rfl) (fun u s hu fu => rcur_spec hu)).mono ?_
  rintro _ v6 ⟨B6, c6, m6, rfl, hc6, hm6, i6, d6, k6, h6⟩
  have i6 := imm_old KCur_pos st.le i6
  refine ⟨_, _, _, rfl, st.ok h6 (by simp) _, fun u6 hu => ?_⟩
  have i6 := imm_fr KCur_pos i6 (set3 (cellSet (st.b3.keep h6 (fun e => by have e : g3 = g1 := e; have := st.o2; omega)) hu).2)
  obtain ⟨st, F6⟩ := st.next h6 d6 hu
  have i4 := imm_fr KStr_pos i4 F6
  have i5 := imm_fr KV_pos i5 F6
  refine ⟨_, st.b2.cell0 rfl, _, st.b2.cell0 rfl, ?_⟩
  refine (some_api_Sort_spec st.rd 6 (by omega) (r := srtO) (fid := 39) (first := #[.pointer (some ⟨g1, 0, none⟩)]) (cap := #[]) (by kernel_rfl) (fun u s hu fu => rsrt_spec hu)).mono ?_
  rintro _ v7 ⟨B7, c7, m7, rfl, hc7, hm7, i7, d7, k7, h7⟩
  have i7 := imm_old KSrt_pos st.le i7
  refine ⟨_, _, _, rfl, st.ok h7 (by simp) _, fun u7 hu => ?_⟩
  have i7 := imm_fr KSrt_pos i7 (set3 (cellSet (st.b3.keep h7 (fun e => by have e : g3 = g1 := e; have := st.o2; omega)) hu).2)
  obtain ⟨st, F7⟩ := st.next h7 d7 hu
  have i4 := imm_fr KStr_pos i4 F7
  have i5 := imm_fr KV_pos i5 F7
  have i6 := imm_fr KCur_pos i6 F7
  refine ⟨_, st.b2.cell0 rfl, _, st.b2.cell0 rfl, ?_⟩
  refine (some_api_Acc_spec st.rd 60 (by omega) (r := totO) (fid := 41) (first := #[.pointer (some ⟨g1, 0, none⟩)]) (cap := #[]) (by kernel_rfl) (fun u s hu fu => rtot_spec hu)).mono ?_
  rintro _ v8 ⟨B8, c8, m8, rfl, hc8, hm8, i8, d8, k8, h8⟩
  have i8 := imm_old KTot_pos st.le i8
  refine ⟨_, _, _, rfl, st.ok h8 (by simp) _, fun u8 hu => ?_⟩
  have i8 := imm_fr KTot_pos i8 (set3 (cellSet (st.b3.keep h8 (fun e => by have e : g3 = g1 := e; have := st.o2; omega)) hu).2)
  obtain ⟨st, F8⟩ := st.next h8 d8 hu
  have i4 := imm_fr KStr_pos i4 F8
  have i5 := imm_fr KV_pos i5 F8
  have i6 := imm_fr KCur_pos i6 F8
  have i7 := imm_fr KSrt_pos i7 F8
  refine ⟨_, st.b2.cell0 rfl, _, st.b2.cell0 rfl, ?_⟩
  refine (some_api_Instr_spec st.rd 4000 (by omega) (r := insO) (fid := 43) (first := #[.pointer (some ⟨g1, 0, none⟩)]) (cap := #[]) (by kernel_rfl) (fun u s hu fu => rins_spec hu)).mono ?_
  rintro _ v9 ⟨B9, c9, m9, rfl, hc9, hm9, i9, d9, k9, h9⟩
  have i9 := imm_old KIns_pos st.le i9
  refine ⟨_, _, _, rfl, st.ok h9 (by simp) _, fun u9 hu => ?_⟩
  have i9 := imm_fr KIns_pos i9 (set3 (cellSet (st.b3.keep h9 (fun e => by have e : g3 = g1 := e; have := st.o2; omega)) hu).2)
  obtain ⟨st, F9⟩ := st.next h9 d9 hu
  have i4 := imm_fr KStr_pos i4 F9
  have i5 := imm_fr KV_pos i5 F9
  have i6 := imm_fr KCur_pos i6 F9
  have i7 := imm_fr KSrt_pos i7 F9
  have i8 := imm_fr KTot_pos i8 F9
  clear F4 F5 F6 F7 F8 F9 h1 h2 h3 h4 h5 h6 h7 h8 h9
  -- what was read, as one
  have got : Got (progO gV) (some b) ⟨x1, x2, x3, m4, m5, m6, m7, m8, m9⟩ := Got.map ofT (x := (x1, (x2, (x3, (m4, (m5, (m6, (m7, (m8, m9))))))))) (Got.seq k1 (Got.seq k2 (Got.seq k3 (Got.seq k4 (Got.seq k5 (Got.seq k6 (Got.seq k7 (Got.seq k8 k9))))))))
  have hs : adv (progO gV) (some b) = adv (someO 4000 insO) (adv (someO 60 totO) (adv (someO 6 srtO) (adv (someO 12 curO) (adv (someO 1000 (K15.constO gV)) (adv (someO 200 (textO 200)) (adv (numO 1000) (adv (numO 250) (adv (numO bigM) (some b))))))))) := by
    unfold progO
    rw [adv_map, adv_seq, adv_seq, adv_seq, adv_seq, adv_seq, adv_seq, adv_seq, adv_seq]
  have hs' := hs.symm
  have rd := st.rd
  have b0 := st.b0
  have b2 := st.b2
  have b3 := st.b3
  have w0g := st.o0
  change Rdr b A c w u9 g1 (adv (someO 4000 insO) (adv (someO 60 totO) (adv (someO 6 srtO) (adv (someO 12 curO) (adv (someO 1000 (K15.constO gV)) (adv (someO 200 (textO 200)) (adv (numO 1000) (adv (numO 250) (adv (numO bigM) (some b)))))))))) at rd
  rw [hs'] at rd
  have b3 : Blk u9 g3 (pcs ⟨x1, x2, x3, m4, m5, m6, m7, m8, m9⟩ ⟨B4, c4, B5, c5, B6, c6, B7, c7, B8, c8, B9, c9⟩) := b3
  have hp : ∀ z, Fr (Old w5) u9 z → PIm z ⟨x1, x2, x3, m4, m5, m6, m7, m8, m9⟩ ⟨B4, c4, B5, c5, B6, c6, B7, c7, B8, c8, B9, c9⟩ := fun z f => ⟨imm_no KStr_pos (imm_fr KStr_pos i4 f), imm_no KV_pos (imm_fr KV_pos i5 f), imm_no KCur_pos (imm_fr KCur_pos i6 f), imm_no KSrt_pos (imm_fr KSrt_pos i7 f), imm_no KTot_pos (imm_fr KTot_pos i8 f), imm_no KIns_pos (imm_fr KIns_pos i9 f),
    by simp only [maxLen]; omega, by simp only [maxLen]; omega, by simp only [maxLen]; omega, by simp only [maxLen]; omega, by simp only [maxLen]; omega, by simp only [maxLen]; omega, hc9⟩
  generalize (⟨x1, x2, x3, m4, m5, m6, m7, m8, m9⟩ : Prog) = p at *
  generalize (⟨B4, c4, B5, c5, B6, c6, B7, c7, B8, c8, B9, c9⟩ : PAd) = a at *
  clear st i4 i5 i6 i7 i8 i9 k1 k2 k3 k4 k5 k6 k7 k8 k9 d1 d2 d3 d4 d5 d6 d7 d8 d9 hs hs'
  have hd : g ≠ g3 := by omega
  have none_ : ∀ (u : World) (e : Ext w u) (bz : Blk u g (pcs PZ AZ)), readO gV b = none → stOK ⟨g, 0, none⟩ 0 (pcs PZ AZ) u ∧ ∀ z, z = setAll ⟨g, 0, none⟩ 0 (pcs PZ AZ) u → Blk z g (pcs PZ AZ) ∧
      ∃ (q : Prog) (a : PAd) (e : Int), Value.tuple #[pagg PZ AZ, .int .i64 140] = .tuple #[pagg q a, .int .i64 e] ∧ PIm z q a ∧ Ext w z ∧ ((readO gV b = some q ∧ e = 0) ∨ (readO gV b = none ∧ q = PZ ∧ e = 140)) := fun u e bz hn => by
    refine ⟨bz.stOK _ 0 (by simp), fun z hz => ?_⟩
    obtain ⟨b1, f1⟩ := set0 bz hz rfl
    exact ⟨b1, PZ, AZ, 140, rfl, PIm.zero z, e.trans f1 (fun _ _ h => h) (fun k hk e => by have e : k = g := e; omega), .inr ⟨hn, rfl, rfl⟩⟩
  obtain ⟨at_, hat, bk, hrest⟩ := rd.st
  have ew := rd.ext
  refine ⟨_, b2.cell0 rfl, _, rfl, _, bk.cell rfl, br (fun hbad => ?_) (fun hbad => ?_)⟩
  · have hn : readO gV b = none := by
      unfold readO
      cases hq : progO gV b with
      | none => rfl
      | some y => rw [adv_ok (x := y.1) (a := y.2) hq] at hbad; cases hbad
    obtain ⟨n1, n2⟩ := none_ u9 ew b0 hn
    refine ⟨n1, fun z hz => ?_⟩
    obtain ⟨b1, n3⟩ := n2 z hz
    repeat (first | refine ⟨_, Blk.cell (b1) (by rfl), ?_⟩ | refine ⟨_, _, _, Blk.cell (b1) (by rfl), ?_⟩)
    exact n3
  obtain ⟨y, hq⟩ : ∃ y, progO gV b = some y := by
    cases hq : progO gV b with
    | none => rw [adv_bad hq] at hbad; cases hbad
    | some y => exact ⟨y, rfl⟩
  have hrest := hrest y.2 (adv_ok (x := y.1) (a := y.2) hq)
  obtain rfl : p = y.1 := got y.1 y.2 hq
  have hre : readO gV b = if y.2 = [] ∧ b.length ≤ 1048576 ∧ checkP y.1 = true then some y.1 else none := by unfold readO; rw [hq]
  refine ⟨_, b2.cell0 rfl, _, rfl, _, bk.cell rfl, brn (fun hne => ?_) (fun heq => ?_)⟩
  · obtain ⟨n1, n2⟩ := none_ u9 ew b0 (by rw [hre, if_neg (fun h => hne (by
      have h := h.1
      rw [hrest] at h
      have := congrArg List.length h
      rw [List.length_drop] at this
      simp only [List.length_nil] at this
      omega))])
    refine ⟨n1, fun z hz => ?_⟩
    obtain ⟨b1, n3⟩ := n2 z hz
    repeat (first | refine ⟨_, Blk.cell (b1) (by rfl), ?_⟩ | refine ⟨_, _, _, Blk.cell (b1) (by rfl), ?_⟩)
    exact n3
  refine brd (fun hlong => ?_) (fun hlong => ?_)
  · obtain ⟨n1, n2⟩ := none_ u9 ew b0 (by rw [hre, if_neg (fun h => by have := h.2.1; omega)])
    refine ⟨n1, fun z hz => ?_⟩
    obtain ⟨b1, n3⟩ := n2 z hz
    repeat (first | refine ⟨_, Blk.cell (b1) (by rfl), ?_⟩ | refine ⟨_, _, _, Blk.cell (b1) (by rfl), ?_⟩)
    exact n3
  repeat (first | refine ⟨_, Blk.cell (b3) (by rfl), ?_⟩ | refine ⟨_, _, _, Blk.cell (b3) (by rfl), ?_⟩)
  refine (Check_spec (hp u9 (.refl _ _)) (hT.ext ew)).mono ?_
  rintro _ v ⟨rfl, k⟩
  have b0 := b0.ext k
  have b3 := b3.ext k
  have ev := ew.trans' k
  refine ⟨_, rfl, brn (fun hbad2 => ?_) (fun hok => ?_)⟩
  · obtain ⟨n1, n2⟩ := none_ v ev b0 (by rw [hre, if_neg (fun h => hbad2 (by rw [if_pos h.2.2]))])
    refine ⟨n1, fun z hz => ?_⟩
    obtain ⟨b1, n3⟩ := n2 z hz
    repeat (first | refine ⟨_, Blk.cell (b1) (by rfl), ?_⟩ | refine ⟨_, _, _, Blk.cell (b1) (by rfl), ?_⟩)
    exact n3
  have hck : checkP y.1 = true := by
    cases hh : checkP y.1 with
    | true => rfl
    | false => rw [hh] at hok; simp at hok
  repeat (first | refine ⟨_, Blk.cell (b3) (by rfl), ?_⟩ | refine ⟨_, _, _, Blk.cell (b3) (by rfl), ?_⟩)
  refine ⟨b0.stOK (pcs y.1 a) 0 (by simp), fun z hz => ?_⟩
  obtain ⟨b1, f1⟩ := set0 b0 hz (by simp)
  have ez := ev.trans f1 (fun _ _ h => h) (fun k hk e => by have e : k = g := e; omega)
  repeat (first | refine ⟨_, Blk.cell (b1) (by rfl), ?_⟩ | refine ⟨_, _, _, Blk.cell (b1) (by rfl), ?_⟩)
  refine ⟨y.1, a, 0, rfl, ?_, ez, .inl ⟨?_, rfl⟩⟩
  · exact hp z ((k.fr (S := Old w5)).trans f1 (fun _ _ h => h) (fun k _ e => by have e : k = g := e; show k < w5.heap.size; omega))
  · have h0 : y.2 = [] := by rw [hrest, show at_ = b.length by omega]; exact List.drop_length
    rw [hre, if_pos ⟨h0, by omega, hck⟩]
end
end Go.Proofs.YtaifphjenebgoaaGreatDoor
set_option linter.unusedVariables false
set_option linter.unusedSimpArgs false
namespace Go.Proofs.YtaifphjenebgoaaGreatDoor
open Go Go.Sx R1 K15
theorem constE_eq {v : V} (hr : right v = true) : constE v = B1.enc 1 ++ (B1.enc (sort v) ++ body v) := by
  have h0 : rightRow [v] = 0 := by simp [rightRow, hr]
  have hp : putL [v] = B1.enc 1 ++ (B1.enc (sort v) ++ body v) := by simp [putL]
  have hs := right_size hr
  have h1 := B1.enc_le_ten (m := 1) (by omega)
  have h2 := B1.enc_le_ten (m := sort v) (sort_lt v hs)
  have h3 := body_length v
  unfold constE putR
  rw [if_neg (by rw [h0]; decide), if_neg (by rw [hp]; simp only [List.length_append]; omega)]
  exact hp
theorem bytesR_ok {p : Prog} (h : (bytesR constE p).2 = 0) : checkP p = true ∧ (bytesR constE p).1 = bytesP constE p := by
  unfold bytesR at h ⊢
  split
  · next hc => rw [if_pos hc] at h; exact absurd h (by decide)
  · next hc =>
    rw [if_neg hc] at h
    split
    · next hb => rw [if_pos hb] at h; exact absurd h (by decide)
    · exact ⟨by simpa using hc, rfl⟩
end Go.Proofs.YtaifphjenebgoaaGreatDoor
set_option linter.unusedVariables false
set_option linter.unusedSimpArgs false
namespace Go.Proofs.YtaifphjenebgoaaGreatDoor
open Go Go.Sx R1 K15
theorem bytesE_P {p : Prog} (h : Lim (fun v => right v = true ∧ good v) p) : bytesP constE p = bytesP constP p := by
  have : p.consts.flatMap (fun v => K15.eB (constE v)) = p.consts.flatMap (fun v => K15.eB (constP v)) := by
    have e : ∀ l : List V, (∀ v ∈ l, right v = true ∧ good v) → l.flatMap (fun v => K15.eB (constE v)) = l.flatMap (fun v => K15.eB (constP v)) := fun l => by
      induction l with
      | nil => intro _; rfl
      | cons v l ih =>
        intro hl
        rw [List.flatMap_cons, List.flatMap_cons, ih (fun x hx => hl x (List.mem_cons_of_mem _ hx)), constE_eq (hl v List.mem_cons_self).1, constP_eq]
    exact e _ h.consts.2
  unfold bytesP K15.eL
  rw [this]
theorem wrote {p : Prog} (gp : gProg p) (h : (bytesR constE p).2 = 0) : Lim (fun v => right v = true ∧ good v) p ∧ checkP p = true ∧ (bytesR constE p).1 = bytesP constP p ∧ (bytesP constP p).length ≤ 1048576 ∧ 0 < (bytesP constP p).length := by
  obtain ⟨c1, l1⟩ := bytesR_ok h
  have lim := (checked c1).lim (fun i hi => (gp.code i hi).1) gp.consts
  have he := bytesE_P lim
  refine ⟨lim, c1, by rw [l1, he], ?_, ?_⟩
  · rw [← he]
    unfold bytesR at h
    rw [if_neg (by rw [c1]; decide)] at h
    by_cases hb : 1048576 < (bytesP constE p).length
    · rw [if_pos hb] at h; exact absurd h (by decide)
    · omega
  · unfold bytesP
    rw [List.length_append]
    have := B1.enc_length_pos p.ver.toNat
    unfold K15.eI
    omega
theorem readO_add {p : Prog} (x : UInt8) (h : Lim (fun v => right v = true ∧ good v) p) : readO gV (bytesP constP p ++ [x]) = none := read_more fg h x
set_option maxRecDepth 20000 in
set_option maxHeartbeats 4000000 in
theorem CodeCuts_holds {w : World} {p : Prog} {a : PAd} (hp : PIm w p a) (gp : gProg p) (cut : Int) (more : Nat) (hm : more < 256) (hT : Tab w) :
    CallsV Tryz.prog 3 #[pagg p a, .int .i64 cut, .int .u8 (more : Int)] w fun r w' => r = .bool true ∧ Ext w w' := by
  refine cardindexlaw15_CodeCuts.calls okay ?_
  unfold cardindexlaw15_CodeCuts.W
  intro g w1 f
  have bp : Blk w1 g (pcs p a) := f.blk
  have e1 := f.ext
  clear f
  have fin : ∀ u, Ext w u → CallsV Tryz.prog 7 #[] u fun v w' => ∃ x, v = .bool x ∧ (Value.bool x = .bool true ∧ Ext w w') := fun u e => by
    refine (awake_spec (hT.ext e)).mono ?_
    rintro _ u1 ⟨rfl, e1⟩
    exact ⟨_, rfl, rfl, e.trans' e1⟩
  repeat (first | refine ⟨_, Blk.cell (bp) (by rfl), ?_⟩ | refine ⟨_, _, _, Blk.cell (bp) (by rfl), ?_⟩)
  refine (Great_spec (hp.ext e1)).mono ?_
  rintro _ w2 ⟨b, rfl, k2⟩
  have e2 := e1.trans' k2
  refine ⟨_, rfl, br (fun _ => fin w2 e2) (fun _ => ?_)⟩
  have bp := bp.ext k2
  repeat (first | refine ⟨_, Blk.cell (bp) (by rfl), ?_⟩ | refine ⟨_, _, _, Blk.cell (bp) (by rfl), ?_⟩)
  refine (Bytes_spec (hp.ext e2) (hT.ext e2) gp).mono ?_
  rintro _ w3 ⟨A, c, rfl, ho, k3, _⟩
  have e3 := e2.trans' k3
  refine ⟨_, _, _, _, rfl, brn (fun hne => ?_) (fun h0 => ?_)⟩
  · refine brd (fun _ => fin w3 e3) (fun h => absurd ?_ h)
    have : (bytesR constE p).1 = [] := by
      unfold bytesR at hne ⊢
      split
      · rfl
      · next hc =>
        rw [if_neg hc] at hne
        split
        · rfl
        · next hb => rw [if_neg hb] at hne; exact absurd rfl hne
    rw [this]; rfl
  obtain ⟨lim, hc, hw, hlen, hpos⟩ := wrote gp h0
  rw [hw] at ho ⊢
  refine (Pick_spec w3 cut ((bytesP constP p).length : Int) (by omega) (by omega)).mono ?_
  rintro _ w3 ⟨k, rfl, hk, rfl⟩
  have hle := ho.le
  refine ⟨_, rfl, ⟨by omega, by omega⟩, ?_⟩
  have i3 : Imm KB NoB w3 (cutAt A c 0 1) ((bytesP constP p).take k) := by
    have := (ho.imm (Ω := NoB) (fun _ _ h => h)).cut (lo := 0) (hi := k) (m := c) (by omega)
    rwa [List.drop_zero] at this
  have lk : ((bytesP constP p).take k).length = k := by rw [List.length_take]; omega
  rw [show (Int.toNat (k : Int) - 0) = ((bytesP constP p).take k).length by rw [lk]; omega]
  refine (Read_spec i3 (by rw [lk]; omega) (by rw [lk]; omega) (hT.ext e3)).mono ?_
  rintro _ w4 ⟨q, aq, x, rfl, hq, k4, hr⟩
  have hx : x = 140 := by
    rcases hr with ⟨h1, _⟩ | ⟨_, _, h1⟩
    · rw [read_cut fg lim (by omega)] at h1; cases h1
    · exact h1
  subst hx
  have e4 := e3.trans' k4
  refine ⟨_, _, _, _, _, _, _, _, _, _, _, _, _, _, _, _, _, _, _, _, _, _, rfl, ?_⟩
  intro g5 w5 f5
  refine ⟨f5.blk.stOK (pcs q aq) 0 (by simp), fun w6 hw6 => ?_⟩
  obtain ⟨_, q6⟩ := set0 f5.blk hw6 (by simp)
  have z5 := f5.ge
  have z4 := e4.size
  have y3 := e3.size
  have y4 := k4.size
  have k6 : Ext w3 w6 := (k4.trans' f5.ext).trans q6 (fun _ _ h => h) (fun k hk e => by have e : k = g5 := e; omega)
  have e6 := e3.trans' k6
  intro g7 w7 f7
  obtain ⟨rfl, rfl⟩ := f7
  have hb7 := (ho.ext k6)
  have ho7 : OwnB (w6.alloc (.cells #[] 5)) (some ⟨w6.heap.size, 0, none⟩) 0 [] := ownB_lit (w := w6) (l := []) (by simp)
  obtain ⟨A8, c8, w8, hr8, ho8, hg8⟩ := appendBs ho7 (Src.bytes (P := Tryz.prog) (c := c) ((hb7.ext (Fr.alloc NoB w6 (.cells #[] 5))).imm (Ω := NoB) (fun _ _ h => h))) (by simp; omega) 32 isB
  refine ⟨_, _, _, _, hr8, ?_⟩
  rw [List.nil_append] at ho8 ⊢
  have k8 : Ext w6 w8 := hg8.ext (Fr.alloc NoB w6 _) (New.self w6 0 none)
  have n8 : New w6 A8 := hg8.new (Fr.alloc NoB w6 _) (New.self w6 0 none)
  intro g9 w9 f9
  obtain ⟨rfl, rfl⟩ := f9
  obtain ⟨A9, c9, w9, hr9, ho9, f9, s9, _⟩ := append_one (ty := 32) slB ho8 (cs := [.int .u8 (more : Int)]) rfl (by simp [Value.oneCell']) (e' := 5) (by simp only [maxLen]; omega) (by omega)
  refine ⟨_, _, _, _, hr9, ?_⟩
  have hby : (bytesP constP p).map u8 ++ [.int .u8 (more : Int)] = (bytesP constP p ++ [more.toUInt8]).map u8 := by
    rw [List.map_append, List.map_cons, List.map_nil]
    congr 2
    unfold u8
    rw [B1.toUInt8_toNat hm]
  have ho9 : OwnB w9 A9 c9 (bytesP constP p ++ [more.toUInt8]) := by
    unfold OwnB
    rw [← hby, List.length_append, List.length_singleton]; exact ho9
  have k9 : Ext w6 w9 := k8.trans f9 (fun _ _ h => h) (fun k hk hB => absurd hk (Nat.not_lt.2 (n8 k hB)))
  have e9 := e6.trans' k9
  rw [show (bytesP constP p).length + 1 = (bytesP constP p ++ [more.toUInt8]).length by simp]
  refine (Read_spec (ho9.imm (Ω := NoB) (fun _ _ h => h)) ho9.le (by rw [List.length_append, List.length_singleton]; omega) (hT.ext e9)).mono ?_
  rintro _ w10 ⟨q', aq', x, rfl, hq', k10, hr⟩
  have hx : x = 140 := by
    rcases hr with ⟨h1, _⟩ | ⟨_, _, h1⟩
    · rw [readO_add _ lim] at h1; cases h1
    · exact h1
  subst hx
  have e10 := e9.trans' k10
  refine ⟨_, _, _, _, _, _, _, _, _, _, _, _, _, _, _, _, _, _, _, _, _, _, rfl, ?_⟩
  intro g11 w11 f11
  refine ⟨f11.blk.stOK (pcs q' aq') 0 (by simp), fun w12 hw12 => ?_⟩
  obtain ⟨_, q12⟩ := set0 f11.blk hw12 (by simp)
  have z11 := f11.ge
  have z10 := e10.size
  have e12 : Ext w w12 := (e10.trans' f11.ext).trans q12 (fun _ _ h => h) (fun k hk e => by have e : k = g11 := e; omega)
  exact brd (fun _ => brd (fun _ => fin w12 e12) (fun h => absurd rfl h)) (fun h => absurd rfl h)
end Go.Proofs.YtaifphjenebgoaaGreatDoor
