/- 'BytesDrawer' answers true. -/
import Derived.Test.YtbpcfkahnhlahaaBLimits
import Derived.Test.YtbpcfkahnhlahaaNestsD
import Derived.Test.YtbpcfkahnhlahaaSxOpen
set_option linter.unusedVariables false
set_option linter.unusedSimpArgs false
namespace Go.Proofs.Ytbpcfkahnhlahaa
open Go Go.Sx
/-- a number, as one cell -/
def KN : Kd Nat := ⟨1, fun _ _ a cs => cs = [.int .u64 (a : Int)] ∧ a < 18446744073709551616, fun h => by simp [h.1], fun h _ => h⟩
theorem KN_pos : 0 < KN.size := by decide
theorem opens_u64 {P : Program} {t : TypeId} (h : P.underlying t = some (.int .u64)) : Opens P t KN (fun _ => True) := by
  intro H enc w fuel cs x hx
  obtain ⟨n, rfl, _, hw⟩ := DataW.trod_int h hx
  obtain ⟨m, rfl, hm⟩ := u64_nat hw
  exact ⟨m, ⟨rfl, hm⟩, trivial⟩
abbrev K2 : Kd (List (List UInt8)) := Kd.slice KBs KBs_pos
theorem K2_pos : 0 < K2.size := by decide
def num (ns : List Nat) (i : Nat) : Nat := if i < ns.length then ns.getD i 0 else i * 1000
theorem num_lt {w : World} {A : Option Addr} {ns : List Nat} (h : Imm KN NoB w A ns) (i : Nat) (hi : i < 100) : num ns i < 18446744073709551616 := by
  unfold num
  split
  · rename_i hlt
    obtain ⟨_, _, cs', ⟨_, h2⟩, _⟩ := h.get1 hlt
    simpa [List.getD, hlt] using h2
  · omega
theorem number_spec {w u : World} {A : Option Addr} {c g : Nat} {ns : List Nat} (h : Imm KN NoB w A ns) (hb : Blk u g [.slice A ns.length c]) (he : Ext w u) (i : Nat) (hi : i < 100) :
    CallsV Try.prog 26 #[.int .i64 i, .pointer (some ⟨g, 0, none⟩)] u fun v w' => v = .int .u64 (num ns i : Nat) ∧ w' = u := by
  refine cardindexlaw01_BytesDrawer_1.calls okay ?_
  unfold cardindexlaw01_BytesDrawer_1.W
  refine ⟨_, _, _, hb.cell0 rfl, ?_⟩
  refine brd (fun hlt => ?_) (fun hge => ?_)
  · have hlt' : i < ns.length := by omega
    obtain ⟨ad, hA, cs, ⟨rfl, hn⟩, hc⟩ := (h.ext KN_pos he).get1 hlt'
    refine ⟨_, _, _, hb.cell0 rfl, ad, hA, ⟨by omega, by omega⟩, _, by rw [Int.toNat_natCast]; exact hc 0 _ rfl, ?_, rfl⟩
    simp [num, hlt', List.getD]
  · have hge' : ¬ i < ns.length := by omega
    have e : IntKind.u64.wrap (IntKind.u64.wrap (i : Int) * 1000) = ((i * 1000 : Nat) : Int) := by rw [wu (i : Int) (by omega) (by omega), wu _ (by omega) (by omega)]; omega
    rw [e]
    exact ⟨by rw [num, if_neg hge'], rfl⟩
theorem slBss : SlT Try.prog 46 34 1 24 [.slice none 0 0] := ⟨by kernel_rfl, ⟨Try.t34, by kernel_rfl, by kernel_rfl, by kernel_rfl, .slice none 0 0, by kernel_rfl, by kernel_rfl⟩, rfl, by decide⟩

def trim (l : List (List UInt8)) : List (List UInt8) := (l.take 8).map (·.take 60)
theorem trim_snoc (l : List (List UInt8)) (k : Nat) (hk : k < l.length) : (l.take (k + 1)).map (·.take 60) = (l.take k).map (·.take 60) ++ [(l.getD k []).take 60] := by
  have : l.take (k + 1) = l.take k ++ [l.getD k []] := by rw [List.take_add_one]; simp [List.getD, hk]
  rw [this]; simp
theorem trims_snoc (l : List (List (List UInt8))) (k : Nat) (hk : k < l.length) : (l.take (k + 1)).map trim = (l.take k).map trim ++ [trim (l.getD k [])] := by
  have : l.take (k + 1) = l.take k ++ [l.getD k []] := by rw [List.take_add_one]; simp [List.getD, hk]
  rw [this]; simp
theorem trim_small (l : List (List UInt8)) : (trim l).length ≤ 8 ∧ ∀ b ∈ trim l, b.length ≤ 60 := by
  refine ⟨by simp [trim]; omega, fun b hb => ?_⟩
  simp only [trim, List.mem_map] at hb
  obtain ⟨x, _, rfl⟩ := hb
  simp; omega

/-! ## what stands in the drawer -/
def seg (ns : List Nat) (cs : List (List (List UInt8))) (i : Nat) : List UInt8 := B1.enc (num ns i) ++ encBs (cs.getD i [])
def pre' (ns : List Nat) (cs : List (List (List UInt8))) (a : List UInt8) : Nat → List UInt8
  | 0 => a
  | j + 1 => pre' ns cs a j ++ seg ns cs j
theorem pre_rest (ns : List Nat) (cs : List (List (List UInt8))) (a : List UInt8) (i : Nat) : ∀ j, i ≤ j → ∃ r, pre' ns cs a j = pre' ns cs a i ++ r
  | 0, h => ⟨[], by have : i = 0 := by omega
                    subst this; simp⟩
  | j + 1, h => by
    rcases Nat.lt_or_ge j i with h1 | h1
    · have : i = j + 1 := by omega
      subst this
      exact ⟨[], by simp⟩
    · obtain ⟨r, hr⟩ := pre_rest ns cs a i j h1
      exact ⟨r ++ seg ns cs j, by rw [pre', hr, List.append_assoc]⟩
theorem seg_le (ns : List Nat) (cs : List (List (List UInt8))) (i : Nat) (hn : num ns i < 18446744073709551616) (hc : ∀ l ∈ cs, l.length ≤ 8 ∧ ∀ b ∈ l, b.length ≤ 60) : (seg ns cs i).length ≤ 700 ∧ (cs.getD i []).length ≤ 8 ∧ ∀ b ∈ cs.getD i [], b.length ≤ 60 := by
  have hcc : (cs.getD i []).length ≤ 8 ∧ ∀ b ∈ cs.getD i [], b.length ≤ 60 := by
    by_cases h : i < cs.length
    · exact hc _ (by simp [List.getD, h])
    · simp [List.getD, h]
  have h1 := B1.enc_le_ten hn
  have h2 := encBs_bound (cs.getD i []) 60 hcc.2 (by omega)
  have h3 := B1.enc_le_ten (m := (cs.getD i []).length) (by omega)
  refine ⟨?_, hcc⟩
  have : (seg ns cs i).length = (B1.enc (num ns i)).length + ((B1.enc (cs.getD i []).length).length + ((cs.getD i []).flatMap encB).length) := by simp [seg, encBs]
  rw [this]
  have : (cs.getD i []).length * (60 + 10) ≤ 8 * 70 := Nat.mul_le_mul hcc.1 (Nat.le_refl _)
  omega

set_option maxRecDepth 10000 in
set_option maxHeartbeats 4000000 in
theorem drawer_spec {w : World} {NA LA HA BA : Option Addr} {nc lc hc bc : Nat} {ns : List Nat} {ls : List (List (List UInt8))} {ahead behind : List UInt8} (hN : Imm KN NoB w NA ns) (hL : Imm K2 NoB w LA ls) (hH : Imm KB NoB w HA ahead) (hB : Imm KB NoB w BA behind)
    (hl : ls.length ≤ maxLen) :
    CallsV Try.prog 5 #[.slice NA ns.length nc, .slice LA ls.length lc, .slice HA ahead.length hc, .slice BA behind.length bc] w fun v w' => v = .bool true ∧ Ext w w' := by
  refine cardindexlaw01_BytesDrawer.calls okay ?_
  unfold cardindexlaw01_BytesDrawer.W
  have aw : ∀ w5, Ext w w5 → CallsV Try.prog 14 #[] w5 fun v w' => ∃ x, v = .bool x ∧ ((fun v w' => v = .bool true ∧ Ext w w' : Value → World → Prop) (.bool x) w') := by
    intro w5 e5
    refine (awake_spec w5).mono ?_
    rintro v w6 ⟨rfl, e6⟩
    exact ⟨_, rfl, rfl, e5.trans' e6⟩
  have bN : Blk (w.alloc (.cells #[.slice NA ns.length nc] 45)) w.heap.size [.slice NA ns.length nc] := Blk.alloc _ _ _
  have eW : Ext w (w.alloc (.cells #[.slice NA ns.length nc] 45)) := Fr.alloc NoB w _
  refine brd (fun _ => aw _ eW) (fun hah => brd (fun _ => aw _ eW) (fun hbh => ?_))
  generalize w.alloc (.cells #[.slice NA ns.length nc] 45) = W at *
  generalize w.heap.size = gN at *
  refine ⟨fun A n c w1 => ∃ cs, n = cs.length ∧ cs.length ≤ 12 ∧ (∀ l ∈ cs, l.length ≤ 8 ∧ ∀ b ∈ l, b.length ≤ 60) ∧ Imm K2 NoB w1 A cs ∧ Ext W w1, ?_, ?_⟩
  · rintro A _ c w1 ⟨cs, rfl, hcl, hcs, hC, e1⟩
    have b1 := bN.ext e1
    have e01 := eW.trans' e1
    refine ⟨_, _, to_str bt (hH.ext KB_pos e01) hc, ?_⟩
    obtain ⟨D, cd, w2, hr2, ho2, e2, hn2, _⟩ := to_bytes bt w1 ⟨ahead.toArray⟩ (by simp [maxLen, ByteArray.size]; omega)
    refine ⟨_, _, _, _, hr2, ?_⟩
    have hsb : sb ⟨ahead.toArray⟩ = ahead := by simp [sb]
    rw [hsb] at ho2 ⊢
    refine ⟨fun A2 n2 c2 k w3 => ∃ j : Nat, j ≤ cs.length ∧ k = (j : Int) ∧ n2 = (pre' ns cs ahead j).length ∧ (pre' ns cs ahead j).length ≤ 60 + 700 * j ∧ OwnB w3 A2 c2 (pre' ns cs ahead j) ∧ Ext w1 w3 ∧ New w1 A2, fun _ _ _ k _ => (cs.length - k).toNat, ⟨0, by omega, rfl, rfl, by simp [pre']; omega, ho2, e2, hn2⟩, ?_⟩
    rintro A3 _ c3 _ w3 ⟨j, hj, rfl, rfl, hjl, ho3, e3, hn3⟩
    refine brd (fun hlt => ?_) (fun hge => ?_)
    · obtain ⟨ad, hA, X, cx, hcx, hX, hcell⟩ := hC.item (x := (j : Int)) (by omega) (by omega)
      refine ⟨ad, hA, ⟨by omega, by omega⟩, _, _, _, hcell _ e3, ?_⟩
      rw [Int.toNat_natCast] at hX ⊢
      have hnum := num_lt hN j (by omega)
      refine (number_spec hN (b1.ext e3) (e01.trans' e3) j (by omega)).same ?_
      obtain ⟨hs1, hs2, hs3⟩ := seg_le ns cs j hnum hcs
      refine ⟨_, rfl, ?_⟩
      refine (Uint_spec ho3 (num ns j) hnum (by omega)).mono ?_
      rintro v w4 ⟨A4, c4, rfl, ho4, hg4, _⟩
      have e4 := hg4.ext e3 hn3
      have n4 := hg4.new e3 hn3
      refine ⟨_, _, _, rfl, ?_⟩
      have hsl : (seg ns cs j).length = (B1.enc (num ns j)).length + (encBs (cs.getD j [])).length := by simp [seg]
      refine (Blobs_spec ho4 (hX.toOwn KBs_pos e4 n4) (by omega) (by rw [List.length_append]; omega)).mono ?_
      rintro v w5 ⟨A5, c5, rfl, ho5, hg5⟩
      refine ⟨_, _, _, rfl, ?_⟩
      rw [wi _ (by omega) (by omega)]
      have hcat : pre' ns cs ahead j ++ B1.enc (num ns j) ++ encBs (cs.getD j []) = pre' ns cs ahead (j + 1) := by rw [pre', seg, List.append_assoc]
      rw [hcat] at ho5 ⊢
      refine ⟨⟨j + 1, by omega, rfl, rfl, ?_, ho5, hg5.ext e4 n4, hg5.new e4 n4⟩, by dsimp only; omega⟩
      rw [pre', List.length_append]; omega
    obtain rfl : j = cs.length := by omega
    obtain ⟨A4, c4, w4, hr4, ho4, hg4⟩ := appendBs ho3 (Src.bytes (P := Try.prog) (c := bc) (hB.ext KB_pos (e01.trans' e3))) (by omega) 30
    have e4 := hg4.ext e3 hn3
    refine ⟨_, _, _, _, hr4, _, _, to_str bt ho4.imm0 c4, ?_⟩
    have hle4 := ho4.le
    have hln : (pre' ns cs ahead cs.length ++ behind).length ≤ 60 + 700 * cs.length + 60 := by rw [List.length_append]; omega
    have iW := ho4.imm0
    refine ⟨fun at_ i w5 => ∃ j : Nat, j ≤ cs.length ∧ i = (j : Int) ∧ at_ = ((pre' ns cs ahead j).length : Int) ∧ Ext w4 w5, fun _ i _ => (cs.length - i).toNat, ⟨0, by omega, rfl, rfl, .refl _ _⟩, ?_⟩
    rintro _ _ w5 ⟨i, hi, rfl, rfl, e5⟩
    refine brd (fun hlt => ?_) (fun hge => ?_)
    · obtain ⟨ad, hA, X, cx, hcx, hX, hcell⟩ := (hC.ext K2_pos (e4.trans' e5)).item (x := (i : Int)) (by omega) (by omega)
      refine ⟨ad, hA, ⟨by omega, by omega⟩, _, _, _, hcell _ (.refl _ _), ?_⟩
      rw [Int.toNat_natCast] at hX ⊢
      obtain ⟨r, hr⟩ := pre_rest ns cs ahead (i + 1) cs.length (by omega)
      have hnum := num_lt hN i (by omega)
      obtain ⟨hs1, hs2, hs3⟩ := seg_le ns cs i hnum hcs
      have hwhole : pre' ns cs ahead cs.length ++ behind = pre' ns cs ahead i ++ (B1.enc (num ns i) ++ (encBs (cs.getD i []) ++ (r ++ behind))) := by
        rw [hr, pre', seg]; simp
      have hU := B1.getU_enc (pre' ns cs ahead i) (num ns i) (encBs (cs.getD i []) ++ (r ++ behind)) hnum
      have hG := getBs_full (l := pre' ns cs ahead cs.length ++ behind) (r := r ++ behind) (bs := cs.getD i []) (p := (pre' ns cs ahead i).length + (B1.enc (num ns i)).length) 8 60
        (by rw [hwhole, ← List.drop_drop, List.drop_left, List.drop_left]) (by rw [hwhole]; simp) (by omega) (fun b hb => by have := hs3 b hb; omega)
      rw [if_neg (by omega), if_pos (fun b hb => by have := hs3 b hb; omega)] at hG
      rw [← hwhole] at hU
      refine (GetUint_spec (iW.ext KB_pos e5) (by omega) _).mono ?_
      rw [hU]
      rintro v w6 ⟨rfl, e6⟩
      refine ⟨_, _, _, rfl, ?_⟩
      refine (GetBlobs_own (iW.ext KB_pos (e5.trans' e6)) (by omega) hle4 _ 8 60 (by decide) (by decide)).mono ?_
      dsimp only
      rw [hG]
      dsimp only
      rintro v w7 ⟨R, cr, rfl, hoR, e7, hnR⟩
      refine ⟨_, _, _, _, _, rfl, ?_⟩
      refine brn (fun h => absurd rfl h) (fun _ => brn (fun h => absurd rfl h) (fun _ => ?_))
      have e47 := (e5.trans' e6).trans' e7
      refine (number_spec hN (b1.ext (e4.trans' e47)) (e01.trans' (e4.trans' e47)) i (by omega)).same ?_
      refine ⟨_, rfl, brn (fun h => absurd rfl h) (fun _ => ?_)⟩
      have hoR' := OwnK.weaken (K := Kd.ownBytes w6.heap.size) (K' := KBs) (f := id) (Eq.refl 1) hoR (fun Ω a cs hr => ownBytes_KBs hr)
      rw [List.map_id] at hoR'
      refine (same_spec (hoR'.imm KBs_pos) ((hX.ext KBs_pos (e6.trans' e7))) (by omega)).mono ?_
      rintro v w8 ⟨rfl, e8⟩
      refine ⟨_, rfl, brnb (fun h => by simp at h) (fun _ => ?_)⟩
      have hoR8 := hoR.ext e8
      obtain ⟨xs, hox, hrx⟩ := hoR8
      have e48 := e47.trans' e8
      have hsz6 : w4.heap.size ≤ w6.heap.size := (e5.trans' e6).size
      generalize hbs : cs.getD i [] = bs at *
      have hZ0 : ∀ m, m < bs.length → ∃ g, R = some ⟨g, 0, none⟩ ∧ ∃ B cb, w8.cell? ⟨g, m, none⟩ = some (.slice B (bs.getD m []).length cb) ∧ Wr w4.heap.size g w8 B (bs.getD m []).length := by
        intro m hm
        obtain ⟨B, cb, hcs', hoB, hkB⟩ := hrx m (bs.getD m []) (by simp [List.getD, hm])
        have hx0 : xs[m]? = some (.slice B (bs.getD m []).length cb) := by
          have h1 := congrArg (fun l : List Value => l[0]?) hcs'
          have h2 : ((xs.drop (m * (Kd.ownBytes w6.heap.size).size)).take (Kd.ownBytes w6.heap.size).size)[0]? = xs[m]? := by
            show ((xs.drop (m * 1)).take 1)[0]? = _
            rw [List.getElem?_take_of_lt (by omega), List.getElem?_drop, Nat.mul_one, Nat.add_zero]
          exact h2.symm.trans h1
        obtain ⟨g, hRg, hcg⟩ := hox.cells hx0
        refine ⟨g, hRg, B, cb, hcg, Wr.of hoB fun k hk => ⟨fun e => (hkB k hk).1 ⟨_, hRg, e.symm⟩, Nat.le_trans hsz6 (hkB k hk).2⟩⟩
      let Z : World → Prop := fun u => Ext w4 u ∧ ∀ m, m < bs.length → ∃ g, R = some ⟨g, 0, none⟩ ∧ ∃ B cb, u.cell? ⟨g, m, none⟩ = some (.slice B (bs.getD m []).length cb) ∧ Wr w4.heap.size g u B (bs.getD m []).length
      refine ⟨fun k u => ∃ m : Nat, m ≤ bs.length ∧ k = (m : Int) ∧ Z u, fun k _ => (bs.length - k).toNat, ⟨0, by omega, rfl, e48, hZ0⟩, ?_⟩
      rintro _ u ⟨m, hm, rfl, hZ⟩
      refine brd (fun hltm => ?_) (fun hgem => ?_)
      · obtain ⟨g, hRg, B, cb, hcg, hW⟩ := hZ.2 m (by omega)
        refine ⟨_, hRg, ⟨by omega, by omega⟩, _, _, _, by rw [Int.toNat_natCast, add_new, Nat.zero_add, Nat.mul_one]; exact hcg, ?_⟩
        refine ⟨fun q u2 => ∃ z : Nat, z ≤ (bs.getD m []).length ∧ q = (z : Int) ∧ Z u2, fun q _ => ((bs.getD m []).length - q).toNat, ⟨0, by omega, rfl, hZ⟩, ?_⟩
        rintro _ u2 ⟨z, hz, rfl, hZ2⟩
        have hbl : (bs.getD m []).length ≤ 60 := by
          have : m < bs.length := by omega
          exact hs3 _ (by simp [List.getD, this])
        refine brd (fun hltz => ?_) (fun hgez => ?_)
        · obtain ⟨g2, hRg2, B2, cb2, hcg2, hW2⟩ := hZ2.2 m (by omega)
          refine ⟨_, hRg2, ⟨by omega, by omega⟩, _, _, _, by rw [Int.toNat_natCast, add_new, Nat.zero_add, Nat.mul_one]; exact hcg2, ?_⟩
          obtain ⟨gb, hBg, hgb, hgne, hsome, hfro⟩ := hW2.at (j := z) (by omega)
          refine ⟨_, hBg, ⟨by omega, by omega⟩, ?_⟩
          rw [Int.toNat_natCast, add_new, add_new, Nat.zero_add, Nat.mul_one, Nat.add_zero, wi _ (by omega) (by omega)]
          refine ⟨⟨hsome, hfro⟩, ⟨z + 1, by omega, rfl, hZ2.1.setNew hgb _, fun m' hm' => ?_⟩, by dsimp only; omega⟩
          obtain ⟨g3, hRg3, B3, cb3, hcg3, hW3⟩ := hZ2.2 m' hm'
          have hg32 : g3 = g2 := by rw [hRg2] at hRg3; cases hRg3; rfl
          subst hg32
          refine ⟨g3, hRg3, B3, cb3, ?_, hW3.set gb z _⟩
          have hoth : (u2.setCell ⟨gb, z, none⟩ (.int .u8 0)).heap[g3]? = u2.heap[g3]? := by
            simp only [World.setCell, Array.getElem?_modify]
            rw [if_neg hgne]
          exact (World.cell?_of_block (w := u2) hoth).trans hcg3
        · rw [wi _ (by omega) (by omega)]
          exact ⟨⟨m + 1, by omega, rfl, hZ2⟩, by dsimp only; omega⟩
      · rw [wi _ (by omega) (by omega)]
        refine ⟨⟨i + 1, by omega, rfl, ?_, hZ.1⟩, by omega⟩
        rw [pre', seg, hbs]; simp [Nat.add_assoc]
    · obtain rfl : i = cs.length := by omega
      refine brd (fun _ => ?_) (fun h => absurd rfl h)
      refine ⟨_, _, to_str bt (iW.ext KB_pos e5) c4, ?_⟩
      refine brS (fun _ => ?_) (fun h => absurd rfl h)
      exact aw w5 ((e01.trans' e4).trans' e5)
  · refine ⟨fun A n c i w1 => ∃ j : Nat, j ≤ ls.length ∧ j ≤ 12 ∧ i = (j : Int) ∧ n = ((ls.take j).map trim).length ∧ OwnK K2 w1 A c ((ls.take j).map trim) ∧ Ext W w1 ∧ New W A, fun _ _ _ i _ => (12 - i).toNat, ⟨0, by omega, by omega, rfl, rfl, OwnK.nil _ _, .refl _ _, New.none _⟩, ?_⟩
    rintro A _ c _ w1 ⟨j, hj, hj12, rfl, rfl, ho, e1, hn⟩
    have hlj : ((ls.take j).map trim).length = j := by simp; omega
    have hJ : ∃ cs : List (List (List UInt8)), ((ls.take j).map trim).length = cs.length ∧ cs.length ≤ 12 ∧ (∀ l ∈ cs, l.length ≤ 8 ∧ ∀ b ∈ l, b.length ≤ 60) ∧ Imm K2 NoB w1 A cs ∧ Ext W w1 :=
      ⟨_, rfl, by omega, fun l hl => by
        obtain ⟨x, _, rfl⟩ := List.mem_map.1 hl
        exact trim_small x, ho.imm K2_pos, e1⟩
    refine brd (fun h1 => brd (fun h2 => ?_) (fun _ => hJ)) (fun _ => hJ)
    obtain ⟨ad, hA, X, cx, hcx, hX, hcell⟩ := hL.item (x := (j : Int)) (by omega) (by omega)
    rw [Int.toNat_natCast] at hX hcell hcx ⊢
    have hsnoc := trims_snoc ls j (by omega)
    generalize ls.getD j [] = l at *
    refine ⟨fun A2 n2 c2 k w2 => ∃ m : Nat, m ≤ l.length ∧ m ≤ 8 ∧ k = (m : Int) ∧ n2 = ((l.take m).map (·.take 60)).length ∧ OwnK (Kd.at w KBs) w2 A2 c2 ((l.take m).map (·.take 60)) ∧ Ext w1 w2 ∧ New w1 A2, fun _ _ _ k _ => (8 - k).toNat, ⟨0, by omega, by omega, rfl, rfl, OwnK.nil _ _, .refl _ _, New.none _⟩, ?_⟩
    rintro A2 _ c2 _ w2 ⟨m, hm, hm8, rfl, rfl, ho2, e2, hn2⟩
    have ew2 : Ext w w2 := (eW.trans' e1).trans' e2
    refine ⟨ad, hA, ⟨by omega, by omega⟩, _, _, _, hcell _ ew2, ?_⟩
    have hlm : ((l.take m).map (·.take 60)).length = m := by simp; omega
    refine brd (fun h3 => brd (fun h4 => ?_) (fun h4 => ?_)) (fun h3 => ?_)
    · obtain ⟨ad2, hA2, B, cb, hcb, hB', hcell2⟩ := hX.item (x := (m : Int)) (by omega) (by omega)
      rw [Int.toNat_natCast] at hB' hcell2 hcb
      have hsn2 := trim_snoc l m (by omega)
      generalize l.getD m [] = b at *
      have hmin : (if (60 : Int) < (b.length : Int) then (60 : Int) else (b.length : Int)) = ((min 60 b.length : Nat) : Int) := by split <;> omega
      simp only [Int.toNat_natCast, hmin]
      refine ⟨fun u => Ext w u, ew2.drew, ad, hA, ⟨by omega, by omega⟩, _, _, _, fun u hu => hcell u hu, ad2, hA2, ⟨by omega, by omega⟩, _, _, _, fun u hu => hcell2 u hu,
        ad, hA, ⟨by omega, by omega⟩, _, _, _, fun u hu => hcell u hu, ad2, hA2, ⟨by omega, by omega⟩, _, _, _, fun u hu => hcell2 u hu, ⟨by rw [hmin]; omega, by rw [hmin]; omega⟩, fun u => Ext w u, fun u hu => hu, ew2.drew.alloc _, ?_⟩
      rw [hmin, Int.toNat_natCast]
      have hlen : min 60 b.length - 0 = (b.take 60).length := by rw [List.length_take]; omega
      rw [hlen]
      have hrep : (Kd.at w KBs).rep (ownB A2) w2.drew (b.take 60) [.slice (cutAt B cb 0 1) (b.take 60).length (cb - 0)] := by
        show KBs.rep NoB w (b.take 60) _
        refine ⟨_, _, rfl, by rw [List.length_take]; omega, ?_⟩
        have h1 := hB'.cut (lo := 0) (hi := min 60 b.length) (m := cb) (by omega)
        rw [List.drop_zero, show b.take (min 60 b.length) = b.take 60 by rw [Nat.min_comm]; exact List.take_eq_take_iff.2 (by omega)] at h1
        exact h1
      obtain ⟨A5, c5, w5, hr5, ho5, hg5⟩ := (ho2.ext (Fr.drew NoB w2)).push (K := Kd.at w KBs) slBs (ty := 34) (e' := 30) hrep (by simp [Value.oneCell']) (by simp [maxLen]; omega) (by omega)
      have e5 := hg5.ext e2.drew hn2
      have n5 := hg5.new e2.drew hn2
      rw [← hsn2] at hr5 ho5
      refine ⟨_, _, _, _, hr5, fun u => Ext w u, fun u hu => hu, (eW.trans' e1).trans' e5, ?_⟩
      rw [wi _ (by omega) (by omega)]
      exact ⟨⟨m + 1, by omega, by omega, rfl, rfl, ho5, e5, n5⟩, by omega⟩
    all_goals
      have htr : (l.take m).map (·.take 60) = trim l := by
        unfold trim
        congr 1
        exact List.take_eq_take_iff.2 (by omega)
      rw [htr] at ho2 ⊢
      have hown : ∀ k, ownB A k → k < w1.heap.size := by
        obtain ⟨xs, hox, _⟩ := ho
        exact hox.lt
      have himm : Imm KBs (ownB A) w2 A2 (trim l) := ho2.immAt KBs_pos ew2 (fun k hk ho => absurd (Nat.lt_of_lt_of_le hk eW.size) (Nat.not_lt.2 (hn k ho))) (fun k hk ho => absurd (hown k ho) (Nat.not_lt.2 (hn2 k hk)))
      have hrep : K2.rep (ownB A) w2 (trim l) [.slice A2 (trim l).length c2] := ⟨_, _, rfl, ho2.le, himm⟩
      obtain ⟨A5, c5, w5, hr5, ho5, hg5⟩ := (ho.ext e2).push (K := K2) slBss (ty := 46) (e' := 34) hrep (by simp [Value.oneCell']) (by simp [maxLen]; omega) (by omega)
      rw [← hsnoc] at hr5 ho5
      refine ⟨_, _, _, _, hr5, ?_⟩
      rw [wi _ (by omega) (by omega)]
      exact ⟨⟨j + 1, by omega, by omega, rfl, rfl, ho5, hg5.ext (e1.trans' e2) hn, hg5.new (e1.trans' e2) hn⟩, by dsimp only; omega⟩
end Go.Proofs.Ytbpcfkahnhlahaa
