/- Owned lists of things: grown by append, read alone thereafter. -/
import Derived.Test.YtbpcfkahnhlahaaSxConv
set_option linter.unusedVariables false
set_option linter.unusedSimpArgs false
namespace Go.Sx
section
variable {P : Program} {α : Type}
/-- A list of things in an owned block; what the things lead to lies elsewhere. -/
def OwnK (K : Kd α) (w : World) (A : Option Addr) (c : Nat) (l : List α) : Prop :=
  ∃ xs, Own w K.size A l.length c xs ∧ ∀ i a, l[i]? = some a → K.rep (ownB A) w a ((xs.drop (i * K.size)).take K.size)
theorem OwnK.nil (K : Kd α) (w : World) : OwnK K w none 0 [] := ⟨[], Own.nil w _, fun i a h => by simp at h⟩
theorem OwnK.ext {K : Kd α} {w w' : World} {A : Option Addr} {c : Nat} {l : List α} (h : OwnK K w A c l) (e : Ext w w') : OwnK K w' A c l := by
  obtain ⟨xs, ho, hr⟩ := h
  exact ⟨xs, ho.keep e (fun _ _ h => h), fun i a ha => K.keep (hr i a ha) (e.step _)⟩
theorem OwnK.le {K : Kd α} {w : World} {A : Option Addr} {c : Nat} {l : List α} (h : OwnK K w A c l) : l.length ≤ c := by
  obtain ⟨xs, ho, _⟩ := h
  exact ho.le
theorem OwnK.imm {K : Kd α} {w : World} {A : Option Addr} {c : Nat} {l : List α} (h : OwnK K w A c l) (hz : 0 < K.size) : Imm K NoB w A l := by
  obtain ⟨xs, ho, hr⟩ := h
  exact ho.imm hz (fun _ _ h => h) fun i a ha => K.keep (hr i a ha) ⟨Nat.le_refl _, fun _ _ _ => rfl, fun _ _ h => h.elim⟩
theorem Grew.step {A A' : Option Addr} {w w' : World} (g : Grew A A' w w') : Step (ownB A) w (ownB A') w' :=
  g.fr.step (fun _ _ h => h) (fun k hk h => (g.sub k h).elim id (fun h' => absurd hk (Nat.not_lt.2 h')))
theorem OwnK.push {K : Kd α} {t e by_ : Nat} {z : List Value} (T : SlT P t e K.size by_ z) {ty : TypeId} {w : World} {A : Option Addr} {c : Nat} {l : List α} (h : OwnK K w A c l) {a : α} {cs : List Value} (ha : K.rep (ownB A) w a cs)
    (h1 : ∀ v ∈ cs, v.oneCell' = true) {e' : TypeId} (hb : l.length + 1 ≤ maxLen) (hb2 : (l.length + 1) * by_ ≤ 140737488355328) :
    ∃ A' c' w', RunsTo P (Builtin.append_ #[t, t] ty #[.slice A l.length c, .slice (some ⟨w.heap.size, 0, none⟩) 1 1]) (w.alloc (.cells cs.toArray e')) (.slice A' (l ++ [a]).length c') w' ∧ OwnK K w' A' c' (l ++ [a]) ∧ Grew A A' w w' := by
  obtain ⟨xs, ho, hr⟩ := h
  obtain ⟨A', c', w', hrun, ho', hf, hs, _⟩ := append_one (ty := ty) T ho (cs := cs) (K.len ha) h1 (e' := e') hb hb2
  have g : Grew A A' w w' := ⟨hf, hs⟩
  refine ⟨A', c', w', by simpa using hrun, ⟨xs ++ cs, by simpa using ho', fun i b hi => ?_⟩, g⟩
  have hlen := ho.len
  rcases Nat.lt_or_ge i l.length with hlt | hge
  · rw [List.getElem?_append_left hlt] at hi
    have hle : (i + 1) * K.size ≤ xs.length := by rw [hlen]; exact Nat.mul_le_mul_right _ hlt
    rw [Nat.add_mul, Nat.one_mul] at hle
    rw [List.drop_append_of_le_length (by omega), List.take_append_of_le_length (by simp; omega)]
    exact K.keep (hr i b hi) g.step
  · rw [List.getElem?_append_right hge] at hi
    have hi0 : i - l.length = 0 := by
      have := (List.getElem?_eq_some_iff.1 hi).1
      simp at this; omega
    rw [hi0] at hi
    have : i = l.length := by omega
    subst this
    cases hi
    rw [← hlen, List.drop_left, List.take_of_length_le (by rw [K.len ha]; exact Nat.le_refl _)]
    exact K.keep ha g.step
/-- a literal's list -/
theorem ownK_lit {K : Kd α} {w : World} {cs : List Value} {e : TypeId} {l : List α} (hl : cs.length = l.length * K.size) (hn : l.length ≤ maxLen)
    (hr : ∀ i a, l[i]? = some a → K.rep NoB w a ((cs.drop (i * K.size)).take K.size)) : OwnK K (w.alloc (.cells cs.toArray e)) (some ⟨w.heap.size, 0, none⟩) l.length l :=
  ⟨cs, own_lit hl hn, fun i a ha => K.keep (hr i a ha) ((Fr.alloc NoB w _).step (fun _ _ h => h.elim) (fun k hk h => by rw [ownB_some] at h; omega))⟩
theorem KBs_rep {Ω : Nat → Prop} {w : World} {A : Option Addr} {c : Nat} {l : List UInt8} (h : Imm KB Ω w A l) (hc : l.length ≤ c) : KBs.rep Ω w l [.slice A l.length c] := ⟨A, c, rfl, hc, h⟩
end
end Go.Sx
