/- Layer 3: small right rows and keys: no error. -/
import Derived.Test.YtakmlaliglmnmaaR4
set_option linter.unusedVariables false
set_option linter.unusedSimpArgs false
namespace Go.Proofs.Ytakmlaliglmnmaa
open Go Go.Sx R1
/-- a row that is looked at -/
structure SmallR (l : List V) : Prop where
  len : l.length ≤ 200
  rt : ∀ v ∈ l, right v = true
  sz : ∀ v ∈ l, v.s.size ≤ 100
theorem SmallR.row {l : List V} (h : SmallR l) : rightRow l = 0 := by
  unfold rightRow
  rw [if_neg (by have := h.len; omega), if_pos (List.all_eq_true.2 h.rt)]
theorem SmallR.put {l : List V} (h : SmallR l) : putR l = (putL l, 0) := by
  have h1 := B1.enc_le_ten (m := l.length) (by have := h.len; omega)
  have h2 := flat_le (f := fun v => B1.enc (sort v)) (M := 10) l (fun v hv => B1.enc_le_ten (sort_lt v (by have := h.sz v hv; omega)))
  have h3 := flat_le (f := body) (M := 108) l (fun v hv => by have := body_length v; have := h.sz v hv; omega)
  have h4 : (putL l).length ≤ 41610 := by
    unfold putL
    rw [List.length_append, List.length_append]
    have := h.len
    omega
  unfold putR
  rw [h.row, if_neg (by simp), if_neg (by omega)]
theorem SmallR.key {l : List V} (h : SmallR l) {ds : List Bool} (hn : ds.length = l.length) : keyR l ds = (key l ds, 0) ∧ (key l ds).length ≤ 41800 := by
  have h4 := key_le l ds 100 h.sz
  have := h.len
  unfold keyR
  rw [h.row, if_neg (by simp), if_neg (by omega), if_neg (by omega)]
  exact ⟨rfl, by omega⟩
theorem SmallR.nil : SmallR [] := ⟨by simp, by simp, by simp⟩
theorem SmallR.cons {v : V} {l : List V} (hr : right v = true) (hs : v.s.size ≤ 100) (h : SmallR l) (hl : l.length < 200) : SmallR (v :: l) :=
  ⟨by simp; omega, fun x hx => (List.mem_cons.1 hx).elim (fun e => by rw [e]; exact hr) (h.rt x), fun x hx => (List.mem_cons.1 hx).elim (fun e => by rw [e]; exact hs) (h.sz x)⟩
end Go.Proofs.Ytakmlaliglmnmaa
