/- Texts that the law leans on. -/
import Derived.Test.YtdigebokbhmfaaaGreatDoorOVcPart
set_option linter.unusedVariables false
set_option linter.unusedSimpArgs false
namespace Go.Vc
open Go.RowKit
structure Fam (E size n0 : Nat) (w : World) (vs : List Value) (LL : List (List (List CV))) : Prop where
 len : vs.length = LL.length
 row : ∀ (k : Nat) v L, vs[k]? = some v → LL[k]? = some L → (LO.row v E size L).holds w ∧ ∀ b ∈ blkOf v, n0 ≤ b
 dis : ∀ (i j : Nat) u v, i ≠ j → vs[i]? = some u → vs[j]? = some v → ∀ b ∈ blkOf u, b ∉ blkOf v
section
variable {E size n0 : Nat} {w w' : World} {vs : List Value} {LL : List (List (List CV))}
theorem Fam.lt (h : Fam E size n0 w vs LL) {k : Nat} {v : Value} (hv : vs[k]? = some v) : ∀ b ∈ blkOf v, b < w.heap.size ∧ n0 ≤ b := fun b hb => by
 have hk := (List.getElem?_eq_some_iff.1 hv).1
 obtain ⟨h1, h2⟩ := h.row k v _ hv (List.getElem?_eq_getElem (by rw [← h.len]; exact hk))
 exact ⟨LO.blk_lt h1 b hb, h2 b hb⟩
theorem Fam.frame {S : List Nat} (h : Fam E size n0 w vs LL) (hf : Fr S w w') (hs : ∀ (j : Nat) u, vs[j]? = some u → ∀ b ∈ blkOf u, b ∉ S) : Fam E size n0 w' vs LL :=
 ⟨h.len, fun k v L h1 h2 => let ⟨q1, q2⟩ := h.row k v L h1 h2; ⟨LO.frame hf q1 (hs k v h1), q2⟩, h.dis⟩
theorem get_set' {α : Type} {l : List α} {i j : Nat} {y z : α} (h : (l.set i y)[j]? = some z) : (j = i ∧ z = y) ∨ (j ≠ i ∧ l[j]? = some z) := by
 by_cases e : j = i
 ·subst e
  rw [List.getElem?_set] at h
  simp at h
  exact .inl ⟨rfl, h.2.symm⟩
 ·exact .inr ⟨e, by rw [List.getElem?_set_ne (by omega)] at h; exact h⟩
theorem Fam.set {S : List Nat} (h : Fam E size n0 w vs LL) (hf : Fr S w w') {k : Nat} {v v' : Value} {L' : List (List CV)} (hk : vs[k]? = some v) (hs : ∀ (j : Nat) u, j ≠ k → vs[j]? = some u → ∀ b ∈ blkOf u, b ∉ S)
  (hrow : (LO.row v' E size L').holds w') (hb : ∀ b ∈ blkOf v', b ∈ blkOf v ∨ w.heap.size ≤ b) (hn : n0 ≤ w.heap.size) : Fam E size n0 w' (vs.set k v') (LL.set k L') := by
 refine ⟨by simp [h.len], fun j u L h1 h2 => ?_, fun i j u x hne h1 h2 => ?_⟩
 ·rcases get_set' h1 with ⟨rfl, rfl⟩ | ⟨hj, h1⟩
  ·rcases get_set' h2 with ⟨_, rfl⟩ | ⟨hj, _⟩
   ·exact ⟨hrow, fun b hb' => (hb b hb').elim (fun q => (h.lt hk b q).2) (fun q => by omega)⟩
   ·exact (hj rfl).elim
  ·rcases get_set' h2 with ⟨e, _⟩ | ⟨_, h2⟩
   ·exact (hj e).elim
   ·obtain ⟨q1, q2⟩ := h.row j u L h1 h2
    exact ⟨LO.frame hf q1 (hs j u hj h1), q2⟩
 ·rcases get_set' h1 with ⟨rfl, rfl⟩ | ⟨hi, h1⟩
  ·rcases get_set' h2 with ⟨e, _⟩ | ⟨hj, h2⟩
   ·exact (hne e.symm).elim
   ·intro b hb' hb2
    rcases hb b hb' with q | q
    ·exact h.dis i j v x (fun e => hj e.symm) hk h2 b q hb2
    ·have := (h.lt h2 b hb2).1; omega
  ·rcases get_set' h2 with ⟨e1, e2⟩ | ⟨hj, h2⟩
   ·intro b hb' hb2
    rw [e2] at hb2
    rcases hb b hb2 with q | q
    ·exact h.dis i k u v hi h1 hk b hb' q
    ·have := (h.lt h1 b hb').1; omega
   ·exact h.dis i j u x hne h1 h2
end
theorem SlOf.over {α : Type} {T : Ty α} {st : St} {w w' : World} {v : Value} {xs : List α} (hw : Holds st w) (hx : Ext w w') (h : SlOf T st.S st.ws v xs) : SlOf T st.blks w' v xs := (hw.lift h).ext hx
theorem Fr.over {S : List Nat} {w0 w w' w'' : World} (h0 : Fr [] w0 w) (hx : Ext w w') (hf : Fr S w' w'') (hS : ∀ b ∈ S, w0.heap.size ≤ b) : Ext w0 w'' :=
 have h := h0.trans hx
 ⟨hf.os.trans h.os, hf.tape.trans h.tape, hf.output.trans h.output, Nat.le_trans h.size hf.size, fun k hk _ => by
  rw [hf.block k (Nat.lt_of_lt_of_le hk h.size) (fun hm => by have := hS k hm; omega)]
  exact h.block k hk (by simp)⟩
theorem row_dens {w : World} {v : Value} {E size : Nat} {L L' : List (List CV)} (h : (LO.row v E size L).holds w) (e : dens L'.flatten = dens L.flatten) (hl : L'.length = L.length) (hs : ∀ l ∈ L', l.length = size) : (LO.row v E size L').holds w := by
 refine ⟨?_, hs⟩
 rw [e, hl]; exact h.1
theorem apart_of {hp : List (Nat × LO)} (hn : (hp.flatMap fun o => o.2.blks).Nodup) : ∀ {i j : Nat} {o o' : LO}, look hp i = some o → look hp j = some o' → i ≠ j → ∀ c ∈ o.blks, c ∉ o'.blks := by
 induction hp with
 | nil => intro i j o o' h; cases h
 | cons x r ih =>
  obtain ⟨t, u⟩ := x
  rw [List.flatMap_cons, List.nodup_append] at hn
  intro i j o o' h1 h2 hne c hc hc'
  simp only [look] at h1 h2
  split at h1
  ·rename_i hb1
   cases h1
   split at h2
   ·rename_i hb2
    exact hne ((Nat.eq_of_beq_eq_true hb1).symm.trans (Nat.eq_of_beq_eq_true hb2))
   ·exact hn.2.2 c hc c (List.mem_flatMap.2 ⟨_, look_mem h2, hc'⟩) rfl
  ·split at h2
   ·cases h2
    exact hn.2.2 c hc' c (List.mem_flatMap.2 ⟨_, look_mem h1, hc⟩) rfl
   ·exact ih hn.2.1 h1 h2 hne c hc hc'
theorem Holds.apart {st : St} {w : World} (h : Holds st w) {i j : Nat} {o o' : LO} (hi : look st.hp i = some o) (hj : look st.hp j = some o') (hne : i ≠ j) : ∀ c ∈ o.blks, c ∉ o'.blks := apart_of h.nodup hi hj hne
end Go.Vc
