/- Slices of slices that a function builds; data that a call makes and that is only read afterwards. -/
import Derived.Test.YtjilbkioieicbaaGreatVcPart
namespace Go.Vc
set_option linter.unusedVariables false
set_option linter.unusedSimpArgs false
open Go.RowKit
/-- Rows in blocks of their own, from block n0 on. -/
structure Fam (E size n0 : Nat) (w : World) (vs : List Value) (LL : List (List (List CV))) : Prop where
  len : vs.length = LL.length
  row : ∀ (k : Nat) v L, vs[k]? = some v → LL[k]? = some L → (LO.row v E size L).holds w ∧ ∀ b ∈ blkOf v, n0 ≤ b
  dis : ∀ (i j : Nat) u v, i ≠ j → vs[i]? = some u → vs[j]? = some v → ∀ b ∈ blkOf u, b ∉ blkOf v
section
variable {E size n0 : Nat} {w w' : World} {vs : List Value} {LL : List (List (List CV))}
theorem Fam.get (h : Fam E size n0 w vs LL) {k : Nat} (hk : k < LL.length) : ∃ v L, vs[k]? = some v ∧ LL[k]? = some L ∧ (LO.row v E size L).holds w ∧ ∀ b ∈ blkOf v, n0 ≤ b :=
  ⟨vs[k]'(by rw [h.len]; exact hk), LL[k], List.getElem?_eq_getElem _, List.getElem?_eq_getElem _, h.row k _ _ (List.getElem?_eq_getElem _) (List.getElem?_eq_getElem _)⟩
theorem Fam.lt (h : Fam E size n0 w vs LL) {k : Nat} {v : Value} (hv : vs[k]? = some v) : ∀ b ∈ blkOf v, b < w.heap.size ∧ n0 ≤ b := fun b hb => by
  have hk := (List.getElem?_eq_some_iff.1 hv).1
  obtain ⟨h1, h2⟩ := h.row k v _ hv (List.getElem?_eq_getElem (by rw [← h.len]; exact hk))
  exact ⟨LO.blk_lt h1 b hb, h2 b hb⟩
theorem Fam.frame {S : List Nat} (h : Fam E size n0 w vs LL) (hf : Fr S w w') (hs : ∀ (j : Nat) u, vs[j]? = some u → ∀ b ∈ blkOf u, b ∉ S) : Fam E size n0 w' vs LL :=
  ⟨h.len, fun k v L h1 h2 => let ⟨q1, q2⟩ := h.row k v L h1 h2; ⟨LO.frame hf q1 (hs k v h1), q2⟩, h.dis⟩
theorem get_set' {α : Type} {l : List α} {i j : Nat} {y z : α} (h : (l.set i y)[j]? = some z) : (j = i ∧ z = y) ∨ (j ≠ i ∧ l[j]? = some z) := by
  by_cases e : j = i
  · subst e
    rw [List.getElem?_set] at h
    simp at h
    exact .inl ⟨rfl, h.2.symm⟩
  · exact .inr ⟨e, by rw [List.getElem?_set_ne (by omega)] at h; exact h⟩
theorem Fam.set {S : List Nat} (h : Fam E size n0 w vs LL) (hf : Fr S w w') {k : Nat} {v v' : Value} {L' : List (List CV)} (hk : vs[k]? = some v) (hs : ∀ (j : Nat) u, j ≠ k → vs[j]? = some u → ∀ b ∈ blkOf u, b ∉ S)
    (hrow : (LO.row v' E size L').holds w') (hb : ∀ b ∈ blkOf v', b ∈ blkOf v ∨ w.heap.size ≤ b) (hn : n0 ≤ w.heap.size) : Fam E size n0 w' (vs.set k v') (LL.set k L') := by
  refine ⟨by simp [h.len], fun j u L h1 h2 => ?_, fun i j u x hne h1 h2 => ?_⟩
  · rcases get_set' h1 with ⟨rfl, rfl⟩ | ⟨hj, h1⟩
    · rcases get_set' h2 with ⟨_, rfl⟩ | ⟨hj, _⟩
      · exact ⟨hrow, fun b hb' => (hb b hb').elim (fun q => (h.lt hk b q).2) (fun q => by omega)⟩
      · exact (hj rfl).elim
    · rcases get_set' h2 with ⟨e, _⟩ | ⟨_, h2⟩
      · exact (hj e).elim
      · obtain ⟨q1, q2⟩ := h.row j u L h1 h2
        exact ⟨LO.frame hf q1 (hs j u hj h1), q2⟩
  · rcases get_set' h1 with ⟨rfl, rfl⟩ | ⟨hi, h1⟩
    · rcases get_set' h2 with ⟨e, _⟩ | ⟨hj, h2⟩
      · exact (hne e.symm).elim
      · intro b hb' hb2
        rcases hb b hb' with q | q
        · exact h.dis i j v x (fun e => hj e.symm) hk h2 b q hb2
        · have := (h.lt h2 b hb2).1; omega
    · rcases get_set' h2 with ⟨e1, e2⟩ | ⟨hj, h2⟩
      · intro b hb' hb2
        rw [e2] at hb2
        rcases hb b hb2 with q | q
        · exact h.dis i k u v hi h1 hk b hb' q
        · have := (h.lt h1 b hb').1; omega
      · exact h.dis i j u x hne h1 h2
theorem Fam.nils (n : Nat) : Fam E size n0 w (List.replicate n (.slice none 0 0)) (List.replicate n []) :=
  ⟨by simp, fun k v L h1 h2 => by
    have e1 := List.eq_of_mem_replicate (List.mem_of_getElem? h1)
    have e2 := List.eq_of_mem_replicate (List.mem_of_getElem? h2)
    subst e1 e2
    exact ⟨nil_holds, fun b hb => by simp [blkOf] at hb⟩, fun i j u v _ h1 _ b hb => by
    have e1 := List.eq_of_mem_replicate (List.mem_of_getElem? h1)
    subst e1
    simp [blkOf] at hb⟩
/-- The cells of the outer slice. -/
def cellsX (vs : List Value) : List (List CV) := vs.map (fun v => [.x v])
theorem cellsX_nop (vs : List Value) : NoP (cellsX vs) := NoP.map (fun _ => rfl) vs
theorem Fam.slOf {α : Type} {enc : α → List CV} {hl : ∀ x, (enc x).length = size} {xs : List (List α)} {v : Value} {E' : Nat} (h : Fam E size n0 w vs (xs.map (fun l => l.map enc))) (ho : (LO.row v E' 1 (cellsX vs)).holds w) (hb : ∀ b ∈ blkOf v, n0 ≤ b) {S : List Nat} (hS : ∀ b ∈ S, b < n0)
    (h1 : xs.length ≤ 9223372036854775807) (h2 : ∀ l ∈ xs, l.length ≤ 9223372036854775807) : SlOf (slT (flat size enc hl)) S w v xs := by
  have hlen : vs.length = xs.length := by rw [h.len]; simp
  have ho' := SlOf.of_row (hl := fun _ => rfl) (S := S) (xs := vs) (enc := fun v => [CV.x v]) ho (fun b hb' hs => by have := hb b hb'; have := hS b hs; omega) (by omega)
  refine ⟨ho'.sl, by rw [ho'.len, hlen], h1, fun a n c e hp => ho'.av a n c e (by omega), fun i x hx => ?_⟩
  have hi := (List.getElem?_eq_some_iff.1 hx).1
  obtain ⟨u, hu⟩ : ∃ u, vs[i]? = some u := ⟨_, List.getElem?_eq_getElem (by omega)⟩
  obtain ⟨l, hr, hc⟩ := ho'.elem i u hu
  replace hr : l = [CV.x u] := hr
  subst hr
  obtain ⟨q1, q2⟩ := h.row i u (x.map enc) hu (by simp [hx])
  exact ⟨_, ⟨u, rfl, SlOf.of_row q1 (fun b hb' hs => by have := q2 b hb'; have := hS b hs; omega) (h2 x (List.mem_of_getElem? hx))⟩, hc⟩
theorem Fam.slOfS {α : Type} {enc : α → List CV} {hl : ∀ x, (enc x).length = size} {xs : List (List α)} {v : Value} {E' : Nat} (h : Fam E size n0 w vs (xs.map (fun l => l.map enc))) (ho : (LO.row v E' 1 (cellsX vs)).holds w) {S : List Nat} (hS : ∀ b ∈ S, b ∉ blkOf v ∧ ∀ (j : Nat) u, vs[j]? = some u → b ∉ blkOf u)
    (h1 : xs.length ≤ 9223372036854775807) (h2 : ∀ l ∈ xs, l.length ≤ 9223372036854775807) : SlOf (slT (flat size enc hl)) S w v xs := by
  have hlen : vs.length = xs.length := by rw [h.len]; simp
  have ho' := SlOf.of_row (hl := fun _ => rfl) (S := S) (xs := vs) (enc := fun v => [CV.x v]) ho (fun b hb' hs => (hS b hs).1 hb') (by omega)
  refine ⟨ho'.sl, by rw [ho'.len, hlen], h1, fun a n c e hp => ho'.av a n c e (by omega), fun i x hx => ?_⟩
  have hi := (List.getElem?_eq_some_iff.1 hx).1
  obtain ⟨u, hu⟩ : ∃ u, vs[i]? = some u := ⟨_, List.getElem?_eq_getElem (by omega)⟩
  obtain ⟨l, hr, hc⟩ := ho'.elem i u hu
  replace hr : l = [CV.x u] := hr
  subst hr
  obtain ⟨q1, q2⟩ := h.row i u (x.map enc) hu (by simp [hx])
  exact ⟨_, ⟨u, rfl, SlOf.of_row q1 (fun b hb' hs => (hS b hs).2 i u hu hb') (h2 x (List.mem_of_getElem? hx))⟩, hc⟩
end
/-! ### Data that a call makes -/
/-- What the data reads as, apart from all blocks that were there before. -/
def Fresh {α : Type} (T : Ty α) (n0 : Nat) (w : World) (v : Value) (xs : List α) : Prop := ∀ S : List Nat, (∀ b ∈ S, b < n0) → SlOf T S w v xs
def AnsD (P : Program) (f : FuncId) (args : List Value) {α : Type} (T : Ty α) (xs : List α) (w : World) : Prop :=
  Calls P f args.toArray w (fun e w' => ∃ v, e = .returned v ∧ Fresh T w.heap.size w' v xs ∧ Ext w w')
theorem fresh_call {P : Program} {f : FuncId} {args : List Value} {st : St} {d : Option Nat} {K : St → Prop} {α : Type} {T : Ty α} {xs : List α} (hb : Body P f) (h : ∀ w, Holds st w → AnsD P f args T xs w)
    (hk : ∀ v w w', Holds st w → Ext w w' → SlOf T st.blks w' v xs → goPut (st.snap w') d (.s (.c (.x v))) K) : UCall P st f args d K :=
  .inl ⟨hb, fun hwf w hw => (h w hw).mono fun e w' ⟨v, he, hfr, hx⟩ =>
    ⟨.s (.c (.x v)), st.snap w', he, snap_same, hwf.snap, trivial, hw.snap hx, hk v w w' hw hx (hfr st.blks fun b hb => hw.blk_lt b hb)⟩⟩
/-- What was read at the beginning reads so behind the call. -/
theorem SlOf.over {α : Type} {T : Ty α} {st : St} {w w' : World} {v : Value} {xs : List α} (hw : Holds st w) (hx : Ext w w') (h : SlOf T st.S st.ws v xs) : SlOf T st.blks w' v xs := (hw.lift h).ext hx
/-- From the first beginning on nothing has changed that was there. -/
theorem Fr.over {S : List Nat} {w0 w w' w'' : World} (h0 : Fr [] w0 w) (hx : Ext w w') (hf : Fr S w' w'') (hS : ∀ b ∈ S, w0.heap.size ≤ b) : Ext w0 w'' :=
  have h := h0.trans hx
  ⟨hf.os.trans h.os, hf.tape.trans h.tape, hf.output.trans h.output, Nat.le_trans h.size hf.size, fun k hk _ => by
    rw [hf.block k (Nat.lt_of_lt_of_le hk h.size) (fun hm => by have := hS k hm; omega)]
    exact h.block k hk (by simp), Nat.le_trans h.dr hf.dr⟩
/-! ### A new snapshot, other names -/
theorem Holds.cast {st' : St} {w : World} (ho : ∀ o ∈ st'.hp, o.2.holds w) (hn : st'.blks.Nodup) (hs : ∀ b ∈ st'.blks, b ∈ st'.S) (hw : st'.ws = w) : Holds st' w :=
  ⟨ho, hn, by rw [hw]; exact Fr.refl _ _, fun b hb => .inl (hs b hb)⟩
theorem Holds.again {st st' : St} {w : World} (h : Holds st w) (hs : List.Sublist st'.hp st.hp) (h2 : ∀ b ∈ st'.blks, b ∈ st'.S) (h3 : st'.ws = w) : Holds st' w :=
  Holds.cast (fun o ho => h.objs o (hs.subset ho)) (List.Sublist.nodup (flatMap_sub hs) h.nodup) h2 h3
theorem row_dens {w : World} {v : Value} {E size : Nat} {L L' : List (List CV)} (h : (LO.row v E size L).holds w) (e : dens L'.flatten = dens L.flatten) (hl : L'.length = L.length) (hs : ∀ l ∈ L', l.length = size) : (LO.row v E size L').holds w := by
  refine ⟨?_, hs⟩
  rw [e, hl]; exact h.1
theorem dens_cellsX : ∀ (vs : List Value), dens (cellsX vs).flatten = vs
  | [] => rfl
  | v :: vs => by
    have := dens_cellsX vs
    simp only [cellsX, dens] at this
    simp [cellsX, dens, CV.den]
    have h2 : List.map CV.den (List.map (fun v => [CV.x v]) vs).flatten = vs := this
    simpa using h2
theorem dens_set : ∀ (vs : List Value) (k : Nat) (c : CV), dens ((cellsX vs).set k [c]).flatten = vs.set k c.den
  | [], k, c => rfl
  | v :: vs, 0, c => by
    have := dens_cellsX vs
    show dens ([c] ++ (cellsX vs).flatten) = _
    simp only [dens, List.map_append] at this ⊢
    rw [this]; rfl
  | v :: vs, k + 1, c => by
    have := dens_set vs k c
    show dens ([CV.x v] ++ ((cellsX vs).set k [c]).flatten) = _
    simp only [dens, List.map_append] at this ⊢
    rw [this]; rfl
theorem cellsX_one {vs : List Value} {k : Nat} {c : CV} : ∀ l ∈ (cellsX vs).set k [c], l.length = 1 := fun l hl => by
  rcases List.mem_or_eq_of_mem_set hl with h | h
  · obtain ⟨v, _, rfl⟩ := List.mem_map.1 h; rfl
  · rw [h]; rfl
/-- One of the inner slices under a name of its own. -/
theorem row_focus {w : World} {v : Value} {E : Nat} {vs : List Value} (h : (LO.row v E 1 (cellsX vs)).holds w) {k id : Nat} {u : Value} (hu : vs[k]? = some u) : (LO.row v E 1 ((cellsX vs).set k [.o id u])).holds w := by
  refine row_dens h ?_ (by simp) cellsX_one
  rw [dens_set, dens_cellsX]
  obtain ⟨h1, h2⟩ := List.getElem?_eq_some_iff.1 hu
  apply List.ext_getElem?
  intro j
  by_cases e : k = j
  · subst e; rw [List.getElem?_set]; simp [h1, CV.den, h2]
  · rw [List.getElem?_set_ne e]
theorem row_unfocus {w : World} {v : Value} {E : Nat} {vs : List Value} {k id : Nat} {u : Value} (h : (LO.row v E 1 ((cellsX vs).set k [.o id u])).holds w) : (LO.row v E 1 (cellsX (vs.set k u))).holds w := by
  refine row_dens h ?_ (by simp [cellsX]) (fun l hl => by obtain ⟨v, _, rfl⟩ := List.mem_map.1 hl; rfl)
  rw [dens_set, dens_cellsX]; rfl
theorem focus_get {vs : List Value} {k id : Nat} {u : Value} (hk : k < vs.length) : ((cellsX vs).set k [.o id u])[k]? = some [.o id u] := by
  rw [List.getElem?_set]; simp [cellsX, hk]
theorem focus_ok {hp : List (Nat × LO)} {vs : List Value} {k id : Nat} {u : Value} {E size : Nat} {L : List (List CV)} (h : look hp id = some (.row u E size L)) : ∀ l ∈ (cellsX vs).set k [.o id u], ∀ c ∈ l, CVokH hp c := fun l hl c hc => by
  rcases List.mem_or_eq_of_mem_set hl with hl | hl
  · obtain ⟨v, _, rfl⟩ := List.mem_map.1 hl
    simp at hc; subst hc; trivial
  · subst hl
    simp at hc; subst hc; exact ⟨_, _, _, h⟩
theorem apart_of {hp : List (Nat × LO)} (hn : (hp.flatMap fun o => o.2.blks).Nodup) : ∀ {i j : Nat} {o o' : LO}, look hp i = some o → look hp j = some o' → i ≠ j → ∀ c ∈ o.blks, c ∉ o'.blks := by
  induction hp with
  | nil => intro i j o o' h; cases h
  | cons x r ih =>
    obtain ⟨t, u⟩ := x
    rw [List.flatMap_cons, List.nodup_append] at hn
    intro i j o o' h1 h2 hne c hc hc'
    simp only [look] at h1 h2
    split at h1
    · rename_i hb1
      cases h1
      split at h2
      · rename_i hb2
        exact hne ((Nat.eq_of_beq_eq_true hb1).symm.trans (Nat.eq_of_beq_eq_true hb2))
      · exact hn.2.2 c hc c (List.mem_flatMap.2 ⟨_, look_mem h2, hc'⟩) rfl
    · split at h2
      · cases h2
        exact hn.2.2 c hc' c (List.mem_flatMap.2 ⟨_, look_mem h1, hc⟩) rfl
      · exact ih hn.2.1 h1 h2 hne c hc hc'
theorem Holds.apart {st : St} {w : World} (h : Holds st w) {i j : Nat} {o o' : LO} (hi : look st.hp i = some o) (hj : look st.hp j = some o') (hne : i ≠ j) : ∀ c ∈ o.blks, c ∉ o'.blks := apart_of h.nodup hi hj hne
theorem Fr.over1 {S : List Nat} {w0 w' w'' : World} (h0 : Ext w0 w') (hf : Fr S w' w'') (hS : ∀ b ∈ S, w0.heap.size ≤ b) : Ext w0 w'' := Fr.over h0 (Fr.refl _ _) hf hS
end Go.Vc
