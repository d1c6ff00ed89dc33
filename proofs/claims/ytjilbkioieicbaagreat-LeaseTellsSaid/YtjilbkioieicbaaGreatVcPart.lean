/- The end of a row; calls that change two objects; blocks that stay. -/
import Derived.Test.YtjilbkioieicbaaGreatVcMore
namespace Go.Vc
set_option linter.unusedVariables false
set_option linter.unusedSimpArgs false
open Go.RowKit
/-- The end of a row. -/
theorem row_suffix {w : World} {v : Value} {E size : Nat} {L : List (List CV)} (h : (LO.row v E size L).holds w) {k : Nat} (hk : k ≤ L.length) {lo hi : Int} (e1 : lo = k) (e2 : hi = L.length) : (LO.row (subV v size lo hi) E size (L.drop k)).holds w := by
  subst e1 e2
  obtain ⟨⟨hlen, hv⟩, hL⟩ := h
  have hL' : ∀ l ∈ L.drop k, l.length = size := fun l hl => hL l (List.mem_of_mem_drop hl)
  have e1 : (dens (L.drop k).flatten).length = (L.drop k).length * size := by simp only [dens, List.length_map]; exact flatten_len hL'
  refine ⟨⟨e1, ?_⟩, hL'⟩
  rcases hv with ⟨rfl, h0⟩ | ⟨g, o, cap, cur, rfl, hg, hnc, hcm, hcs, htake⟩
  · have : k = 0 := by omega
    subst this
    exact .inl ⟨by simp [subV, h0], by simp [h0]⟩
  · by_cases hc : cap = k
    · have hl : L.length = k := by omega
      refine .inr ⟨g, o, 0, cur, ?_, hg, by simp [hl], by omega, by simp only [Nat.zero_mul]; omega, ?_⟩
      · simp [subV, hc, hl]
      · have : L.drop k = [] := List.drop_eq_nil_of_le (by omega)
        simp [this, dens]
    · refine .inr ⟨g, o + k * size, cap - k, cur, ?_, hg, by simp; omega, by omega, ?_, ?_⟩
      · have ha : (⟨g, o, none⟩ : Addr).add (k * size) = ⟨g, o + k * size, none⟩ := addr_add _ _ _
        simp [subV, hc, ha]
      · rw [Nat.add_assoc, ← Nat.add_mul, show k + (cap - k) = cap by omega]; exact hcs
      · rw [flatten_drop hL]
        simp only [dens, List.map_drop, List.length_drop]
        simp only [dens] at htake
        rw [← htake, List.drop_take, List.drop_drop, Nat.sub_mul]
/-- Blocks that were there and are as they were need not be named. -/
theorem Fr.less {S T : List Nat} {w w' : World} (h : Fr S w w') (hs : ∀ b ∈ S, b ∈ T ∨ w'.heap[b]? = w.heap[b]? ∨ w.heap.size ≤ b) : Fr T w w' :=
  ⟨h.os, h.tape, h.output, h.size, fun k hk hn => by
    by_cases hm : k ∈ S
    · rcases hs k hm with h1 | h1 | h1
      · exact (hn h1).elim
      · exact h1
      · omega
    · exact h.block k hk hm, h.dr⟩
/-- A call that changes two objects. -/
theorem two_call {P : Program} {f : FuncId} {args : List Value} {st : St} {d : Option Nat} {K : St → Prop} {i1 i2 : Nat} {o1 o2 : LO} (hb : Body P f) (hl1 : look st.hp i1 = some o1) (hl2 : look st.hp i2 = some o2) (hne : i2 ≠ i1)
    (Good : RV → LO → LO → Prop)
    (h : ∀ w, Holds st w → Calls P f args.toArray w (fun e w' => ∃ r o1' o2', e = .returned (RV.den r) ∧ Good r o1' o2' ∧ o1'.holds w' ∧ o2'.holds w' ∧ Fr (o1.blks ++ o2.blks) w w' ∧ (∀ b ∈ o1'.blks, b ∈ o1.blks ∨ w.heap.size ≤ b) ∧ (∀ b ∈ o2'.blks, b ∈ o2.blks)))
    (hk : ∀ r o1' o2' w', Good r o1' o2' → o1'.holds w' → o2'.holds w' → (Stays o1 o1' ∧ Stays o2 o2' ∧ LOok st.hp o1' ∧ LOok (hpSet st.hp i1 o1') o2' ∧ RVok (hpSet (hpSet st.hp i1 o1') i2 o2') r) ∧ hpSetK st.hp i1 o1' (fun hp1 => hpSetK hp1 i2 o2' (fun hp => st.withHp hp (fun st' => goPut st' d r K)))) : UCall P st f args d K :=
  .inl ⟨hb, fun hwf w hw => (h w hw).mono fun e w' ⟨r, o1', o2', he, hg, hh1, hh2, hf, hbl1, hbl2⟩ => by
    obtain ⟨⟨s1, s2, k1, k2, k3⟩, hK⟩ := hk r o1' o2' w' hg hh1 hh2
    rw [hpSetK_eq, hpSetK_eq] at hK
    have wf1 : WF (st.setHp (hpSet st.hp i1 o1')) := hwf.setO hl1 s1 k1
    have hl2' : look (st.setHp (hpSet st.hp i1 o1')).hp i2 = some o2 := by show look (hpSet st.hp i1 o1') i2 = _; rw [look_hpSet_other hne]; exact hl2
    have wf2 := wf1.setO hl2' s2 k2
    exact ⟨r, st.setHp (hpSet (hpSet st.hp i1 o1') i2 o2'), he, ⟨rfl, rfl, rfl, rfl⟩, wf2, k3, hw.set2 hl1 hl2 hne hf hh1 hh2 hbl1 hbl2, hK⟩⟩
theorem stays_row {v : Value} {E size : Nat} {L : List (List CV)} {o : LO} : Stays (.row v E size L) o := fun b T cells e => by cases e
theorem stays_box {b : Nat} {T : TypeId} {c c' : List CV} : Stays (.box b T c) (.box b T c') := fun b T cells e => by cases e; exact ⟨_, _, rfl⟩
end Go.Vc
