/- Texts that the law leans on. -/
import Derived.Test.YtdigebokbhmfaaaGreatDoorOVcKit
set_option linter.unusedVariables false
set_option linter.unusedSimpArgs false
namespace Go.Vc
theorem Holds.ren {st st' : St} {w : World} (h : Holds st w) (ids : List Nat) (h1 : st'.hp.map Prod.snd = (keepIds ids st.hp).map Prod.snd) (h2 : st'.S = st.S) (h3 : st'.ws = st.ws) : Holds st' w := by
 have hs : List.Sublist (st'.hp.map Prod.snd) (st.hp.map Prod.snd) := by rw [h1]; exact (keepIds_sub ids st.hp).map _
 have e : ∀ s : St, s.blks = (s.hp.map Prod.snd).flatMap LO.blks := fun s => by unfold St.blks; rw [List.flatMap_map]
 have hb : List.Sublist st'.blks st.blks := by
  rw [e, e]
  have key : ∀ {l l' : List LO}, List.Sublist l l' → List.Sublist (l.flatMap LO.blks) (l'.flatMap LO.blks) := by
   intro l l' h
   induction h with
   | slnil => exact .slnil
   | cons a h ih => rw [List.flatMap_cons]; exact ih.trans (List.sublist_append_right _ _)
   | cons_cons a h ih => rw [List.flatMap_cons, List.flatMap_cons]; exact (List.Sublist.refl _).append ih
  exact key hs
 refine ⟨fun o ho => ?_, List.Sublist.nodup hb h.nodup, by rw [h2, h3]; exact h.fr, fun b hb' => by rw [h2, h3]; exact h.own b (hb.subset hb')⟩
 have hm : o.2 ∈ st.hp.map Prod.snd := hs.subset (List.mem_map.2 ⟨o, ho, rfl⟩)
 obtain ⟨q, hq, he⟩ := List.mem_map.1 hm
 rw [← he]; exact h.objs q hq
theorem Holds.renP {st st' : St} {w : World} (h : Holds st w) (h1 : List.Perm (st'.hp.map Prod.snd) (st.hp.map Prod.snd)) (h2 : st'.S = st.S) (h3 : st'.ws = st.ws) : Holds st' w := by
 have e : ∀ s : St, s.blks = (s.hp.map Prod.snd).flatMap LO.blks := fun s => by unfold St.blks; rw [List.flatMap_map]
 have hb : List.Perm st'.blks st.blks := by rw [e, e]; exact h1.flatMap_right _
 refine ⟨fun o ho => ?_, hb.nodup_iff.2 h.nodup, by rw [h2, h3]; exact h.fr, fun b hb' => by rw [h2, h3]; exact h.own b (hb.subset hb')⟩
 have hm : o.2 ∈ st.hp.map Prod.snd := h1.subset (List.mem_map.2 ⟨o, ho, rfl⟩)
 obtain ⟨q, hq, he⟩ := List.mem_map.1 hm
 rw [← he]; exact h.objs q hq
structure Meets {ρ : Type} (F : ρ → St) (Inv : ρ → Prop) (a : Act) (w : World) : Prop where
 out : ∃ p, Inv p ∧ WF (F p) ∧ Rel (F p) a ∧ Holds (F p) w
theorem At.join {P : Program} {Q : Exit → Act → World → Prop} {ρ : Type} (F : ρ → St) (Inv : ρ → Prop) {st : St} {x : Code} {R : Act → World → Prop} (h1 : At st (x.wp P (Exit.then (Meets F Inv) Q))) (h2 : ∀ p, Inv p → At (F p) R) : At st (x.wp P (Exit.then R Q)) :=
 ⟨fun hwf a w hr hw => wp_mono (h1.out hwf a w hr hw) (by
  intro e a w hq
  cases e with
  | normal => obtain ⟨p, hi, hwf', hr', hw'⟩ := hq.out; exact (h2 p hi).out hwf' a w hr' hw'
  | _ => exact hq)⟩
theorem At.meet {ρ : Type} {F : ρ → St} {Inv : ρ → Prop} {st : St} (h : ∀ w, Holds st w → ∃ p, Inv p ∧ Le st (F p) ∧ Holds (F p) w ∧ slotsOk (F p).hp (F p).sl ∧ objsOk (F p).hp (F p).hp) : At st (Meets F Inv) :=
 ⟨fun hwf a w hr hw => let ⟨p, h1, h2, h3, h4, h5⟩ := h w hw; ⟨⟨p, h1, WF.objs h3 h4 h5, h2.rel hr, h3⟩⟩⟩
end Go.Vc
