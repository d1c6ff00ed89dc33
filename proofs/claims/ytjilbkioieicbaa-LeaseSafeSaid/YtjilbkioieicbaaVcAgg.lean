/- Calls that answer a struct in which a slice of its own lies. -/
import Derived.Test.YtjilbkioieicbaaVcFam
namespace Go.Vc
set_option linter.unusedVariables false
set_option linter.unusedSimpArgs false
open Go.RowKit
def AnsG (P : Program) (f : FuncId) (args : List Value) (pre post : List CV) (E size : Nat) (L : List (List CV)) (w : World) : Prop :=
  Calls P f args.toArray w (fun e w' => ∃ v, e = .returned (RV.s (.agg (pre ++ .x v :: post))).den ∧ (LO.row v E size L).holds w' ∧ (∀ b ∈ blkOf v, w.heap.size ≤ b) ∧ Ext w w')
theorem ansG_call {P : Program} {f : FuncId} {args : List Value} {st : St} {d : Option Nat} {K : St → Prop} {pre post : List CV} {E size : Nat} {L : List (List CV)} (hb : Body P f) (hpre : noPs pre = true) (hpost : noPs post = true) (hL : NoP L)
    (h : ∀ w, Holds st w → AnsG P f args pre post E size L w) (hk : ∀ v, st.pushK (.row v E size L) (fun n st1 => goPut st1 d (.s (.agg (pre ++ .o n v :: post))) K)) : UCall P st f args d K :=
  .inl ⟨hb, fun hwf w hw => (h w hw).mono fun e w' ⟨v, he, hrow, hfr, hx⟩ => by
    have hk' := hk v
    simp only [pushK_eq] at hk'
    have hw' : Holds (st.push (.row v E size L)) w' := (hw.ext hx).pushO hrow fun b hb => ⟨fun hm => by have := hw.blk_lt b hm; have := hfr b hb; omega, .inr (Nat.le_trans hw.fr.size (hfr b hb))⟩
    have hok : LOok st.hp (.row v E size L) := ⟨rows_some hrow, fun l hl c hc => noP_ok (hL l hl c hc)⟩
    refine ⟨.s (.agg (pre ++ .o (nid st.hp) v :: post)), st.push (.row v E size L), ?_, push_same, hwf.push hok, ?_, hw', hk'⟩
    · rw [he]; simp [RV.den, SV.den, dens, CV.den]
    · intro c hc
      rcases List.mem_append.1 hc with hc | hc
      · exact noPs_ok hpre c hc
      · rcases List.mem_cons.1 hc with rfl | hc
        · exact ownsAt_slice hrow.1
        · exact noPs_ok hpost c hc⟩
end Go.Vc
