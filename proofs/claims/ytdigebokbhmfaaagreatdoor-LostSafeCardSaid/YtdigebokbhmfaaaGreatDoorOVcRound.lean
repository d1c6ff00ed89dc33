/- Texts that the law leans on. -/
import Derived.Test.YtdigebokbhmfaaaGreatDoorOVcMap
import Derived.Test.YtdigebokbhmfaaaGreatDoorOVcGuard
import Derived.RangeFuncWrites
import Derived.RangeFuncLeaves
import Derived.OrdersIn
set_option linter.unusedVariables false
set_option linter.unusedSimpArgs false
namespace Go.Vc
open Go.RowKit Go.MapKept
section
variable {P : Program} {K V : Type} [DecidableEq K] {eK : K → Value} {eV : V → Value} {w : World} {r : Nat} {L : List (K × V)} {G : Value → Prop} {kt et t : TypeId}
theorem heap_fr {o : Obj} : Fr [r] w { w with heap := w.heap.setIfInBounds r o } :=
 ⟨rfl, rfl, rfl, by simp, fun j hj hn => by
  have hne : r ≠ j := fun e => hn (by simp [e])
  simp [Array.getElem?_setIfInBounds, hne]⟩
theorem rawE_insert {st : St} {ty : TypeId} {pos : String} {after : Array Edge} {guard : Option (Nat × Bool)} {Kp : St → Prop} {x i y : Operand} {id : Nat} {key : K} {v : V} {kv vv : RV}
  (kl : KL P kt G) (hG : G (eK key)) (hL : ∀ p ∈ L, G (eK p.1)) (inj : ∀ a b, eK a = eK b → a = b) (ht : P.underlying t = some (.map kt et))
  (hx : opv st [] x = some (.s (.c (.x (.map (some r)))))) (hi : opv st [] i = some kv) (hk : kv.den = eK key) (hy : opv st [] y = some vv) (hv : vv.den = eV v) (hl : look st.hp id = some (mapO eK eV r L))
  (hK : hpSetK st.hp id (mapO eK eV r (aput L key v)) (fun hp => st.withHp hp Kp)) :
  RawE P st { dst := none, op := .insert t x i y, type := ty, pos := pos, after := after, guard := guard } Kp := by
 refine ⟨fun ρ hρ hwf w hw => ?_⟩
 have ex := hρ _ _ hx
 have ei := hρ _ _ hi
 have ey := hρ _ _ hy
 rw [hk] at ei
 rw [hv] at ey
 simp only [RV.den, SV.den, CV.den] at ex
 have hm := mapO_at (hw.objs _ (look_mem hl))
 obtain ⟨o, hrun, hat⟩ := run_update (w := w) kl hG hL inj ht hm v
 rw [hpSetK_eq] at hK
 refine ⟨st.setHp (hpSet st.hp id (mapO eK eV r (aput L key v))), _, .inr ⟨rfl, ?_, hK⟩, ⟨rfl, rfl, rfl, rfl⟩, hwf.setO hl (fun b T cells e => by cases e) trivial, hw.setG hl ?_ (mapO_holds hat) (fun b hb => .inl hb)⟩
 ·simp only [execOp, ex, ei, ey, Sem.run_bind, hrun, Result.andThen_ok, Sem.run_pure]
 ·exact heap_fr.mono fun b hb => .inl (mem_nub.2 hb)
end
theorem At.loop1 {P : Program} {Q : Exit → Act → World → Prop} {c : Code} {st : St} (h : At st (c.wp P (Exit.then (c.wp P (Exit.then (fun _ _ => False) Q)) Q))) : At st ((Code.loop c).wp P Q) :=
 ⟨fun hwf a w hr hw => wp_loop_ghost (fun n a w => (n = 1 ∧ c.wp P (Exit.then (c.wp P (Exit.then (fun _ _ => False) Q)) Q) a w) ∨ (n = 0 ∧ c.wp P (Exit.then (fun _ _ => False) Q) a w)) (n := 1) (.inl ⟨rfl, h.out hwf a w hr hw⟩) (fun n a w hI => by
  rcases hI with ⟨rfl, h⟩ | ⟨rfl, h⟩
  ·refine wp_mono h ?_
   intro e a w hq
   cases e with
   | normal => exact ⟨0, by omega, .inr ⟨rfl, hq⟩⟩
   | _ => exact hq
  ·refine wp_mono h ?_
   intro e a w hq
   cases e with
   | normal => exact hq.elim
   | _ => exact hq)⟩
section
variable {P : Program} {r n : Nat}
theorem callsIn_round {f : FuncId} {args : Array Value} {w : World} {R : Ending → World → Prop} (h : Calls P f args w R) : CallsIn (Fence.wide.inRound r) n P f args w R :=
 show CallsIn Fence.wide n P f args w R from callsIn_wide.2 h
theorem rowsIn_round {row : String} {args : Array Value} {w : World} {R : Value → World → Prop} (h : Rows P row args w R) : RowsIn (Fence.wide.inRound r) n P row args w R :=
 fun c cs _ => let ⟨v, w', hr, hs⟩ := h c cs; ⟨v, w', hr, stepsIn_wide.2 hs⟩
theorem uponIn_round {o : Oper} {a : Act} {next next' : Act → World → Prop} {Q : Exit → Act → World → Prop} {res : Result Next} (hn : ∀ a w, next a w → next' a w) (h : o.upon P a next Q res) : o.uponIn (Fence.wide.inRound r) n P a next' Q res := by
 unfold Oper.upon at h
 split at h
 ·exact hn _ _ h
 ·exact hn _ _ h
 ·exact hn _ _ h
 ·refine ⟨fun hd => by simp [Fence.wide] at hd, callsIn_round (h.mono fun e w'' he => ?_)⟩
  cases e with
  | returned v => exact hn _ _ he
  | panicked c => exact he
  | outgrown => exact he
 ·exact ⟨fun hd => by simp [Fence.wide] at hd, rowsIn_round (h.mono fun v w'' hv => hn _ _ hv)⟩
 ·exact h
 ·exact h.elim
def noDf (o : Oper) : Bool := match o.op with | .defer _ => false | _ => true
theorem noDf_spec {o : Oper} (h : noDf o = true) : ∀ c, o.op ≠ .defer c := fun c e => by unfold noDf at h; rw [e] at h; cases h
theorem wpOpsIn_round {ops : Array Oper} {Q : Exit → Act → World → Prop} (hd : ops.toList.all noDf = true) (hq : ¬ LetsOut Q) : ∀ (l : List Nat) (a : Act) (w : World), wpOps P ops Q l a w → wpOpsIn (Fence.wide.inRound r) n P ops Q l a w
 | [], a, w, h => h
 | i :: rest, a, w, h => by
  simp only [wpOps] at h
  simp only [wpOpsIn]
  cases ho : ops[i]? with
  | none => simp only [ho] at h ⊢; exact wpOpsIn_round hd hq rest a w h
  | some o =>
   simp only [ho] at h ⊢
   by_cases hw : Region.wanted o (yielded ops a.tmps) = true
   ·simp only [hw, if_true] at h ⊢
    replace h := h.resolve_right fun x => hq x.2
    refine ⟨fun f _ => trivial, ?_⟩
    have hm : o ∈ ops.toList := by
     rw [← Array.getElem?_toList] at ho
     exact List.mem_of_getElem? ho
    rw [Oper.semAt_eq _ _ _ (noDf_spec (List.all_eq_true.1 hd o hm))]
    exact uponIn_round (wpOpsIn_round hd hq rest) h
   ·simp only [hw, if_false, Bool.false_eq_true] at h ⊢
    exact ⟨fun f _ => trivial, wpOpsIn_round hd hq rest _ w h⟩
theorem wpOps_of_list {ops : Array Oper} {Q : Exit → Act → World → Prop} {a : Act} {w : World} (h : wpList P ops Q ops.toList a w) : wpOps P ops Q (List.range ops.size) a w := by
 rw [List.range_eq_range', ← Array.length_toList, wpOps_eq_wpList ops.toList 0 (by simp)]; exact h
end
namespace Rnd
section
variable {P : Program} {tab : Tab} {Q : Exit → Act → World → Prop} {r n : Nat}
theorem At.region (hT : TabOk P tab) {id : Nat} {l : List Oper} {st : St} (h : run P tab l.toArray l st (fun st' => st'.atEnd (Q .normal))) (hd : l.all noDf = true := by rfl) (hq : ¬ LetsOut Q := by rintro ⟨a, w, h⟩; exact h) : At st ((Code.region id l.toArray false).wpIn (Fence.wide.inRound r) n P Q) :=
 ⟨fun hwf a w hr hw => wpIn_region (wpOpsIn_round (by simpa using hd) hq _ _ _ (wpOps_of_list (by
  simpa using run_sound (Q := Q) hT h hwf hr hw fun st' a' w' hk hwf' hr' hw' => (show Vc.At st'.endR _ from hk).out hwf'.endR a' w' hr'.endR hw'.endR)))⟩
theorem At.planG (hT : TabOk P tab) (hm : P.follows .mixedOrders = true) (hpR : List (Nat × LO)) (p : Plan) {id : Nat} {l : List Oper} {st : St} (hs : Region.noSelect l.toArray = true)
  (hc : p.chk l.toArray false l.toArray.size (Array.replicate l.toArray.size false) = true) (hle : LeH st.hp hpR)
  (h : walkG P tab l.toArray hpR st.S st.ws p st (fun st' => st'.atEnd (Q .normal))) (hd : l.all noDf = true := by rfl) : At st ((Code.region id l.toArray true).wpIn (Fence.wide.inRound r) n P Q) :=
 ⟨fun hwf a w hr hw => by
  have := (walkG_sound (N := Q .normal) hT hs (fun st' a' w' hk hwf' hr' hw' => (show Vc.At st'.endR _ from hk).out hwf'.endR a' w' hr'.endR hw'.endR) p false _ _ st a { w with drawn := w.drawn + 1 } hc h hwf hr hw.drawn hle hw.drawn.fr).1 rfl
  refine wpIn_mono (wpIn_region_draw (id := id) fun t => wpOpsIn_round (by simpa using hd) (Q := onlyN (Q .normal)) (by rintro ⟨a, w, h⟩; exact h) _ _ _ ?_) ?_
  ·simp only [Region.schedule, hm, Bool.true_or, if_true]
   exact wpAny_sound _ t _ a _ (wpAny_of_held _ _ _ _ this)
  ·intro e a w hq
   cases e with
   | normal => exact hq
   | _ => exact hq.elim⟩
theorem At.seq {x y : Code} {st : St} (h : At st (x.wpIn (Fence.wide.inRound r) n P (Exit.then (y.wpIn (Fence.wide.inRound r) n P Q) Q))) : At st ((Code.seq x y).wpIn (Fence.wide.inRound r) n P Q) :=
 ⟨fun hwf a w hr hw => wpIn_seq (h.out hwf a w hr hw)⟩
theorem At.skip {st : St} (h : At st (Q .normal)) : At st (Code.skip.wpIn (Fence.wide.inRound r) n P Q) := ⟨fun hwf a w hr hw => wpIn_skip (h.out hwf a w hr hw)⟩
theorem At.block {id : Nat} {c : Code} {st : St} (h : At st (c.wpIn (Fence.wide.inRound r) n P (Exit.inBlock id Q))) : At st ((Code.block id c).wpIn (Fence.wide.inRound r) n P Q) := ⟨fun hwf a w hr hw => wpIn_block (h.out hwf a w hr hw)⟩
theorem At.cond {c : Operand} {x y : Code} {st : St} {t : Bool} (hc : opv st [] c = some (.s (.c (.b t)))) (ht : t = true → At st (x.wpIn (Fence.wide.inRound r) n P Q)) (hf : t = false → At st (y.wpIn (Fence.wide.inRound r) n P Q)) : At st ((Code.cond c x y).wpIn (Fence.wide.inRound r) n P Q) :=
 ⟨fun hwf a w hr hw => wpIn_cond_split (t := t) (eval_opv hr keys_nil hc) (fun e => (ht e).out hwf a w hr hw) (fun e => (hf e).out hwf a w hr hw)⟩
end
end Rnd
section
variable {P : Program} {α : Type}
variable {tab : Tab}
end
end Go.Vc
