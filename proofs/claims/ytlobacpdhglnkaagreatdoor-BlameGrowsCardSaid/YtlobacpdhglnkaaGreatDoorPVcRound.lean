/- Texts that the law leans on. -/
import Derived.Test.YtlobacpdhglnkaaGreatDoorPVcMap
import Derived.Test.YtlobacpdhglnkaaGreatDoorPVcGuard
import Derived.RangeFuncWrites
import Derived.RangeFuncLeaves
import Derived.OrdersIn
set_option linter.unusedVariables false
set_option linter.unusedSimpArgs false
namespace Go.Vc
open Go.RowKit Go.MapKept
section
variable {P : Program} {K V : Type} [DecidableEq K] {eK : K → Value} {eV : V → Value} {w : World} {r : Nat} {L : List (K × V)} {G : Value → Prop} {kt et t : TypeId}
def aerase (L : List (K × V)) (k : K) : List (K × V) := L.filter fun p => decide (p.1 ≠ k)
theorem aerase_idx : ∀ {L : List (K × V)} {j : Nat} {k : K} {v : V}, L.Pairwise (fun a b => a.1 ≠ b.1) → L[j]? = some (k, v) → aerase L k = L.eraseIdx j
 | [], j, k, v, _, h => by simp at h
 | x :: L, 0, k, v, hp, h => by
  simp only [List.getElem?_cons_zero, Option.some.injEq] at h
  subst h
  rw [List.pairwise_cons] at hp
  unfold aerase
  rw [List.filter_cons_of_neg (by simp), List.eraseIdx_cons_zero, List.filter_eq_self]
  intro y hy
  have := hp.1 y hy
  simp only [decide_eq_true_eq]
  exact fun e => this e.symm
 | x :: L, j + 1, k, v, hp, h => by
  rw [List.pairwise_cons] at hp
  have hx : x.1 ≠ k := hp.1 (k, v) (List.mem_of_getElem? (by simpa using h))
  have ih := aerase_idx hp.2 (j := j) (k := k) (v := v) (by simpa using h)
  unfold aerase at ih ⊢
  rw [List.filter_cons_of_pos (by simpa using hx), ih, List.eraseIdx_cons_succ]
theorem alook_none' {k : K} (h : alook L k = none) : ∀ p ∈ L, p.1 ≠ k := by
 unfold alook at h
 rw [Option.map_eq_none_iff, List.find?_eq_none] at h
 intro p hp
 simpa using h p hp
theorem run_delete (kl : KL P kt G) {k : K} (hG : G (eK k)) (hL : ∀ p ∈ L, G (eK p.1)) (inj : ∀ a b, eK a = eK b → a = b) (ht : P.underlying t = some (.map kt et)) (h : MapAt eK eV w r L) (ty : TypeId) :
  ∃ o, (Builtin.delete_ #[t, kt] ty #[.map (some r), eK k]).run P w = .ok (.tuple #[]) { w with heap := w.heap.setIfInBounds r o } ∧ MapAt eK eV { w with heap := w.heap.setIfInBounds r o } r (aerase L k) := by
 obtain ⟨es, clock, h1, h2, h3⟩ := h
 rcases find_spec (P := P) (w := w) kl hG hL inj h2 h3 with ⟨q1, q2, q3⟩ | ⟨j, u, e, q1, q2, q3, q4, q5⟩
 ·refine ⟨.map es clock, ?_, _, _, (heap_set h1).1, h2, ?_⟩
  ·simp [Builtin.delete_, run_underlying ht, MapKept.run_getObj_map h1, kl.check w _ hG, q1, run_setObj_map _ h1, Result.andThen]
  ·have e : aerase L k = L := by unfold aerase; rw [List.filter_eq_self]; intro p hp; simpa using alook_none' q2 p hp
   rw [e]; exact h3
 ·have hjs : j < es.size := by have := (List.getElem?_eq_some_iff.1 q3).1; simpa using this
  have hsub : (es.eraseIdxIfInBounds j).toList = es.toList.eraseIdx j := by
   unfold Array.eraseIdxIfInBounds
   rw [dif_pos hjs]
   simp
  refine ⟨.map (es.eraseIdxIfInBounds j) clock, ?_, _, _, (heap_set h1).1, stamped_erase h2 j, ?_⟩
  ·simp [Builtin.delete_, run_underlying ht, MapKept.run_getObj_map h1, kl.check w _ hG, q1, run_setObj_map _ h1, Result.andThen]
  ·rw [hsub, aerase_idx (keys_pair h2 h3) q5]
   have e1 : ∀ {α β : Type} (f : α → β) (l : List α) (i : Nat), (l.eraseIdx i).map f = (l.map f).eraseIdx i := by
    intro α β f l
    induction l with
    | nil => intro i; simp
    | cons x l ih => intro i; cases i with
     | zero => simp
     | succ i => simp [ih]
   rw [e1, h3, e1]
theorem heap_fr {o : Obj} : Fr [r] w { w with heap := w.heap.setIfInBounds r o } :=
 ⟨rfl, rfl, rfl, by simp, fun j hj hn => by
  have hne : r ≠ j := fun e => hn (by simp [e])
  simp [Array.getElem?_setIfInBounds, hne]⟩
theorem rawE_delete {st : St} {dst : Option Nat} {ty : TypeId} {pos : String} {after : Array Edge} {guard : Option (Nat × Bool)} {Kp : St → Prop} {x i : Operand} {id : Nat} {key : K} {kv : RV}
  (kl : KL P kt G) (hG : G (eK key)) (hL : ∀ p ∈ L, G (eK p.1)) (inj : ∀ a b, eK a = eK b → a = b) (ht : P.underlying t = some (.map kt et))
  (hx : opv st [] x = some (.s (.c (.x (.map (some r)))))) (hi : opv st [] i = some kv) (hk : kv.den = eK key) (hl : look st.hp id = some (mapO eK eV r L))
  (hK : hpSetK st.hp id (mapO eK eV r (aerase L key)) (fun hp => st.withHp hp (fun st' => goPut st' dst (.tup []) Kp))) :
  RawE P st { dst := dst, op := .call { callee := .builtin .delete, args := #[x, i], argTypes := #[t, kt] }, type := ty, pos := pos, after := after, guard := guard } Kp := by
 refine ⟨fun ρ hρ hwf w hw => ?_⟩
 have ex := hρ _ _ hx
 have ei := hρ _ _ hi
 rw [hk] at ei
 simp only [RV.den, SV.den, CV.den] at ex
 have hm := mapO_at (hw.objs _ (look_mem hl))
 obtain ⟨o, hrun, hat⟩ := run_delete (w := w) kl hG hL inj ht hm ty
 rw [hpSetK_eq] at hK
 refine ⟨st.setHp (hpSet st.hp id (mapO eK eV r (aerase L key))), _, .inl ⟨.tup [], ?_, (fun v hv => by cases hv), hK⟩, ⟨rfl, rfl, rfl, rfl⟩, hwf.setO hl (fun b T cells e => by cases e) trivial, hw.setG hl ?_ (mapO_holds hat) (fun b hb => .inl hb)⟩
 ·simp only [execOp, resolve, invoke, builtin, List.map_toArray, List.map_cons, List.map_nil, ex, ei, Sem.run_bind, Sem.run_pure, Result.andThen_ok, hrun]
  rfl
 ·exact heap_fr.mono fun b hb => .inl (mem_nub.2 hb)
theorem rawE_insert {st : St} {ty : TypeId} {pos : String} {after : Array Edge} {guard : Option (Nat × Bool)} {Kp : St → Prop} {x i y : Operand} {id : Nat} {key : K} {v : V} {kv vv : RV}
  (kl : KL P kt G) (hG : G (eK key)) (hL : ∀ p ∈ L, G (eK p.1)) (inj : ∀ a b, eK a = eK b → a = b) (ht : P.underlying t = some (.map kt et))
  (hx : opv st [] x = some (.s (.c (.x (.map (some r)))))) (hi : opv st [] i = some kv) (hk : kv.den = eK key) (hy : opv st [] y = some vv) (hv : vv.den = eV v) (hl : look st.hp id = some (mapO eK eV r L))
  (hK : hpSetK st.hp id (mapO eK eV r (aput L key v)) (fun hp => st.withHp hp Kp)) :
  RawE P st { dst := none, op := .insert t x i y, type := ty, pos := pos, after := after, guard := guard } Kp := by
 refine ⟨fun ρ hρ hwf w hw => ?_⟩
 have ex := hρ _ _ hx
 have ei := hρ _ _ hi
 have ey := hρ _ _ hy
 rw [hk] at ei
 rw [hv] at ey
 simp only [RV.den, SV.den, CV.den] at ex
 have hm := mapO_at (hw.objs _ (look_mem hl))
 obtain ⟨o, hrun, hat⟩ := run_update (w := w) kl hG hL inj ht hm v
 rw [hpSetK_eq] at hK
 refine ⟨st.setHp (hpSet st.hp id (mapO eK eV r (aput L key v))), _, .inr ⟨rfl, ?_, hK⟩, ⟨rfl, rfl, rfl, rfl⟩, hwf.setO hl (fun b T cells e => by cases e) trivial, hw.setG hl ?_ (mapO_holds hat) (fun b hb => .inl hb)⟩
 ·simp only [execOp, ex, ei, ey, Sem.run_bind, hrun, Result.andThen_ok, Sem.run_pure]
 ·exact heap_fr.mono fun b hb => .inl (mem_nub.2 hb)
end
theorem At.loop1 {P : Program} {Q : Exit → Act → World → Prop} {c : Code} {st : St} (h : At st (c.wp P (Exit.then (c.wp P (Exit.then (fun _ _ => False) Q)) Q))) : At st ((Code.loop c).wp P Q) :=
 ⟨fun hwf a w hr hw => wp_loop_ghost (fun n a w => (n = 1 ∧ c.wp P (Exit.then (c.wp P (Exit.then (fun _ _ => False) Q)) Q) a w) ∨ (n = 0 ∧ c.wp P (Exit.then (fun _ _ => False) Q) a w)) (n := 1) (.inl ⟨rfl, h.out hwf a w hr hw⟩) (fun n a w hI => by
  rcases hI with ⟨rfl, h⟩ | ⟨rfl, h⟩
  ·refine wp_mono h ?_
   intro e a w hq
   cases e with
   | normal => exact ⟨0, by omega, .inr ⟨rfl, hq⟩⟩
   | _ => exact hq
  ·refine wp_mono h ?_
   intro e a w hq
   cases e with
   | normal => exact hq.elim
   | _ => exact hq)⟩
section
variable {P : Program} {r n : Nat}
theorem callsIn_round {f : FuncId} {args : Array Value} {w : World} {R : Ending → World → Prop} (h : Calls P f args w R) : CallsIn (Fence.wide.inRound r) n P f args w R :=
 show CallsIn Fence.wide n P f args w R from callsIn_wide.2 h
theorem rowsIn_round {row : String} {args : Array Value} {w : World} {R : Value → World → Prop} (h : Rows P row args w R) : RowsIn (Fence.wide.inRound r) n P row args w R :=
 fun c cs _ => let ⟨v, w', hr, hs⟩ := h c cs; ⟨v, w', hr, stepsIn_wide.2 hs⟩
theorem uponIn_round {o : Oper} {a : Act} {next next' : Act → World → Prop} {Q : Exit → Act → World → Prop} {res : Result Next} (hn : ∀ a w, next a w → next' a w) (h : o.upon P a next Q res) : o.uponIn (Fence.wide.inRound r) n P a next' Q res := by
 unfold Oper.upon at h
 split at h
 ·exact hn _ _ h
 ·exact hn _ _ h
 ·exact hn _ _ h
 ·refine ⟨fun hd => by simp [Fence.wide] at hd, callsIn_round (h.mono fun e w'' he => ?_)⟩
  cases e with
  | returned v => exact hn _ _ he
  | panicked c => exact he
  | outgrown => exact he
 ·exact ⟨fun hd => by simp [Fence.wide] at hd, rowsIn_round (h.mono fun v w'' hv => hn _ _ hv)⟩
 ·exact h
 ·exact h.elim
def noDf (o : Oper) : Bool := match o.op with | .defer _ => false | _ => true
theorem noDf_spec {o : Oper} (h : noDf o = true) : ∀ c, o.op ≠ .defer c := fun c e => by unfold noDf at h; rw [e] at h; cases h
theorem wpOpsIn_round {ops : Array Oper} {Q : Exit → Act → World → Prop} (hd : ops.toList.all noDf = true) (hq : ¬ LetsOut Q) : ∀ (l : List Nat) (a : Act) (w : World), wpOps P ops Q l a w → wpOpsIn (Fence.wide.inRound r) n P ops Q l a w
 | [], a, w, h => h
 | i :: rest, a, w, h => by
  simp only [wpOps] at h
  simp only [wpOpsIn]
  cases ho : ops[i]? with
  | none => simp only [ho] at h ⊢; exact wpOpsIn_round hd hq rest a w h
  | some o =>
   simp only [ho] at h ⊢
   by_cases hw : Region.wanted o (yielded ops a.tmps) = true
   ·simp only [hw, if_true] at h ⊢
    replace h := h.resolve_right fun x => hq x.2
    refine ⟨fun f _ => trivial, ?_⟩
    have hm : o ∈ ops.toList := by
     rw [← Array.getElem?_toList] at ho
     exact List.mem_of_getElem? ho
    rw [Oper.semAt_eq _ _ _ (noDf_spec (List.all_eq_true.1 hd o hm))]
    exact uponIn_round (wpOpsIn_round hd hq rest) h
   ·simp only [hw, if_false, Bool.false_eq_true] at h ⊢
    exact ⟨fun f _ => trivial, wpOpsIn_round hd hq rest _ w h⟩
theorem wpOps_of_list {ops : Array Oper} {Q : Exit → Act → World → Prop} {a : Act} {w : World} (h : wpList P ops Q ops.toList a w) : wpOps P ops Q (List.range ops.size) a w := by
 rw [List.range_eq_range', ← Array.length_toList, wpOps_eq_wpList ops.toList 0 (by simp)]; exact h
end
namespace Rnd
section
variable {P : Program} {tab : Tab} {Q : Exit → Act → World → Prop} {r n : Nat}
theorem At.region (hT : TabOk P tab) {id : Nat} {l : List Oper} {st : St} (h : run P tab l.toArray l st (fun st' => st'.atEnd (Q .normal))) (hd : l.all noDf = true := by rfl) (hq : ¬ LetsOut Q := by rintro ⟨a, w, h⟩; exact h) : At st ((Code.region id l.toArray false).wpIn (Fence.wide.inRound r) n P Q) :=
 ⟨fun hwf a w hr hw => wpIn_region (wpOpsIn_round (by simpa using hd) hq _ _ _ (wpOps_of_list (by
  simpa using run_sound (Q := Q) hT h hwf hr hw fun st' a' w' hk hwf' hr' hw' => (show Vc.At st'.endR _ from hk).out hwf'.endR a' w' hr'.endR hw'.endR)))⟩
theorem At.planG (hT : TabOk P tab) (hm : P.follows .mixedOrders = true) (hpR : List (Nat × LO)) (p : Plan) {id : Nat} {l : List Oper} {st : St} (hs : Region.noSelect l.toArray = true)
  (hc : p.chk l.toArray false l.toArray.size (Array.replicate l.toArray.size false) = true) (hle : LeH st.hp hpR)
  (h : walkG P tab l.toArray hpR st.S st.ws p st (fun st' => st'.atEnd (Q .normal))) (hd : l.all noDf = true := by rfl) : At st ((Code.region id l.toArray true).wpIn (Fence.wide.inRound r) n P Q) :=
 ⟨fun hwf a w hr hw => by
  have := (walkG_sound (N := Q .normal) hT hs (fun st' a' w' hk hwf' hr' hw' => (show Vc.At st'.endR _ from hk).out hwf'.endR a' w' hr'.endR hw'.endR) p false _ _ st a { w with drawn := w.drawn + 1 } hc h hwf hr hw.drawn hle hw.drawn.fr).1 rfl
  refine wpIn_mono (wpIn_region_draw (id := id) fun t => wpOpsIn_round (by simpa using hd) (Q := onlyN (Q .normal)) (by rintro ⟨a, w, h⟩; exact h) _ _ _ ?_) ?_
  ·simp only [Region.schedule, hm, Bool.true_or, if_true]
   exact wpAny_sound _ t _ a _ (wpAny_of_held _ _ _ _ this)
  ·intro e a w hq
   cases e with
   | normal => exact hq
   | _ => exact hq.elim⟩
theorem At.seq {x y : Code} {st : St} (h : At st (x.wpIn (Fence.wide.inRound r) n P (Exit.then (y.wpIn (Fence.wide.inRound r) n P Q) Q))) : At st ((Code.seq x y).wpIn (Fence.wide.inRound r) n P Q) :=
 ⟨fun hwf a w hr hw => wpIn_seq (h.out hwf a w hr hw)⟩
theorem At.skip {st : St} (h : At st (Q .normal)) : At st (Code.skip.wpIn (Fence.wide.inRound r) n P Q) := ⟨fun hwf a w hr hw => wpIn_skip (h.out hwf a w hr hw)⟩
theorem At.block {id : Nat} {c : Code} {st : St} (h : At st (c.wpIn (Fence.wide.inRound r) n P (Exit.inBlock id Q))) : At st ((Code.block id c).wpIn (Fence.wide.inRound r) n P Q) := ⟨fun hwf a w hr hw => wpIn_block (h.out hwf a w hr hw)⟩
theorem At.cond {c : Operand} {x y : Code} {st : St} {t : Bool} (hc : opv st [] c = some (.s (.c (.b t)))) (ht : t = true → At st (x.wpIn (Fence.wide.inRound r) n P Q)) (hf : t = false → At st (y.wpIn (Fence.wide.inRound r) n P Q)) : At st ((Code.cond c x y).wpIn (Fence.wide.inRound r) n P Q) :=
 ⟨fun hwf a w hr hw => wpIn_cond_split (t := t) (eval_opv hr keys_nil hc) (fun e => (ht e).out hwf a w hr hw) (fun e => (hf e).out hwf a w hr hw)⟩
end
end Rnd
def onlyW (J : World → Prop) : Exit → Act → World → Prop
 | .normal, _, w => J w
 | _, _, _ => False
def blksL (hp : List (Nat × LO)) : List Nat := hp.flatMap fun o => o.2.blks
def memS (hp : List (Nat × LO)) (S : List Nat) (W : World) : St := { N := 0, sl := [], gl := [], hp := hp, S := S, ws := W }
theorem memS_keep {st : St} {w : World} (h : Holds st w) (ids : List Nat) {hp : List (Nat × LO)} (e : hp = keepIds ids st.hp) : Holds (memS hp st.S st.ws) w := h.keep ids e rfl rfl
theorem grown_fr {W W' : World} {row : Option Nat} (hg : W.grownBy W' row) : Fr row.toList W W' :=
 ⟨hg.os, hg.tape, hg.output, hg.size, fun k hk hn => hg.block k hk fun e => hn (by rw [← e]; simp)⟩
theorem memS_fr {hp : List (Nat × LO)} {S T : List Nat} {ws W W' : World} (h : Holds (memS hp S ws) W) (hf : Fr T W W') (h1 : ∀ b ∈ T, b ∉ blksL hp) (h2 : ∀ b ∈ T, ws.heap.size ≤ b) : Holds (memS hp S ws) W' :=
 ⟨fun o ho => LO.frame hf (h.objs o ho) fun b hb hm => h1 b hm (List.mem_flatMap.2 ⟨o, ho, hb⟩), h.nodup, h.fr.trans' hf fun x hx => .inr (h2 x hx), h.own⟩
section
variable {P : Program} {α : Type}
theorem At.rangeF {st : St} {g : Operand} {ps : Array Tmp} {assign body : Code} {Q : Exit → Act → World → Prop} {gf : Nat} {lb : Array Value}
  (hg : opv st [] g = some (.s (.c (.x (.func (.func gf) #[] lb))))) (eg : ∀ args w, (callFunc gf args).run P w = .ok (.enter gf args) w)
  (encs : α → Array Value) (hps : ∀ x, (encs x).size = ps.size) (S : List α → Prop) (N : Nat) (C : World → Prop)
  (hpI : List α → List (Nat × LO)) (hbl : ∀ pre, blksL (hpI pre) = blksL (hpI []))
  (hI0 : ∀ w, Holds st w → Holds (memS (hpI []) st.S st.ws) w)
  (hC0 : ∀ w, Holds st w → C w ∧ (∀ (W : World) (l : Nat) (o o' : Obj), w.heap.size ≤ l → W.heap[l]? = some o → o.isCells = false → C W → C (W.putObj l o')) ∧ SeqStopsK Fence.wide 3 P gf lb encs (fun A B => C A → C B) S (fun _ => True) N w)
  (hCf : ∀ w, Holds st w → ∀ W W', C W → Fr (blksL (hpI [])) W W' → C W')
  (a₁ : Act → α → Act)
  (hassign : ∀ (l : Nat) (a : Act) (x : α) (W : World) (K : Act → World → Prop), Rel st a → K (a₁ a x) W → assign.wpIn (Fence.wide.inRound l) 2 P (Exit.then K (fun _ _ _ => False)) { tmps := (ps.zip (encs x)).foldl (fun t (p, v) => t.setIfInBounds p v) a.tmps, defers := [] } W)
  (slB : α → List (Nat × Option RV))
  (hrel : ∀ a x, Rel st a → (a₁ a x).tmps.size = st.N ∧ (a₁ a x).defers = [] ∧ ∀ s v, look (slB x) s = some (some v) → (a₁ a x).tmps[s]? = some v.den)
  (hokB : ∀ pre x, slotsOk (hpI pre) (slB x) ∧ objsOk (hpI pre) (hpI pre))
  (hbody : ∀ (l : Nat) (pre : List α) (x : α) (W : World), pre.length < N → Holds (memS (hpI pre) st.S st.ws) W →
   At { N := st.N, sl := slB x, gl := [], hp := hpI pre, S := blksL (hpI pre), ws := W } (body.wpIn (Fence.wide.inRound l) 2 P (onlyW (Holds (memS (hpI (pre ++ [x])) (blksL (hpI pre)) W)))))
  (iD : Nat) (slD : List (Nat × Option RV)) (hslD : LeL st.sl slD)
  (hokD : ∀ D xs, slotsOk ((iD, LO.ab [D] (fun w => w.heap[D]? = some (.deferred (some [])))) :: hpI xs) slD ∧ objsOk ((iD, LO.ab [D] (fun w => w.heap[D]? = some (.deferred (some [])))) :: hpI xs) (hpI xs))
  (hdone : ∀ D xs, S xs → At { N := st.N, sl := slD, gl := [], hp := (iD, LO.ab [D] (fun w => w.heap[D]? = some (.deferred (some [])))) :: hpI xs, S := st.S, ws := st.ws, df := { target := .collected D, args := #[] } :: st.df } (Q .normal)) :
  At st ((Code.rangeFunc g ps assign body).wp P Q) :=
 ⟨fun hwf a w hr hw => by
  obtain ⟨c0, cb, hseq⟩ := hC0 w hw
  have hI := hI0 w hw
  have hlt : ∀ pre, ∀ b ∈ blksL (hpI pre), b < w.heap.size := fun pre b hb => hI.blk_lt b (by rw [hbl pre] at hb; exact hb)
  have hws : st.ws.heap.size ≤ w.heap.size := hw.fr.size
  have hget : a.eval g = .func (.func gf) #[] lb := by
   have := eval_opv hr keys_nil hg
   simpa [RV.den, SV.den, CV.den] using this
  refine wpIn_wide.1 (wpIn_rangeFunc_ownG (n := 4) (F := Fence.wide) rfl (by omega) hget trivial eg hseq (fun h k c => k (h c)) (fun W l o o' hl ho hc _ => cb W l o o' hl ho hc) (Below.refl _ _) hps
   (fun pre W => Holds (memS (hpI pre) st.S st.ws) W) (fun _ _ _ => False) ?_ (fun _ _ _ _ _ hs _ _ => hs) hI (a₁ a) (fun l x W K hK => hassign l a x W K hr hK) ?_ ?_ (fun _ _ _ _ _ _ h _ => h.elim))
  ·intro pre W W' row hs hg' hrow
   refine memS_fr hs (grown_fr hg') (fun b hb hm => ?_) (fun b hb => ?_)
   ·have e : row = some b := by simpa using hb
    have h1 := (hrow b e).1
    have h2 := hlt pre b hm
    omega
   ·have e : row = some b := by simpa using hb
    have h1 := (hrow b e).1
    omega
  ·intro l pre x W hs hN
   obtain ⟨r1, r2, r3⟩ := hrel a x hr
   have hB : Holds { N := st.N, sl := slB x, gl := [], hp := hpI pre, S := blksL (hpI pre), ws := W } W := ⟨hs.objs, hs.nodup, Fr.refl _ _, fun b hb => .inl hb⟩
   have hA := (hbody l pre x W hN hs).out (WF.objs hB (hokB pre x).1 (hokB pre x).2) (a₁ a x) W ⟨r1, r2, r3, fun s ks v hl => by cases hl⟩ hB
   refine wpIn_mono hA ?_
   intro e a' W' hq
   cases e with
   | normal =>
    replace hq : Holds (memS (hpI (pre ++ [x])) (blksL (hpI pre)) W) W' := hq
    have hf : Fr (blksL (hpI pre)) W W' := hq.fr
    refine ⟨⟨hf.size, fun k o hk ho _ => ?_⟩, fun hc => hCf w hw W W' hc (by rw [← hbl pre]; exact hf), ?_⟩
    ·rw [hf.block k (Array.getElem?_eq_some_iff.1 ho).1 (fun hm => by have := hlt pre k hm; omega)]; exact ho
    ·refine ⟨hq.objs, hq.nodup, hs.fr.trans' hf fun b hb => hs.own b hb, fun b hb => ?_⟩
     have hb' : b ∈ blksL (hpI pre) := by
      have : b ∈ blksL (hpI (pre ++ [x])) := hb
      rw [hbl, ← hbl pre] at this; exact this
     exact hs.own b hb'
   | _ => exact hq.elim
  ·intro D xs W hD hS hs hK
   have hlD : D < W.heap.size := (Array.getElem?_eq_some_iff.1 hK).1
   have hH : Holds { N := st.N, sl := slD, gl := [], hp := (iD, LO.ab [D] (fun w => w.heap[D]? = some (.deferred (some [])))) :: hpI xs, S := st.S, ws := st.ws, df := { target := .collected D, args := #[] } :: st.df } W := by
    refine ⟨fun o ho => ?_, ?_, hs.fr, fun b hb => ?_⟩
    ·rcases List.mem_cons.1 ho with rfl | ho
     ·exact ⟨fun b hb => by rw [List.mem_singleton.1 hb]; exact hlD, fun w' ha => (ha D (by simp)).trans hK⟩
     ·exact hs.objs o ho
    ·show ((LO.ab [D] _).blks ++ blksL (hpI xs)).Nodup
     have e : (LO.ab [D] (fun w => w.heap[D]? = some (.deferred (some [])))).blks = [D] := by simp [LO.blks, nub]
     rw [e]
     refine List.nodup_append.2 ⟨by simp, hs.nodup, fun x hx z hz e => ?_⟩
     rw [List.mem_singleton.1 hx] at e
     have := hlt xs z hz
     omega
    ·have hb' : b ∈ (LO.ab [D] (fun w => w.heap[D]? = some (.deferred (some [])))).blks ++ blksL (hpI xs) := hb
     rcases List.mem_append.1 hb' with hb | hb
     ·have : b = D := by simpa [LO.blks, nub] using hb
      exact .inr (by show st.ws.heap.size ≤ b; omega)
     ·exact hs.own b hb
   exact (hdone D xs hS).out (WF.objs hH (hokD D xs).1 (by
    show objsOk _ ((iD, LO.ab [D] _) :: hpI xs)
    exact (hokD D xs).2)) _ W ⟨hr.size, by show _ :: a.defers = _; rw [hr.defers], fun s v hl => by obtain ⟨u, h1, h2⟩ := LeL_spec hslD s v hl; rw [← h2]; exact hr.sl s u h1, fun s ks v hl => by cases hl⟩ hH⟩
theorem calls_eM {f : FuncId} {fn : Func} {c : Code} {w : World} {R : Ending → World → Prop} (l : List RV) {args : Array Value}
  (hf : P.funcs[f]? = some fn) (hb : fn.body = some c) (ha : args = (l.map RV.den).toArray) (hn : l.length ≤ fn.ntmps) (hs : slotsOk [] (slots 0 l))
  (h : ∀ B : Exit → Act → World → Prop, B = bodyPostM Fence.wide 4 P fn R → At (St.enter fn.ntmps l [] [] w) (c.wp P B)) : Calls P f args w R := by
 subst ha
 have hw : Holds (St.enter fn.ntmps l [] [] w) w := holds_enter
 refine callsIn_wide.1 (callsIn_of_wp_marks hf hb trivial (wpIn_wide.2 ((h _ rfl).out (WF.objs hw hs trivial) _ w ⟨?_, rfl, fun s v hl => ?_, fun s ks v hl => by cases hl⟩ hw)))
 ·simp [St.enter]; omega
 ·obtain ⟨_, h2⟩ := slots_spec hl
  rw [Nat.sub_zero] at h2
  have hlt : s < l.length := by
   rcases Nat.lt_or_ge s l.length with h' | h'
   ·exact h'
   ·rw [List.getElem?_eq_none h'] at h2; cases h2
  rw [Array.getElem?_append_left (by simpa using hlt)]
  simp [h2]
theorem look_drop {i : Nat} {B : List Nat} {Q : World → Prop} {id b : Nat} {T : TypeId} {cells : List CV} : ∀ {hp1 hp2 : List (Nat × LO)}, look (hp1 ++ (i, .ab B Q) :: hp2) id = some (.box b T cells) → look (hp1 ++ hp2) id = some (.box b T cells)
 | [], hp2, h => by
  simp only [List.nil_append, look] at h ⊢
  split at h
  ·cases h
  ·exact h
 | (j, o) :: hp1, hp2, h => by
  simp only [List.cons_append, look] at h ⊢
  split at h
  ·exact h
  ·exact look_drop h
theorem wf_drop {N : Nat} {sl : List (Nat × Option RV)} {gl gl' : List (Nat × Keys × RV)} {i : Nat} {B : List Nat} {Q : World → Prop} {hp1 hp2 : List (Nat × LO)} {S : List Nat} {ws : World} {df df' : List Deferred}
  (h : WF { N := N, sl := sl, gl := gl, hp := hp1 ++ (i, .ab B Q) :: hp2, S := S, ws := ws, df := df }) : WF { N := N, sl := sl, gl := gl', hp := hp1 ++ hp2, S := S, ws := ws, df := df' } := by
 have kC : ∀ c : CV, CVok (hp1 ++ (i, LO.ab B Q) :: hp2) c → CVok (hp1 ++ hp2) c := by
  intro c hc
  cases c with
  | p id blk off =>
   obtain ⟨T, cells, e⟩ := hc
   exact ⟨T, cells, look_drop e⟩
  | _ => exact hc
 have kS : ∀ v : SV, SVok (hp1 ++ (i, LO.ab B Q) :: hp2) v → SVok (hp1 ++ hp2) v := by
  intro v hv
  cases v with
  | c x => exact kC x hv
  | agg l => exact fun c hc => kC c (hv c hc)
 have kM : ∀ {x : Nat × LO}, x ∈ hp1 ++ hp2 → x ∈ hp1 ++ (i, LO.ab B Q) :: hp2 := fun {x} hx => by
  rcases List.mem_append.1 hx with h | h
  ·exact List.mem_append.2 (.inl h)
  ·exact List.mem_append.2 (.inr (List.mem_cons_of_mem _ h))
 refine ⟨fun s v hm => ?_, fun id b T cells hm c hc => kC c (h.hp id b T cells (kM hm) c hc), fun id v E size L hm => ⟨(h.row id v E size L (kM hm)).1, fun l hl c hc => kC c ((h.row id v E size L (kM hm)).2 l hl c hc)⟩⟩
 have hv := h.sl s v hm
 cases v with
 | s x => exact kS x hv
 | tup l => exact fun x hx => kS x (hv x hx)
variable {tab : Tab}
theorem At.doneM (hT : TabOk P tab) {fn : Func} {R : Ending → World → Prop} {B : Exit → Act → World → Prop} (hB : B = bodyPostM Fence.wide 4 P fn R) {st : St} (r : RV) (h : resOf tab st fn.results.toList = some r) (hR : ∀ w, Holds st w → R (.returned r.den) w) (hd : st.df = [] := by rfl) : At st (B .ret) := by
 subst hB
 refine ⟨fun hwf a w hr hw => ?_⟩
 show LeavesInM _ _ _ _ _ _ a.defers _ _
 rw [hr.defers, hd]
 exact ⟨_, resOf_spec hT hwf hr hw h, hR w hw⟩
theorem At.doneD (hT : TabOk P tab) {fn : Func} {R : Ending → World → Prop} {B : Exit → Act → World → Prop} (hB : B = bodyPostM Fence.wide 4 P fn R) {N : Nat} {sl : List (Nat × Option RV)} {iD D : Nat} {hp : List (Nat × LO)} {S : List Nat} {ws : World} (r : RV)
  (hp1 : List (Nat × LO)) (hp2 : List (Nat × LO)) (e : hp = hp1 ++ (iD, LO.ab [D] (fun w => w.heap[D]? = some (.deferred (some [])))) :: hp2)
  (h : resOf tab { N := N, sl := sl, gl := [], hp := hp1 ++ hp2, S := S, ws := ws } fn.results.toList = some r)
  (hR : ∀ w, Holds { N := N, sl := sl, gl := [], hp := hp1 ++ hp2, S := S, ws := ws } w → R (.returned r.den) w) : At { N := N, sl := sl, gl := [], hp := hp, S := S, ws := ws, df := [{ target := .collected D, args := #[] }] } (B .ret) := by
 subst hB
 subst e
 refine ⟨fun hwf a w hr hw => ?_⟩
 show LeavesInM _ _ _ _ _ _ a.defers _ _
 rw [hr.defers]
 have hD := hw.objs (iD, LO.ab [D] _) (List.mem_append.2 (.inr (List.mem_cons_self ..)))
 have hK : w.heap[D]? = some (.deferred (some [])) := hD.2 w fun _ _ => rfl
 have hown := hw.own D (List.mem_flatMap.2 ⟨(iD, LO.ab [D] _), List.mem_append.2 (.inr (List.mem_cons_self ..)), by simp [LO.blks, nub]⟩)
 have hnd : D ∉ blksL (hp1 ++ hp2) := by
  have hn := hw.nodup
  replace hn : (blksL (hp1 ++ (iD, LO.ab [D] (fun w => w.heap[D]? = some (.deferred (some [])))) :: hp2)).Nodup := hn
  intro hm
  simp only [blksL, List.flatMap_append, List.flatMap_cons, List.mem_append] at hn hm
  have e : (LO.ab [D] (fun w => w.heap[D]? = some (.deferred (some [])))).blks = [D] := by simp [LO.blks, nub]
  rw [e] at hn
  rw [List.nodup_append] at hn
  obtain ⟨_, n2, n3⟩ := hn
  rcases hm with hm | hm
  ·exact n3 D hm D (by simp) rfl
  ·rw [List.singleton_append, List.nodup_cons] at n2; exact n2.1 hm
 have hsub : List.Sublist (hp1 ++ hp2) (hp1 ++ (iD, LO.ab [D] (fun w => w.heap[D]? = some (.deferred (some [])))) :: hp2) := List.Sublist.append_left (List.sublist_cons_self ..) _
 have hw2 : Holds { N := N, sl := sl, gl := [], hp := hp1 ++ hp2, S := S, ws := ws } w := ⟨fun o ho => hw.objs o (hsub.subset ho), List.Sublist.nodup (flatMap_sub hsub) hw.nodup, hw.fr, fun b hb => hw.own b ((flatMap_sub hsub).subset hb)⟩
 have hf : Fr [D] w (w.putObj D (.deferred none)) := ⟨rfl, rfl, rfl, by simp, fun k hk hn => World.putObj_heap_other (by simpa using hn)⟩
 have hw3 : Holds { N := N, sl := sl, gl := [], hp := hp1 ++ hp2, S := S, ws := ws } (w.putObj D (.deferred none)) :=
  ⟨fun o ho => LO.frame hf (hw2.objs o ho) fun b hb hm => hnd (List.mem_flatMap.2 ⟨o, ho, by rw [← List.mem_singleton.1 hm]; exact hb⟩), hw2.nodup, hw2.fr.trans' hf fun x hx => by rw [List.mem_singleton.1 hx]; exact hown, hw2.own⟩
 refine ⟨by simp, .inl ⟨D, _, rfl, run_takeDeferred hK, ?_⟩⟩
 exact ⟨_, resOf_spec hT (wf_drop hwf) (a := { a with defers := [] }) ⟨hr.size, rfl, hr.sl, fun s ks v hl => by cases hl⟩ hw3 h, hR _ hw3⟩
end
end Go.Vc
