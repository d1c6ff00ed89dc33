/- Texts that the law leans on. -/
import Derived.Test.YtdigebokbhmfaaaGreatDoorOVcDraw
set_option linter.unusedVariables false
set_option linter.unusedSimpArgs false
namespace Go.Vc
open Go.RowKit
def gsplit (g want : Bool) (A B : Prop) : Prop :=
 Bool.rec (motive := fun _ => Prop) (Bool.rec (motive := fun _ => Prop) A B want) (Bool.rec (motive := fun _ => Prop) B A want) g
theorem gsplit_spec {g want : Bool} {A B : Prop} (h : gsplit g want A B) : (g = want → A) ∧ (g = !want → B) := by
 cases g <;> cases want <;> simp_all [gsplit]
def pickK (st : St) (d : Option Nat) (c x y : Operand) (K : St → Prop) : Prop :=
 match opv st [] c with
 | some (.s (.c (.b g))) => match opv st [] x, opv st [] y with
  | some u, some v => match pickRV g u v with
   | some r => goPut st d r K
   | none => gsplit g true (goPut st d u K) (goPut st d v K)
  | some u, none => gsplit g true (goPut st d u K) False
  | none, some v => gsplit g true False (goPut st d v K)
  | none, none => False
 | _ => False
theorem pickK_sound {P : Program} {o : Oper} {st : St} {c x y : Operand} {K : St → Prop} {a : Act} (hop : o.op = .pick c x y) (h : pickK st o.dst c x y K) (hwf : WF st) (hr : Rel st a) :
  ∃ v st', (∀ w, (execOp a.eval o).run P w = .ok (.value v) w) ∧ K st' ∧ WF st' ∧ Rel st' (a.put o.dst v) ∧ SameW st st' := by
 have hrun : ∀ {g : Bool}, opv st [] c = some (.s (.c (.b g))) → ∀ w, (execOp a.eval o).run P w = .ok (.value (if g then a.eval x else a.eval y)) w := by
  intro g hc w
  have ec := eval_opv hr keys_nil hc
  simp only [RV.den, SV.den, CV.den] at ec
  obtain ⟨dst, op, type, pos, after, guard⟩ := o
  dsimp only at hop
  subst hop
  simp [execOp, ec, asBool]
 have fin : ∀ {r : RV} {u : Value}, goPut st o.dst r K → u = r.den → RVok st.hp r → ∃ st', K st' ∧ WF st' ∧ Rel st' (a.put o.dst u) ∧ SameW st st' := by
  intro r u hg hu hok
  unfold goPut at hg
  split at hg
  ·rename_i st2 hput
   exact ⟨st2, hg, put_wf hput hwf (fun _ => hok), put_rel hput hr (.inl ⟨keys_nil, hu, hok⟩), put_world hput⟩
  ·exact hg.elim
 unfold pickK at h
 split at h
 ·rename_i g hc
  have hrun := hrun hc
  split at h
  ·rename_i u v hx hy
   have ex := eval_opv hr keys_nil hx
   have ey := eval_opv hr keys_nil hy
   split at h
   ·rename_i r hp
    have e := pickRV_den hp
    obtain ⟨st', h1, h2, h3, h4⟩ := fin (u := if g then a.eval x else a.eval y) h (by rw [e, ex, ey]) (pickRV_rvok hp)
    exact ⟨_, st', hrun, h1, h2, h3, h4⟩
   ·obtain ⟨g1, g2⟩ := gsplit_spec h
    cases g
    ·obtain ⟨st', h1, h2, h3, h4⟩ := fin (u := a.eval y) (g2 rfl) ey (opv_ok hwf hr keys_nil hy)
     exact ⟨_, st', hrun, h1, h2, h3, h4⟩
    ·obtain ⟨st', h1, h2, h3, h4⟩ := fin (u := a.eval x) (g1 rfl) ex (opv_ok hwf hr keys_nil hx)
     exact ⟨_, st', hrun, h1, h2, h3, h4⟩
  ·rename_i u hx hy
   obtain ⟨g1, g2⟩ := gsplit_spec h
   cases g
   ·exact (g2 rfl).elim
   ·obtain ⟨st', h1, h2, h3, h4⟩ := fin (u := a.eval x) (g1 rfl) (eval_opv hr keys_nil hx) (opv_ok hwf hr keys_nil hx)
    exact ⟨_, st', hrun, h1, h2, h3, h4⟩
  ·rename_i v hx hy
   obtain ⟨g1, g2⟩ := gsplit_spec h
   cases g
   ·obtain ⟨st', h1, h2, h3, h4⟩ := fin (u := a.eval y) (g2 rfl) (eval_opv hr keys_nil hy) (opv_ok hwf hr keys_nil hy)
    exact ⟨_, st', hrun, h1, h2, h3, h4⟩
   ·exact (g1 rfl).elim
  ·exact h.elim
 ·exact h.elim
def stepU (P : Program) (tab : Tab) (ops : Array Oper) (o : Oper) (st : St) (K : St → Prop) : Prop :=
 match o.op with
 | .pick c x y => pickK st o.dst c x y K
 | _ => step P tab ops (noG o) st K
theorem stepU_sound {P : Program} {tab : Tab} {ops : Array Oper} {o : Oper} {st : St} {K : St → Prop} {a : Act} {w : World} {Q : Exit → Act → World → Prop} (hT : TabOk P tab)
  (h : stepU P tab ops o st K) (hwf : WF st) (hr : Rel st a) (hw : Holds st w) {next : Act → World → Prop} (hn : ∀ st' a' w', K st' → WF st' → Rel st' a' → Holds st' w' → next a' w') : o.wp P a w next Q := by
 unfold stepU at h
 split at h
 ·rename_i c x y hop
  obtain ⟨v, st', h1, h2, h3, h4, h5⟩ := pickK_sound (P := P) hop h hwf hr
  unfold Oper.wp
  rw [h1 w]
  exact hn st' _ _ h2 h3 h4 (h5.holds hw)
 ·have := step_sound (Q := Q) hT h hwf hr hw hn
  rw [if_pos (by obtain ⟨dst, op, type, pos, after, guard⟩ := o; simp [Region.wanted, noG])] at this
  obtain ⟨dst, op, type, pos, after, guard⟩ := o
  exact this
def stepG (P : Program) (tab : Tab) (ops : Array Oper) (o : Oper) (st : St) (K : St → Prop) : Prop :=
 match o.guard with
 | none => stepU P tab ops o st K
 | some (j, want) => match dstOf ops j with
  | none => False
  | some s => match look st.sl s, st.gl with
   | some (some (.s (.c (.b g)))), [] => gsplit g want (stepU P tab ops o st K) (goPut st o.dst (.tup []) K)
   | some (some (.tup [])), [] => goPut st o.dst (.tup []) K
   | _, _ => False
theorem skip_sound {st : St} {d : Option Nat} {K : St → Prop} {a : Act} (h : goPut st d (.tup []) K) (hwf : WF st) (hr : Rel st a) : ∃ st', K st' ∧ WF st' ∧ Rel st' (a.put d undef) ∧ SameW st st' := by
 unfold goPut at h
 have hok : RVok st.hp (.tup []) := fun v hv => by cases hv
 split at h
 ·rename_i st2 hput
  exact ⟨st2, h, put_wf hput hwf (fun _ => hok), put_rel hput hr (.inl ⟨keys_nil, rfl, hok⟩), put_world hput⟩
 ·exact h.elim
theorem yielded_no {ops : Array Oper} {st : St} {a : Act} {j s : Nat} (hr : Rel st a) (hs : dstOf ops j = some s) (hl : look st.sl s = some (some (.tup []))) : yielded ops a.tmps j = none := by
 have hb := hr.sl _ _ hl
 unfold yielded; unfold dstOf at hs; rw [hs]; show (match a.tmps[s]? with | some (.bool b) => some b | _ => none) = none; rw [hb]; rfl
theorem yielded_of {ops : Array Oper} {st : St} {a : Act} {j s : Nat} {g : Bool} (hr : Rel st a) (hs : dstOf ops j = some s) (hl : look st.sl s = some (some (.s (.c (.b g))))) : yielded ops a.tmps j = some g := by
 have hb := hr.sl _ _ hl
 unfold yielded; unfold dstOf at hs; rw [hs]; show (match a.tmps[s]? with | some (.bool b) => some b | _ => none) = some g; rw [hb]; rfl
theorem stepG_sound {P : Program} {tab : Tab} {ops : Array Oper} {o : Oper} {st : St} {K : St → Prop} {a : Act} {w : World} {Q : Exit → Act → World → Prop} (hT : TabOk P tab)
  (h : stepG P tab ops o st K) (hwf : WF st) (hr : Rel st a) (hw : Holds st w) {next : Act → World → Prop} (hn : ∀ st' a' w', K st' → WF st' → Rel st' a' → Holds st' w' → next a' w') :
  if Region.wanted o (yielded ops a.tmps) then o.wp P a w next Q else next (a.put o.dst undef) w := by
 unfold stepG at h
 split at h
 ·rename_i hg
  rw [if_pos (by simp [Region.wanted, hg])]
  exact stepU_sound hT h hwf hr hw hn
 ·rename_i j want hg
  split at h
  ·exact h.elim
  ·rename_i s hs
   split at h
   ·rename_i g hl hgl
    have hy := yielded_of hr hs hl
    obtain ⟨h1, h2⟩ := gsplit_spec h
    by_cases hgw : g = want
    ·rw [if_pos (by simp [Region.wanted, hg, hy, hgw])]
     exact stepU_sound hT (h1 hgw) hwf hr hw hn
    ·rw [if_neg (by simp [Region.wanted, hg, hy, hgw])]
     obtain ⟨st', hk, hwf', hr', hsw⟩ := skip_sound (h2 (by cases g <;> cases want <;> simp_all)) hwf hr
     exact hn st' _ _ hk hwf' hr' (hsw.holds hw)
   ·rename_i hl hgl
    rw [if_neg (by simp [Region.wanted, hg, yielded_no hr hs hl])]
    obtain ⟨st', hk, hwf', hr', hsw⟩ := skip_sound h hwf hr
    exact hn st' _ _ hk hwf' hr' (hsw.holds hw)
   ·exact h.elim
def runG (P : Program) (tab : Tab) (ops : Array Oper) (l : List Oper) : St → (St → Prop) → Prop :=
 List.rec (motive := fun _ => St → (St → Prop) → Prop) (fun st K => K st) (fun o _ ih st K => stepG P tab ops o st (fun st' => ih st' K)) l
theorem runG_S {P : Program} {tab : Tab} {ops : Array Oper} {K : St → Prop} : ∀ {l : List Oper} {st : St}, runG P tab ops l st K → WF st → ∀ {Q : Exit → Act → World → Prop} {a : Act} {w : World}, TabOk P tab → Rel st a → Holds st w →
  (∀ st' a' w', K st' → WF st' → Rel st' a' → Holds st' w' → Q .normal a' w') → wpList P ops Q l a w
 | [], st, h, hwf, Q, a, w, hT, hr, hw, hn => hn st a w h hwf hr hw
 | o :: r, st, h, hwf, Q, a, w, hT, hr, hw, hn => by
  have := stepG_sound (Q := Q) (next := wpList P ops Q r) hT h hwf hr hw (fun st' a' w' hk hwf' hr' hw' => runG_S hk hwf' hT hr' hw' hn)
  simp only [wpList]
  split
  ·rename_i hwant; rw [if_pos hwant] at this; exact .inl this
  ·rename_i hwant; rw [if_neg hwant] at this; exact this
theorem At.regionG {P : Program} {tab : Tab} {Q : Exit → Act → World → Prop} (hT : TabOk P tab) {id : Nat} {l : List Oper} {st : St} (h : runG P tab l.toArray l st (fun st' => st'.atEnd (Q .normal))) : At st ((Code.region id l.toArray false).wp P Q) :=
 ⟨fun hwf a w hr hw => wp_region_lit (runG_S h hwf hT hr hw fun st' a' w' hk hwf' hr' hw' => (show At st'.endR _ from hk).out hwf'.endR a' w' hr'.endR hw'.endR)⟩
def stepKU (P : Program) (tab : Tab) (ops : Array Oper) (hpR : List (Nat × LO)) (S : List Nat) (ws : World) (o : Oper) (st : St) (K : St → Prop) : Prop :=
 match o.op with
 | .pick c x y => pickK st o.dst c x y K
 | _ => stepK P tab ops hpR S ws (noG o) st K
theorem stepKU_sound {P : Program} {tab : Tab} {ops : Array Oper} {hpR : List (Nat × LO)} {S : List Nat} {ws : World} {o : Oper} {st : St} {K : St → Prop} {a : Act} (hT : TabOk P tab) (h : stepKU P tab ops hpR S ws o st K)
  (hwf : WF st) (hr : Rel st a) (hle : LeH st.hp hpR) : ∃ v st', (∀ w, Keep hpR S ws w → (execOp a.eval o).run P w = .ok (.value v) w) ∧ K st' ∧ WF st' ∧ Rel st' (a.put o.dst v) ∧ SameW st st' := by
 unfold stepKU at h
 split at h
 ·rename_i c x y hop
  obtain ⟨v, st', h1, h2, h3, h4, h5⟩ := pickK_sound (P := P) hop h hwf hr
  exact ⟨v, st', fun w _ => h1 w, h2, h3, h4, h5⟩
 ·obtain ⟨v, st', hyi, hk, hwf', hr', hsw⟩ := stepK_sound hT h hwf hr hle
  obtain ⟨dst, op, type, pos, after, guard⟩ := o
  refine ⟨v, st', ?_, hk, hwf', hr', hsw⟩
  rcases hyi with ⟨_, hyi⟩ | ⟨hno, _⟩
  ·exact hyi
  ·simp [Region.wanted, noG] at hno
def stepKG (P : Program) (tab : Tab) (ops : Array Oper) (hpR : List (Nat × LO)) (S : List Nat) (ws : World) (o : Oper) (st : St) (K : St → Prop) : Prop :=
 match o.guard with
 | none => stepKU P tab ops hpR S ws o st K
 | some (j, want) => match dstOf ops j with
  | none => False
  | some s => match look st.sl s, st.gl with
   | some (some (.s (.c (.b g)))), [] => gsplit g want (stepKU P tab ops hpR S ws o st K) (goPut st o.dst (.tup []) K)
   | some (some (.tup [])), [] => goPut st o.dst (.tup []) K
   | _, _ => False
theorem stepKG_sound {P : Program} {tab : Tab} {ops : Array Oper} {hpR : List (Nat × LO)} {S : List Nat} {ws : World} {o : Oper} {st : St} {K : St → Prop} {a : Act} (hT : TabOk P tab) (h : stepKG P tab ops hpR S ws o st K)
  (hwf : WF st) (hr : Rel st a) (hle : LeH st.hp hpR) : ∃ v st', YieldsIf P ops (Keep hpR S ws) o v a ∧ K st' ∧ WF st' ∧ Rel st' (a.put o.dst v) ∧ SameW st st' := by
 unfold stepKG at h
 split at h
 ·rename_i hg
  obtain ⟨v, st', hyi, hk, hwf', hr', hsw⟩ := stepKU_sound hT h hwf hr hle
  exact ⟨v, st', .inl ⟨by simp [Region.wanted, hg], hyi⟩, hk, hwf', hr', hsw⟩
 ·rename_i j want hg
  split at h
  ·exact h.elim
  ·rename_i s hs
   split at h
   ·rename_i g hl hgl
    have hy := yielded_of hr hs hl
    obtain ⟨h1, h2⟩ := gsplit_spec h
    by_cases hgw : g = want
    ·obtain ⟨v, st', hyi, hk, hwf', hr', hsw⟩ := stepKU_sound hT (h1 hgw) hwf hr hle
     exact ⟨v, st', .inl ⟨by simp [Region.wanted, hg, hy, hgw], hyi⟩, hk, hwf', hr', hsw⟩
    ·obtain ⟨st', hk, hwf', hr', hsw⟩ := skip_sound (h2 (by cases g <;> cases want <;> simp_all)) hwf hr
     exact ⟨undef, st', .inr ⟨by simp [Region.wanted, hg, hy, hgw], rfl⟩, hk, hwf', hr', hsw⟩
   ·rename_i hl hgl
    obtain ⟨st', hk, hwf', hr', hsw⟩ := skip_sound h hwf hr
    exact ⟨undef, st', .inr ⟨by simp [Region.wanted, hg, yielded_no hr hs hl], rfl⟩, hk, hwf', hr', hsw⟩
   ·exact h.elim
def walkG (P : Program) (tab : Tab) (ops : Array Oper) (hpR : List (Nat × LO)) (S : List Nat) (ws : World) (p : Plan) : St → (St → Prop) → Prop :=
 Plan.rec (motive := fun _ => St → (St → Prop) → Prop) (fun st K => K st)
  (fun i _ ih st K => match ops[i]? with
   | some o => stepKG P tab ops hpR S ws o st (fun st' => ih st' K)
   | none => False)
  (fun i _ _ ih1 ih2 st K => (match ops[i]? with
   | some o => stepG P tab ops o st (fun st' => (LeH st'.hp hpR ∧ ∀ w', Holds st' w' → Fr S ws w') ∧ ih1 st' K)
   | none => False) ∧ ih2 st K)
  (fun _ _ => True) p
section
variable {P : Program} {tab : Tab} {ops : Array Oper} {hpR : List (Nat × LO)} {S : List Nat} {ws : World} {N : Act → World → Prop} {K : St → Prop}
theorem walkG_sound (hT : TabOk P tab) (hs : Region.noSelect ops = true) (hN : ∀ st a w, K st → WF st → Rel st a → Holds st w → N a w) : ∀ (p : Plan) (flag : Bool) (fuel : Nat) (listed : Array Bool) (st : St) (a : Act) (w : World),
  p.chk ops flag fuel listed = true → walkG P tab ops hpR S ws p st K → WF st → Rel st a → Holds st w → LeH st.hp hpR → Fr S ws w →
   (flag = false → wpAnyH P .any ops (onlyN N) (Keep hpR S ws) fuel listed a w) ∧
   (∀ f, fuel = f + 1 → ∀ i ∈ p.alts, wpOp P ops (onlyN N) i (fun a' w' => Keep hpR S ws w' ∧ wpAnyH P .any ops (onlyN N) (Keep hpR S ws) f (listed.setIfInBounds i true) a' w') a w) := by
 intro p
 induction p with
 | done =>
  intro flag fuel listed st a w hc h hwf hr hw hle hf
  simp only [Plan.chk, Bool.and_eq_true, List.isEmpty_iff] at hc
  exact ⟨fun _ => wpAnyH_done hc.2 (hN st a w h hwf hr hw) fuel, fun f hf' i hi => by cases hi⟩
 | nob =>
  intro flag fuel listed st a w hc h hwf hr hw hle hf
  simp only [Plan.chk] at hc
  exact ⟨fun e => (by rw [hc] at e; cases e), fun f hf' i hi => (by cases hi)⟩
 | take i p ih =>
  intro flag fuel listed st a w hc h hwf hr hw hle hf
  simp only [Plan.chk, Bool.and_eq_true] at hc
  obtain ⟨_, hc⟩ := hc
  cases fuel with
  | zero => cases hc
  | succ f =>
   simp only [Bool.and_eq_true] at hc
   obtain ⟨⟨h1, h2⟩, h3⟩ := hc
   refine ⟨fun _ => ?_, fun f hf' i hi => by cases hi⟩
   simp only [walkG] at h
   split at h
   ·rename_i o ho
    obtain ⟨v, st', hy, hk, hwf', hr', hsw⟩ := stepKG_sound hT h hwf hr hle
    exact wpAnyH_take ho hs h2 h1 (fun c a w h => h) hy (keep_of hw hle hf)
     ((ih false f _ st' _ w h3 hk hwf' hr' (hsw.holds hw) (by rw [hsw.1]; exact hle) hf).1 rfl)
   ·exact h.elim
 | br i p q ih1 ih2 =>
  intro flag fuel listed st a w hc h hwf hr hw hle hf
  simp only [Plan.chk, Bool.and_eq_true] at hc
  obtain ⟨⟨h1, h2⟩, h3⟩ := hc
  simp only [walkG] at h
  obtain ⟨hA, hB⟩ := h
  cases fuel with
  | zero => cases h2
  | succ f =>
   have hq := (ih2 true (f + 1) listed st a w h3 hB hwf hr hw hle hf).2 f rfl
   have hp : wpOp P ops (onlyN N) i (fun a' w' => Keep hpR S ws w' ∧ wpAnyH P .any ops (onlyN N) (Keep hpR S ws) f (listed.setIfInBounds i true) a' w') a w := by
    unfold wpOp
    split at hA
    ·rename_i o ho
     simp only [ho]
     have := stepG_sound (Q := onlyN N) (next := fun a' w' => Keep hpR S ws w' ∧ wpAnyH P .any ops (onlyN N) (Keep hpR S ws) f (listed.setIfInBounds i true) a' w') hT hA hwf hr hw
      (fun st' a' w' ⟨⟨hle', hfr'⟩, hk⟩ hwf' hr' hw' => ⟨keep_of hw' hle' (hfr' w' hw'), (ih1 false f _ st' a' w' h2 hk hwf' hr' hw' hle' (hfr' w' hw')).1 rfl⟩)
     split
     ·rename_i hwant; rw [if_pos hwant] at this; exact .inl this
     ·rename_i hwant; rw [if_neg hwant] at this; exact this
    ·exact hA.elim
   have all : ∀ j ∈ Plan.alts (.br i p q), wpOp P ops (onlyN N) j (fun a' w' => Keep hpR S ws w' ∧ wpAnyH P .any ops (onlyN N) (Keep hpR S ws) f (listed.setIfInBounds j true) a' w') a w := by
    intro j hj
    rcases List.mem_cons.1 hj with rfl | hj
    ·exact hp
    ·exact hq j hj
   refine ⟨fun e => ?_, fun f' e j hj => by cases e; exact all j hj⟩
   subst e
   have hready : Plan.alts (.br i p q) = Region.ready .any ops listed := by simpa using h1
   exact wpAnyH_all hready.symm (by simp [Plan.alts]) all
theorem At.planG (hT : TabOk P tab) (hm : P.follows .mixedOrders = true) (hpR : List (Nat × LO)) (p : Plan) {id : Nat} {l : List Oper} {st : St} {Q : Exit → Act → World → Prop} (hs : Region.noSelect l.toArray = true)
  (hc : p.chk l.toArray false l.toArray.size (Array.replicate l.toArray.size false) = true) (hle : LeH st.hp hpR)
  (h : walkG P tab l.toArray hpR st.S st.ws p st (fun st' => st'.atEnd (Q .normal))) : At st ((Code.region id l.toArray true).wp P Q) :=
 ⟨fun hwf a w hr hw => by
  have := (walkG_sound (N := Q .normal) hT hs (fun st' a' w' hk hwf' hr' hw' => (show At st'.endR _ from hk).out hwf'.endR a' w' hr'.endR hw'.endR) p false _ _ st a { w with drawn := w.drawn + 1 } hc h hwf hr hw.drawn hle hw.drawn.fr).1 rfl
  refine wp_mono (wp_region_held (id := id) hm this) ?_
  intro e a w hq
  cases e with
  | normal => exact hq
  | _ => exact hq.elim⟩
end
end Go.Vc
