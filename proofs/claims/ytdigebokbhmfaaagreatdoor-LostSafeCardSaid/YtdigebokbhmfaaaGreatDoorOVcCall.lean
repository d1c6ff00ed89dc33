/- Texts that the law leans on. -/
import Derived.Test.YtdigebokbhmfaaaGreatDoorOVcRun
set_option linter.unusedVariables false
set_option linter.unusedSimpArgs false
namespace Go.Vc
open Go.RowKit
def resOne (tab : Tab) (st : St) : ResultVar → Option SV
 | .tmp t => match look st.sl t with
  | some (some (.s v)) => some v
  | _ => none
 | .cell t ty => match look st.sl t, look tab ty with
  | some (some (.s (.c (.p id _ o)))), some ti => match look st.hp id with
   | some (.box _ _ cells) => match takeCells o ti.size cells with
    | some l => mkSV ti.agg l
    | none => none
   | _ => none
  | _, _ => none
def resAll (tab : Tab) (st : St) : List ResultVar → Option (List SV)
 | [] => some []
 | x :: r => match resOne tab st x, resAll tab st r with
  | some v, some l => some (v :: l)
  | _, _ => none
def resOf (tab : Tab) (st : St) (l : List ResultVar) : Option RV :=
 match resAll tab st l with
 | some [v] => some (.s v)
 | some l => some (.tup l)
 | none => none
def resSem (tmps : Array Value) : ResultVar → Sem Value
 | .tmp t => pure (tmps.getD t undef)
 | .cell a t => do loadVar t (← asAddr (tmps.getD a undef))
theorem results_eq (fn : Func) (tmps : Array Value) : results fn tmps = (do let vs ← fn.results.mapM (resSem tmps); pure (if h : vs.size = 1 then vs[0] else .tuple vs)) := by
 unfold results
 congr 1
section
variable {P : Program} {tab : Tab}
theorem resOne_spec (hT : TabOk P tab) {st : St} {a : Act} {w : World} (hwf : WF st) (hr : Rel st a) (hw : Holds st w) {x : ResultVar} {v : SV} (h : resOne tab st x = some v) :
  (resSem a.tmps x).run P w = .ok v.den w := by
 cases x with
 | tmp t =>
  simp only [resOne] at h
  split at h
  ·rename_i u hl
   cases h
   have := hr.sl _ _ hl
   simp [resSem, Array.getD_eq_getD_getElem?, this, RV.den]
  ·cases h
 | cell t ty =>
  simp only [resOne] at h
  split at h
  ·rename_i id blk o ti hl hti
   split at h
   ·rename_i b T cells hob
    split at h
    ·rename_i l hl'
     obtain ⟨T', cs, hob'⟩ := hwf.sl _ _ (look_mem hl)
     rw [hob] at hob'
     cases hob'
     have ht := hr.sl _ _ hl
     obtain ⟨hlen, hget⟩ := takeCells_spec hl'
     have hobj := hw.objs _ (look_mem hob)
     simp only [LO.holds] at hobj
     have e := ok_loadVar (hT _ _ hti) (a := ⟨blk, o, none⟩) hlen h (w := w) (fun j q hq => by
      have hj : j < ti.size := by
       rcases Nat.lt_or_ge j ti.size with h' | h'
       ·exact h'
       ·rw [List.getElem?_eq_none (by simp [dens, hlen, h'])] at hq; cases hq
      have h1 := hget j hj
      have ha : (⟨blk, o, none⟩ : Addr).add j = ⟨blk, o + j, none⟩ := by
       unfold Addr.add; split
       ·simp [*]
       ·rfl
      rw [ha, cell_of_row w blk (o + j) _ _ _ hobj]
      simp only [dens, List.getElem?_map] at hq
      simp only [dens, List.getElem?_toArray, List.getElem?_map, h1, hq])
     simp [resSem, Array.getD_eq_getD_getElem?, ht, RV.den, SV.den, CV.den, asAddr, e]
    ·cases h
   ·cases h
  ·cases h
theorem resAll_spec (hT : TabOk P tab) {st : St} {a : Act} {w : World} (hwf : WF st) (hr : Rel st a) (hw : Holds st w) : ∀ {l : List ResultVar} {vs : List SV}, resAll tab st l = some vs →
  (l.mapM (resSem a.tmps)).run P w = .ok (vs.map SV.den) w
 | [], vs, h => by simp only [resAll] at h; cases h; simp
 | x :: r, vs, h => by
  simp only [resAll] at h
  split at h
  ·rename_i v l hv hl
   cases h
   have e1 := resOne_spec hT hwf hr hw hv
   have e2 := resAll_spec hT hwf hr hw hl
   rw [List.mapM_cons]
   simp only [Sem.run_bind, e1, Result.andThen_ok, e2, Sem.run_pure, List.map_cons]
  ·cases h
theorem resOf_spec (hT : TabOk P tab) {fn : Func} {st : St} {a : Act} {w : World} (hwf : WF st) (hr : Rel st a) (hw : Holds st w) {r : RV} (h : resOf tab st fn.results.toList = some r) :
  (results fn a.tmps).run P w = .ok r.den w := by
 have key : ∀ vs : List SV, resAll tab st fn.results.toList = some vs → (results fn a.tmps).run P w = .ok (if vs.length = 1 then (match vs with | [v] => v.den | _ => undef) else .tuple (vs.map SV.den).toArray) w := by
  intro vs hv
  have e := resAll_spec (P := P) hT hwf hr hw hv
  rw [results_eq, Array.mapM_eq_mapM_toList]
  simp only [Sem.run_bind, Sem.run_map, e, Result.andThen_ok, Sem.run_pure]
  by_cases hl : vs.length = 1
  ·match vs, hl with
   | [v], _ => simp
  ·rw [if_neg hl, dif_neg (by simpa using hl)]
 unfold resOf at h
 split at h
 ·rename_i v hv
  cases h
  rw [key _ hv]; simp [RV.den]
 ·rename_i l hne hv
  cases h
  rw [key _ hv]
  have : l.length ≠ 1 := fun hl => by
   match l, hl with
   | [v], _ => exact hne v rfl
  rw [if_neg this]; rfl
 ·cases h
theorem At.done (hT : TabOk P tab) {fn : Func} {R : Ending → World → Prop} {st : St} (r : RV) (h : resOf tab st fn.results.toList = some r) (hR : ∀ w, Holds st w → R (.returned r.den) w) (hd : st.df = [] := by rfl) : At st (bodyPost P fn R .ret) :=
 ⟨fun hwf a w hr hw => ⟨hr.defers.trans hd, _, resOf_spec hT hwf hr hw h, hR w hw⟩⟩
theorem At.done' (hT : TabOk P tab) {fn : Func} {R : Ending → World → Prop} {st : St} (r : RV) (h : resOf tab st fn.results.toList = some r) (hR : ∀ w, Holds st w → R (.returned r.den) w) (hd : st.df = [] := by rfl) : At st (bodyPost P fn R .normal) :=
 ⟨fun hwf a w hr hw => ⟨hr.defers.trans hd, _, resOf_spec hT hwf hr hw h, hR w hw⟩⟩
def slots : Nat → List RV → List (Nat × Option RV)
 | _, [] => []
 | k, v :: r => (k, some v) :: slots (k + 1) r
theorem slots_spec : ∀ {l : List RV} {k s : Nat} {v : RV}, look (slots k l) s = some (some v) → k ≤ s ∧ l[s - k]? = some v
 | [], k, s, v, h => by cases h
 | x :: r, k, s, v, h => by
  simp only [slots, look] at h
  split at h
  ·rename_i hb
   have := Nat.eq_of_beq_eq_true hb
   subst this
   cases h
   simp
  ·obtain ⟨h1, h2⟩ := slots_spec h
   refine ⟨by omega, ?_⟩
   rw [show s - k = (s - (k + 1)) + 1 by omega]
   simpa using h2
def St.enter (N : Nat) (l : List RV) (hp : List (Nat × LO)) (S : List Nat) (w : World) : St := { N := N, sl := slots 0 l, gl := [], hp := hp, S := S, ws := w }
theorem calls_of_at {f : FuncId} {fn : Func} {c : Code} {w : World} {R : Ending → World → Prop} (l : List RV) (hp : List (Nat × LO)) (S : List Nat) {args : Array Value}
  (hf : P.funcs[f]? = some fn) (hb : fn.body = some c) (ha : args = (l.map RV.den).toArray) (hn : l.length ≤ fn.ntmps) (hwf : WF (St.enter fn.ntmps l hp S w)) (hw : Holds (St.enter fn.ntmps l hp S w) w)
  (h : At (St.enter fn.ntmps l hp S w) (c.wp P (bodyPost P fn R))) : Calls P f args w R := by
 subst ha
 refine calls_of_wp hf hb (h.out hwf _ w ⟨?_, rfl, fun s v hl => ?_, fun s ks v hl => by cases hl⟩ hw)
 ·simp [St.enter]; omega
 ·obtain ⟨_, h2⟩ := slots_spec hl
  rw [Nat.sub_zero] at h2
  have hlt : s < l.length := by
   rcases Nat.lt_or_ge s l.length with h' | h'
   ·exact h'
   ·rw [List.getElem?_eq_none h'] at h2; cases h2
  rw [Array.getElem?_append_left (by simpa using hlt)]
  simp [h2]
theorem holds_enter {N : Nat} {l : List RV} {S : List Nat} {w : World} : Holds (St.enter N l [] S w) w :=
 ⟨fun o ho => (by cases ho), List.nodup_nil, Fr.refl _ _, fun b hb => (by cases hb)⟩
theorem wf_enter {N : Nat} {l : List RV} {S : List Nat} {w : World} (h : ∀ v ∈ l, noPr v = true) : WF (St.enter N l [] S w) :=
 ⟨fun s v hm => by
  have key : ∀ (l : List RV) (k : Nat), (s, some v) ∈ slots k l → v ∈ l := by
   intro l
   induction l with
   | nil => intro k hm; cases hm
   | cons x r ih =>
    intro k hm
    simp only [slots] at hm
    rcases List.mem_cons.1 hm with e | hm
    ·cases e; exact .head _
    ·exact .tail _ (ih _ hm)
  exact noPr_ok (h v (key l 0 hm)), fun id b T cells hm => (by cases hm), fun id v E size L hm => (by cases hm)⟩
theorem calls_plain {f : FuncId} {fn : Func} {c : Code} {w : World} {R : Ending → World → Prop} (l : List RV) {args : Array Value}
  (hf : P.funcs[f]? = some fn) (hb : fn.body = some c) (ha : args = (l.map RV.den).toArray) (hn : l.length ≤ fn.ntmps) (hp : l.all noPr = true)
  (h : At (St.enter fn.ntmps l [] [] w) (c.wp P (bodyPost P fn R))) : Calls P f args w R :=
 calls_of_at l [] [] hf hb ha hn (wf_enter fun v hv => List.all_eq_true.1 hp v hv) holds_enter h
theorem calls_plainB {f : FuncId} {fn : Func} {c : Code} {w : World} {R : Ending → World → Prop} (l : List RV) {args : Array Value}
  (hf : P.funcs[f]? = some fn) (hb : fn.body = some c) (ha : args = (l.map RV.den).toArray) (hn : l.length ≤ fn.ntmps) (hp : l.all noPr = true)
  (h : ∀ B : Exit → Act → World → Prop, B = bodyPost P fn R → At (St.enter fn.ntmps l [] [] w) (c.wp P B)) : Calls P f args w R :=
 calls_plain l hf hb ha hn hp (h _ rfl)
theorem calls_atB {f : FuncId} {fn : Func} {c : Code} {w : World} {R : Ending → World → Prop} (l : List RV) (hp : List (Nat × LO)) (S : List Nat) {args : Array Value}
  (hf : P.funcs[f]? = some fn) (hb : fn.body = some c) (ha : args = (l.map RV.den).toArray) (hn : l.length ≤ fn.ntmps) (hwf : WF (St.enter fn.ntmps l hp S w)) (hw : Holds (St.enter fn.ntmps l hp S w) w)
  (h : ∀ B : Exit → Act → World → Prop, B = bodyPost P fn R → At (St.enter fn.ntmps l hp S w) (c.wp P B)) : Calls P f args w R :=
 calls_of_at l hp S hf hb ha hn hwf hw (h _ rfl)
theorem At.doneB (hT : TabOk P tab) {fn : Func} {R : Ending → World → Prop} {B : Exit → Act → World → Prop} (hB : B = bodyPost P fn R) {st : St} (r : RV) (h : resOf tab st fn.results.toList = some r) (hR : ∀ w, Holds st w → R (.returned r.den) w) (hd : st.df = [] := by rfl) : At st (B .ret) := by
 subst hB; exact At.done hT r h hR hd
theorem At.doneN (hT : TabOk P tab) {fn : Func} {R : Ending → World → Prop} {B : Exit → Act → World → Prop} (hB : B = bodyPost P fn R) {st : St} (r : RV) (h : resOf tab st fn.results.toList = some r) (hR : ∀ w, Holds st w → R (.returned r.den) w) (hd : st.df = [] := by rfl) : At st (B .normal) := by
 subst hB; exact At.done' hT r h hR hd
end
end Go.Vc
