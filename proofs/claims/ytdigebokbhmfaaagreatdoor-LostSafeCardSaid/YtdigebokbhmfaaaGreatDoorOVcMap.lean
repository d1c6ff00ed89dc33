/- Texts that the law leans on. -/
import Derived.Test.YtdigebokbhmfaaaGreatDoorOVcIter
import Derived.MapKept
import Derived.WideKeyMaps
set_option linter.unusedVariables false
set_option linter.unusedSimpArgs false
namespace Go.Vc
open Go.MapKept
variable {P : Program}
structure KL (P : Program) (k : TypeId) (G : Value → Prop) : Prop where
 check : ∀ (w : World) (em : Bool) {v : Value}, G v → (Instr.checkKey em 10000 k v).run P w = .ok () w
 find : ∀ (w : World) {x : Value}, G x → ∀ es : List MapEntry, (∀ e ∈ es, G e.key) →
  ((Instr.findKey k x es).run P w = .ok none w ∧ ∀ e ∈ es, e.key ≠ x) ∨ ∃ j e, (Instr.findKey k x es).run P w = .ok (some (j, e.val)) w ∧ es[j]? = some e ∧ e.key = x
 stays : ∀ (w : World) {v : Value}, G v → (Instr.keyThatStays v v).run P w = .ok v w
theorem KL.int {k : TypeId} (hd : P.underlying k = some (.int .i64)) : KL P k (fun v => ∃ n, v = .int .i64 n) where
 check w em v h := by obtain ⟨n, rfl⟩ := h; exact run_checkKey hd (show IsKey (.int .i64) (.int .i64 n) from rfl) em 9999
 find w x h es hes := by
  obtain ⟨n, rfl⟩ := h
  rcases findNow_spec (d := .int .i64) (k := .int .i64 n) rfl es 0 (fun e he => by obtain ⟨m, hm⟩ := hes e he; rw [hm]; rfl) with ⟨h1, h2⟩ | ⟨j, e, h1, h2, h3⟩
  ·exact .inl ⟨run_findKey hd h1, h2⟩
  ·exact .inr ⟨0 + j, e, run_findKey hd h1, by simpa using h2, h3⟩
 stays w v h := by obtain ⟨n, rfl⟩ := h; exact run_keyThatStays (d := .int .i64) rfl
theorem KL.wide {k : TypeId} (h : Go.WideMaps.KeyLaw P k) : KL P k (fun v => ∃ l, keyOf P k v = some l) where
 check w em v h' := by obtain ⟨l, hl⟩ := h'; exact h.check w em hl
 find w x h' es hes := by obtain ⟨l, hl⟩ := h'; exact h.find w hl es hes
 stays w v h' := by obtain ⟨l, hl⟩ := h'; exact h.stays w hl
section
variable {K V : Type}
def MapAt (eK : K → Value) (eV : V → Value) (w : World) (r : Nat) (L : List (K × V)) : Prop :=
 ∃ es clock, w.heap[r]? = some (.map es clock) ∧ Stamped es clock ∧ es.toList.map (fun e => (e.key, e.val)) = L.map fun p => (eK p.1, eV p.2)
def mapO (eK : K → Value) (eV : V → Value) (r : Nat) (L : List (K × V)) : LO := .ab [r] (fun w => MapAt eK eV w r L)
variable {eK : K → Value} {eV : V → Value} {w : World} {r : Nat} {L : List (K × V)}
variable {G : Value → Prop} {kt et t : TypeId}
theorem mapO_holds (h : MapAt eK eV w r L) : (mapO eK eV r L).holds w := by
 refine ⟨fun b hb => ?_, fun w' hs => ?_⟩
 ·rw [List.mem_singleton.1 hb]; obtain ⟨es, c, h1, _⟩ := h; exact (Array.getElem?_eq_some_iff.1 h1).1
 ·obtain ⟨es, c, h1, h2⟩ := h; exact ⟨es, c, (hs r (by simp)).trans h1, h2⟩
theorem mapO_at (h : (mapO eK eV r L).holds w) : MapAt eK eV w r L := h.2 w fun _ _ => rfl
theorem keys_pair {es : Array MapEntry} {clock : Nat} (hs : Stamped es clock) (he : es.toList.map (fun e => (e.key, e.val)) = L.map fun p => (eK p.1, eV p.2)) : L.Pairwise (fun a b => a.1 ≠ b.1) := by
 have h3 := ((stamped_iff es clock).1 hs).2.2
 have e1 : es.toList.map (·.key) = L.map fun p => eK p.1 := by
  have := congrArg (List.map Prod.fst) he
  simpa [List.map_map, Function.comp_def] using this
 have h4 : (es.toList.map (·.key)).Pairwise (· ≠ ·) := List.pairwise_map.2 h3
 rw [e1, List.pairwise_map] at h4
 exact h4.imp fun h e => h (by rw [e])
theorem entry_get {es : Array MapEntry} (he : es.toList.map (fun e => (e.key, e.val)) = L.map fun p => (eK p.1, eV p.2)) {j : Nat} {e : MapEntry} (hj : es.toList[j]? = some e) : ∃ p, L[j]? = some p ∧ e.key = eK p.1 ∧ e.val = eV p.2 := by
 have := congrArg (fun l => l[j]?) he
 simp only [List.getElem?_map, hj, Option.map_some] at this
 cases hp : L[j]? with
 | none => rw [hp] at this; cases this
 | some p =>
  rw [hp] at this
  simp only [Option.map_some, Option.some.injEq, Prod.mk.injEq] at this
  exact ⟨p, rfl, this.1, this.2⟩
theorem entry_mem {es : Array MapEntry} (he : es.toList.map (fun e => (e.key, e.val)) = L.map fun p => (eK p.1, eV p.2)) {p : K × V} (hp : p ∈ L) : ∃ e ∈ es.toList, e.key = eK p.1 ∧ e.val = eV p.2 := by
 have : (eK p.1, eV p.2) ∈ es.toList.map (fun e => (e.key, e.val)) := by rw [he]; exact List.mem_map.2 ⟨p, hp, rfl⟩
 obtain ⟨e, h1, h2⟩ := List.mem_map.1 this
 simp only [Prod.mk.injEq] at h2
 exact ⟨e, h1, h2.1, h2.2⟩
theorem run_make (w : World) : (Instr.makeMap t none).run P w = .ok (.map (some w.heap.size)) (w.alloc (.map #[] 0)) ∧ MapAt eK eV (w.alloc (.map #[] 0)) w.heap.size ([] : List (K × V)) := by
 refine ⟨by simp [Instr.makeMap, Result.andThen], #[], 0, ?_, stamped_empty 0, rfl⟩
 show (w.heap.push _)[w.heap.size]? = _
 simp
theorem rawE_make {st : St} {dst : Option Nat} {ty : TypeId} {pos : String} {after : Array Edge} {guard : Option (Nat × Bool)} {Kp : St → Prop} (eK : K → Value) (eV : V → Value)
  (hk : ∀ r : Nat, st.pushK (mapO eK eV r []) (fun n st' => goPut st' dst (.s (.c (.x (.map (some r))))) Kp)) :
  RawE P st { dst := dst, op := .makeMap t none, type := ty, pos := pos, after := after, guard := guard } Kp := by
 refine ⟨fun ρ hρ hwf w hw => ?_⟩
 have hk' := hk w.heap.size
 rw [pushK_eq] at hk'
 obtain ⟨h1, h2⟩ := run_make (P := P) (t := t) (eK := eK) (eV := eV) w
 refine ⟨st.push (mapO eK eV w.heap.size []), _, .inl ⟨.s (.c (.x (.map (some w.heap.size)))), ?_, trivial, hk'⟩, ⟨rfl, rfl, rfl, rfl⟩, hwf.push trivial, hw.pushG ((Fr.refl [] w).alloc _) (mapO_holds h2) (fun b hb => ?_)⟩
 ·simp only [execOp, Option.map_none, Sem.run_bind, h1, Result.andThen_ok, Sem.run_pure]
  rfl
 ·have : b ∈ [w.heap.size] := mem_nub.1 hb
  rw [List.mem_singleton.1 this]; exact Nat.le_refl _
variable [DecidableEq K]
def alook (L : List (K × V)) (k : K) : Option V := (L.find? (fun p => decide (p.1 = k))).map (·.2)
def aput (L : List (K × V)) (k : K) (v : V) : List (K × V) := if (alook L k).isSome then L.map (fun p => if p.1 = k then (k, v) else p) else L ++ [(k, v)]
theorem alook_none {k : K} (h : ∀ p ∈ L, p.1 ≠ k) : alook L k = none := by
 unfold alook
 rw [List.find?_eq_none.2 (fun p hp => by simpa using h p hp)]; rfl
theorem alook_some {k : K} {p : K × V} {j : Nat} (hL : L.Pairwise (fun a b => a.1 ≠ b.1)) (hj : L[j]? = some p) (hk : p.1 = k) : alook L k = some p.2 := by
 unfold alook
 cases hf : L.find? (fun p => decide (p.1 = k)) with
 | none =>
  have := List.find?_eq_none.1 hf p (List.mem_of_getElem? hj)
  simp [hk] at this
 | some q =>
  have hq : q.1 = k := by simpa using List.find?_some hf
  obtain ⟨i, hi, e⟩ := List.getElem_of_mem (List.mem_of_find?_eq_some hf)
  obtain ⟨hjl, ej⟩ := List.getElem?_eq_some_iff.1 hj
  have hij : i = j := by
   rw [List.pairwise_iff_getElem] at hL
   rcases Nat.lt_trichotomy i j with h | h | h
   ·exact absurd (by rw [e, ej, hq, hk]) (hL i j hi hjl h)
   ·exact h
   ·exact absurd (by rw [e, ej, hq, hk]) (hL j i hjl hi h)
  subst hij
  rw [e] at ej
  rw [ej]; rfl
theorem find_spec (kl : KL P kt G) {k : K} (hG : G (eK k)) (hL : ∀ p ∈ L, G (eK p.1)) (inj : ∀ a b, eK a = eK b → a = b) {es : Array MapEntry} {clock : Nat} (hs : Stamped es clock) (he : es.toList.map (fun e => (e.key, e.val)) = L.map fun p => (eK p.1, eV p.2)) :
  ((Instr.findKey kt (eK k) es.toList).run P w = .ok none w ∧ alook L k = none ∧ ∀ e ∈ es.toList, e.key ≠ eK k) ∨
  ∃ j v e, (Instr.findKey kt (eK k) es.toList).run P w = .ok (some (j, eV v)) w ∧ alook L k = some v ∧ es.toList[j]? = some e ∧ e.key = eK k ∧ L[j]? = some (k, v) := by
 have hk : ∀ e ∈ es.toList, G e.key := fun e h => by
  obtain ⟨j, hj, rfl⟩ := List.getElem_of_mem h
  obtain ⟨p, h1, h2, _⟩ := entry_get he (List.getElem?_eq_getElem hj)
  rw [h2]; exact hL _ (List.mem_of_getElem? h1)
 rcases kl.find w hG es.toList hk with ⟨h1, h2⟩ | ⟨j, e, h1, h2, h3⟩
 ·refine .inl ⟨h1, alook_none fun p hp hpk => ?_, h2⟩
  obtain ⟨e, he1, he2, _⟩ := entry_mem he hp
  exact h2 e he1 (by rw [he2, hpk])
 ·obtain ⟨p, hp1, hp2, hp3⟩ := entry_get he h2
  have hpk : p.1 = k := inj _ _ (hp2.symm.trans h3)
  refine .inr ⟨j, p.2, e, by rw [← hp3]; exact h1, alook_some (keys_pair hs he) hp1 hpk, h2, h3, ?_⟩
  rw [hp1, ← hpk]
theorem run_lookup (kl : KL P kt G) {k : K} (hG : G (eK k)) (hL : ∀ p ∈ L, G (eK p.1)) (inj : ∀ a b, eK a = eK b → a = b) (ht : P.underlying t = some (.map kt et)) {z : Value} (hz : ∀ w, (zeroValue et).run P w = .ok z w) (h : MapAt eK eV w r L) (c : Bool) :
  (Instr.lookup t (.map (some r)) (eK k) c).run P w = .ok (if c then .tuple #[(alook L k).elim z eV, .bool (alook L k).isSome] else (alook L k).elim z eV) w := by
 obtain ⟨es, clock, h1, h2, h3⟩ := h
 rcases find_spec (P := P) (w := w) kl hG hL inj h2 h3 with ⟨q1, q2, _⟩ | ⟨j, v, e, q1, q2, _, _, _⟩
 ·simp [Instr.lookup, run_underlying ht, MapKept.run_getObj_map h1, kl.check w _ hG, q1, hz, q2, Result.andThen]
 ·simp [Instr.lookup, run_underlying ht, MapKept.run_getObj_map h1, kl.check w _ hG, q1, q2, Result.andThen]
theorem aput_keys {k : K} {v : V} : (aput L k v).map (·.1) = if (alook L k).isSome then L.map (·.1) else L.map (·.1) ++ [k] := by
 unfold aput
 split
 ·rw [List.map_map]
  refine List.map_congr_left fun p hp => ?_
  simp only [Function.comp_def]
  split
  ·rename_i h; exact h.symm
  ·rfl
 ·simp
theorem run_update (kl : KL P kt G) {k : K} (hG : G (eK k)) (hL : ∀ p ∈ L, G (eK p.1)) (inj : ∀ a b, eK a = eK b → a = b) (ht : P.underlying t = some (.map kt et)) (h : MapAt eK eV w r L) (v : V) :
  ∃ o, (Instr.mapUpdate t (.map (some r)) (eK k) (eV v)).run P w = .ok () { w with heap := w.heap.setIfInBounds r o } ∧ MapAt eK eV { w with heap := w.heap.setIfInBounds r o } r (aput L k v) := by
 obtain ⟨es, clock, h1, h2, h3⟩ := h
 have hr : r < w.heap.size := (Array.getElem?_eq_some_iff.1 h1).1
 rcases find_spec (P := P) (w := w) kl hG hL inj h2 h3 with ⟨q1, q2, q3⟩ | ⟨j, u, e, q1, q2, q3, q4, q5⟩
 ·refine ⟨.map (es.push { key := eK k, val := eV v, born := clock }) (clock + 1), ?_, _, _, (heap_set h1).1, stamped_push h2 q3, ?_⟩
  ·simp [Instr.mapUpdate, run_underlying ht, MapKept.run_getObj_map h1, kl.check w _ hG, q1, run_setObj_map _ h1, Result.andThen]
  ·simp [aput, q2, h3]
 ·have hj : es[j]? = some e := by simpa using q3
  refine ⟨.map (es.modify j fun x => { x with key := eK k, val := eV v }) clock, ?_, _, _, (heap_set h1).1, stamped_modify h2 j _ (fun _ _ => rfl) (fun x _ hx => ?_), ?_⟩
  ·simp [Instr.mapUpdate, run_underlying ht, MapKept.run_getObj_map h1, kl.check w _ hG, q1, hj, q4, kl.stays w hG, run_setObj_map _ h1, Result.andThen]
  ·rw [hj] at hx; cases hx; exact q4.symm
  ·unfold aput
   rw [q2, Option.isSome_some, if_pos rfl]
   have hp := keys_pair h2 h3
   apply List.ext_getElem?
   intro i
   have h3i := congrArg (fun l => l[i]?) h3
   simp only [List.getElem?_map, Array.getElem?_toList, Array.getElem?_modify] at h3i ⊢
   by_cases hij : j = i
   ·subst hij
    simp [hj, q5]
   ·rw [if_neg hij, h3i]
    cases hp' : L[i]? with
    | none => rfl
    | some p =>
     have hne : p.1 ≠ k := fun e' => by
      obtain ⟨hi1, ei⟩ := List.getElem?_eq_some_iff.1 hp'
      obtain ⟨hj1, ej⟩ := List.getElem?_eq_some_iff.1 q5
      rw [List.pairwise_iff_getElem] at hp
      rcases Nat.lt_or_gt_of_ne hij with h | h
      ·exact hp j i hj1 hi1 h (by rw [ei, ej, e'])
      ·exact hp i j hi1 hj1 h (by rw [ei, ej, e'])
     simp [hne]
theorem rawQ_lookup {st : St} {dst : Option Nat} {ty : TypeId} {pos : String} {after : Array Edge} {guard : Option (Nat × Bool)} {keys : Keys} {x i : Operand} {key : K} {kv : RV} {z : CV} {c : Bool} {fV : V → CV}
  (kl : KL P kt G) (hG : G (eK key)) (hL : ∀ p ∈ L, G (eK p.1)) (inj : ∀ a b, eK a = eK b → a = b) (ht : P.underlying t = some (.map kt et)) (hz : ∀ w, (zeroValue et).run P w = .ok z.den w) (hV : ∀ v, (fV v).den = eV v)
  (hx : opv st keys x = some (.s (.c (.x (.map (some r)))))) (hi : opv st keys i = some kv) (hk : kv.den = eK key) (hm : ∀ w, Holds st w → MapAt eK eV w r L) :
  RawQ P st keys { dst := dst, op := .lookup t x i c, type := ty, pos := pos, after := after, guard := guard } (if c then .tup [.c ((alook L key).elim z fV), .c (.b (alook L key).isSome)] else .s (.c ((alook L key).elim z fV))) := by
 refine ⟨fun ρ hρ w hw => ?_⟩
 have ex := hρ _ _ hx
 have ei := hρ _ _ hi
 rw [hk] at ei
 simp only [RV.den, SV.den, CV.den] at ex
 have := run_lookup (w := w) kl hG hL inj ht hz (hm w hw) c
 simp only [execOp, ex, ei, Sem.run_bind, this, Result.andThen_ok, Sem.run_pure]
 cases c with
 | false => cases alook L key with
  | none => rfl
  | some v => simp [RV.den, SV.den, hV]
 | true => cases alook L key with
  | none => rfl
  | some v =>
   show Result.ok (Next.value (Value.tuple #[eV v, .bool true])) w = Result.ok (Next.value (Value.tuple #[(fV v).den, .bool true])) w
   rw [hV]
theorem rawE_update {st : St} {ty : TypeId} {pos : String} {after : Array Edge} {guard : Option (Nat × Bool)} {Kp : St → Prop} {x i y : Operand} {id : Nat} {key : K} {v : V} {kv vv : RV}
  (kl : KL P kt G) (hG : G (eK key)) (hL : ∀ p ∈ L, G (eK p.1)) (inj : ∀ a b, eK a = eK b → a = b) (ht : P.underlying t = some (.map kt et))
  (hx : opv st [] x = some (.s (.c (.x (.map (some r)))))) (hi : opv st [] i = some kv) (hk : kv.den = eK key) (hy : opv st [] y = some vv) (hv : vv.den = eV v) (hl : look st.hp id = some (mapO eK eV r L))
  (hK : hpSetK st.hp id (mapO eK eV r (aput L key v)) (fun hp => st.withHp hp Kp)) :
  RawE P st { dst := none, op := .mapUpdate t x i y, type := ty, pos := pos, after := after, guard := guard } Kp := by
 refine ⟨fun ρ hρ hwf w hw => ?_⟩
 have ex := hρ _ _ hx
 have ei := hρ _ _ hi
 have ey := hρ _ _ hy
 rw [hk] at ei
 rw [hv] at ey
 simp only [RV.den, SV.den, CV.den] at ex
 have hm := mapO_at (hw.objs _ (look_mem hl))
 obtain ⟨o, hrun, hat⟩ := run_update (w := w) kl hG hL inj ht hm v
 rw [hpSetK_eq] at hK
 refine ⟨st.setHp (hpSet st.hp id (mapO eK eV r (aput L key v))), _, .inr ⟨rfl, ?_, hK⟩, ⟨rfl, rfl, rfl, rfl⟩, hwf.setO hl (fun b T cells e => by cases e) trivial, hw.setG hl ?_ (mapO_holds hat) (fun b hb => .inl hb)⟩
 ·simp only [execOp, ex, ei, ey, Sem.run_bind, hrun, Result.andThen_ok, Sem.run_pure]
 ·refine ⟨rfl, rfl, rfl, by simp, fun j hj hn => ?_⟩
  have hne : r ≠ j := fun e => hn (mem_nub.2 (by simp [e]))
  simp [Array.getElem?_setIfInBounds, hne]
end
end Go.Vc
