/- Texts that the law leans on. -/
import Derived.Test.YtdigebokbhmfaaaGreatDoorOVcCall
set_option linter.unusedVariables false
set_option linter.unusedSimpArgs false
namespace Go.Vc
open Go.RowKit
structure Ty (α : Type) where
 size : Nat
 rel : List Nat → World → α → List CV → Prop
 len : ∀ {S w x l}, rel S w x l → l.length = size
 fr : ∀ {S w w' x l}, Fr S w w' → rel S w x l → rel S w' x l
 av : ∀ {S S' w x l}, (∀ b ∈ S', b ∈ S ∨ w.heap.size ≤ b) → rel S w x l → rel S' w x l
structure SlOf {α : Type} (T : Ty α) (S : List Nat) (w : World) (v : Value) (xs : List α) : Prop where
 sl : isSl v
 len : slen v = xs.length
 small : xs.length ≤ 9223372036854775807
 av : ∀ a n c, v = .slice (some a) n c → 0 < xs.length → a.block ∉ S ∧ a.block < w.heap.size
 elem : ∀ (i : Nat) x, xs[i]? = some x → ∃ l, T.rel S w x l ∧ ECells w v T.size i 0 l
theorem add_block (a : Addr) (n : Nat) : (a.add n).block = a.block := by unfold Addr.add; split <;> rfl
theorem elemAddr_block (a : Addr) (s : Nat) (i : Int) (o j : Nat) : ((elemAddr a s i o).add j).block = a.block := by
 unfold elemAddr; rw [add_block, add_block, add_block]
theorem cell_fr {S : List Nat} {w w' : World} (h : Fr S w w') {a : Addr} (h1 : a.block ∉ S) (h2 : a.block < w.heap.size) : w'.cell? a = w.cell? a := by
 have e := h.block a.block h2 h1
 unfold World.cell?; rw [e]
section
variable {α : Type} {T : Ty α} {S S' : List Nat} {w w' : World} {v : Value} {xs : List α}
theorem pos_of_get {i : Nat} {x : α} (h : xs[i]? = some x) : 0 < xs.length := by
 rcases Nat.lt_or_ge i xs.length with h' | h'
 ·omega
 ·rw [List.getElem?_eq_none h'] at h; cases h
theorem SlOf.fr (h : SlOf T S w v xs) (hf : Fr S w w') : SlOf T S w' v xs :=
 ⟨h.sl, h.len, h.small, fun a n c e hp => ⟨(h.av a n c e hp).1, Nat.lt_of_lt_of_le (h.av a n c e hp).2 hf.size⟩, fun i x hx => by
  obtain ⟨l, h1, h2⟩ := h.elem i x hx
  refine ⟨l, T.fr hf h1, fun a n c e j u hu => ?_⟩
  have hv := h.av a n c e (pos_of_get hx)
  rw [cell_fr hf (by rw [elemAddr_block]; exact hv.1) (by rw [elemAddr_block]; exact hv.2)]
  exact h2 a n c e j u hu⟩
theorem SlOf.avoid (h : SlOf T S w v xs) (hs : ∀ b ∈ S', b ∈ S ∨ w.heap.size ≤ b) : SlOf T S' w v xs :=
 ⟨h.sl, h.len, h.small, fun a n c e hp => ⟨fun hm => (hs _ hm).elim (h.av a n c e hp).1 (fun h' => by have := (h.av a n c e hp).2; omega), (h.av a n c e hp).2⟩, fun i x hx => by
  obtain ⟨l, h1, h2⟩ := h.elem i x hx
  exact ⟨l, T.av hs h1, h2⟩⟩
theorem SlOf.ext (h : SlOf T S w v xs) (hf : Ext w w') : SlOf T S w' v xs := h.fr (hf.fr S)
theorem Holds.lift {st : St} (hw : Holds st w) (h : SlOf T st.S st.ws v xs) : SlOf T st.blks w v xs := by
 have h1 := h.avoid (S' := st.S ++ st.blks) (fun b hb => (List.mem_append.1 hb).elim .inl (fun hb => hw.own b hb))
 have h2 := h1.fr (hw.fr.mono fun k hk => .inl (List.mem_append.2 (.inl hk)))
 exact h2.avoid fun b hb => .inl (List.mem_append.2 (.inr hb))
end
def flat {α : Type} (size : Nat) (enc : α → List CV) (hl : ∀ x, (enc x).length = size) : Ty α where
 size := size
 rel := fun _ _ x l => l = enc x
 len := fun {_ _ x _} h => by rw [h]; exact hl x
 fr := fun _ h => h
 av := fun _ h => h
theorem SlOf.load {α : Type} {size : Nat} {enc : α → List CV} {hl : ∀ x, (enc x).length = size} {S : List Nat} {ws w : World} {v : Value} {xs : List α} (h : SlOf (flat size enc hl) S ws v xs) (hf : Fr S ws w)
  {i : Nat} {x : α} (hx : xs[i]? = some x) {off n : Nat} {l : List CV} (ht : takeCells off n (enc x) = some l) : ECells w v size i off l := by
 obtain ⟨l', h1, h2⟩ := (h.fr hf).elem i x hx
 cases h1
 exact h2.part ht
def intT : Ty Int := flat 1 (fun n => [.i n]) (fun _ => rfl)
theorem LO.holds_ext {w w' : World} (hx : Ext w w') {o : LO} (h : o.holds w) : o.holds w' := LO.frame hx h (by simp)
theorem Holds.ext {st : St} {w w' : World} (h : Holds st w) (hx : Ext w w') : Holds st w' :=
 ⟨fun o ho => LO.holds_ext hx (h.objs o ho), h.nodup, h.fr.trans (hx.fr _), h.own⟩
def Ans (P : Program) (f : FuncId) (args : List Value) (r : RV) (w : World) : Prop := Calls P f args.toArray w (fun e w' => e = .returned r.den ∧ Ext w w')
theorem ans_quiet {P : Program} {f : FuncId} {args : List Value} {r : RV} {st : St} (hb : Body P f) (h : ∀ w, Holds st w → Ans P f args r w) : QCall P st f args r :=
 .inl ⟨hb, fun w hw => (h w hw).mono fun e w' ⟨he, hx⟩ => ⟨he, hw.ext hx⟩⟩
theorem ans_call {P : Program} {f : FuncId} {args : List Value} {r : RV} {st : St} {d : Option Nat} {K : St → Prop} (hb : Body P f) (hn : noPr r = true) (h : ∀ w, Holds st w → Ans P f args r w) (hk : goPut st d r K) : UCall P st f args d K :=
 .inl ⟨hb, fun hwf w hw => (h w hw).mono fun e w' ⟨he, hx⟩ => ⟨r, st, he, ⟨rfl, rfl, rfl, rfl⟩, hwf, noPr_ok hn, hw.ext hx, hk⟩⟩
def LeL (sl : List (Nat × Option RV)) : List (Nat × Option RV) → Prop
 | [] => True
 | (s, some v) :: r => (match look sl s with | some (some u) => u.den = v.den | _ => False) ∧ LeL sl r
 | (_, none) :: r => LeL sl r
theorem LeL_spec {sl : List (Nat × Option RV)} : ∀ {l : List (Nat × Option RV)}, LeL sl l → ∀ s v, look l s = some (some v) → ∃ u, look sl s = some (some u) ∧ u.den = v.den
 | [], _, s, v, hl => by cases hl
 | (t, some x) :: r, h, s, v, hl => by
  simp only [look] at hl
  split at hl
  ·rename_i hb
   have := Nat.eq_of_beq_eq_true hb
   subst this
   cases hl
   have h1 := h.1
   split at h1
   ·rename_i u hu; exact ⟨u, hu, h1⟩
   ·exact h1.elim
  ·exact LeL_spec h.2 s v hl
 | (t, none) :: r, h, s, v, hl => by
  simp only [look] at hl
  split at hl
  ·cases hl
  ·exact LeL_spec (l := r) h s v hl
theorem Le.of {st st' : St} (h1 : st'.N = st.N) (h2 : st'.gl = []) (h : LeL st.sl st'.sl) (h3 : st'.df = st.df := by rfl) : Le st st' := ⟨⟨h1, h3⟩, h2, LeL_spec h⟩
def plainB : St → Bool
 | ⟨_, sl, _, hp, _, _, _⟩ => sl.all (fun e => match e.2 with | some v => noPr v | none => true) && hp.all (fun e => match e.2 with | .box _ _ cells => noPs cells | .row _ _ _ _ => false | .ab _ _ => true)
theorem WF.plain {st : St} (h : plainB st = true) : WF st := by
 obtain ⟨N, sl, gl, hp, S, ws, df⟩ := st
 simp only [plainB, Bool.and_eq_true, List.all_eq_true] at h
 refine ⟨fun s v hm => ?_, fun id b T cells hm => ?_, fun id v E size L hm => ?_⟩
 ·exact noPr_ok (h.1 _ hm)
 ·exact noPs_ok (h.2 _ hm)
 ·cases h.2 _ hm
theorem Holds.same {st st' : St} {w : World} (h : Holds st w) (h1 : st'.hp = st.hp) (h2 : st'.S = st.S) (h3 : st'.ws = st.ws) : Holds st' w := by
 refine ⟨by rw [h1]; exact h.objs, ?_, by rw [h2, h3]; exact h.fr, ?_⟩
 ·unfold St.blks; rw [h1]; exact h.nodup
 ·unfold St.blks; rw [h1, h2, h3]; exact h.own
theorem band (a b : Bool) : (bif a then b else false) = (a && b) := by cases a <;> rfl
theorem bor (a b : Bool) : (bif a then true else b) = (a || b) := by cases a <;> rfl
end Go.Vc
