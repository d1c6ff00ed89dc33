/- Texts that the law leans on. -/
import Derived.Test.YtdigebokbhmfaaaGreatDoorOVcRun
import Derived.OrdersHeld
set_option linter.unusedVariables false
set_option linter.unusedSimpArgs false
namespace Go.Vc
open Go.RowKit
def Keep (hpR : List (Nat × LO)) (S : List Nat) (ws w : World) : Prop := (∀ x ∈ hpR, x.2.holds w) ∧ Fr S ws w
def LeH (hp : List (Nat × LO)) : List (Nat × LO) → Prop
 | [] => True
 | (id, o) :: r => look hp id = some o ∧ LeH hp r
theorem LeH_mem {hp : List (Nat × LO)} : ∀ {l : List (Nat × LO)}, LeH hp l → ∀ x ∈ l, look hp x.1 = some x.2
 | [], _, x, hx => by cases hx
 | (id, o) :: r, h, x, hx => by
  rcases List.mem_cons.1 hx with rfl | hx
  ·exact h.1
  ·exact LeH_mem h.2 x hx
theorem LeH_look {hp l : List (Nat × LO)} (h : LeH hp l) {id : Nat} {o : LO} (hl : look l id = some o) : look hp id = some o := LeH_mem h _ (look_mem hl)
def stepK (P : Program) (tab : Tab) (ops : Array Oper) (hpR : List (Nat × LO)) (S : List Nat) (ws : World) (o : Oper) (st : St) (K : St → Prop) : Prop :=
 match guardOf st ops o.guard with
 | none => False
 | some (keys, cs) => match pev tab st hpR keys o.op with
  | some (obs, v) => match put st o.dst keys v with
   | some st' => obl cs obs (K st')
   | none => False
  | none => match o.op with
   | .load t x => match look tab t, opv st keys x with
    | some ti, some (.s (.c (.e v size idx off))) => ∃ l : List CV, gimp cs (∀ w, Fr S ws w → ECells w v size idx off l) ∧
     match Nat.beq l.length ti.size, noPs l, mkSV ti.agg l with
     | true, true, some u => match put st o.dst keys (.s u) with
      | some st' => K st'
      | none => False
     | _, _, _ => False
    | some ti, some (.s (.c (.r id v size idx off))) => match look hpR id with
     | some (.row v0 _ size0 L) => ∃ row : List CV, gimp cs (v = v0 ∧ size = size0 ∧ 0 ≤ idx ∧ L[idx.toNat]? = some row) ∧
      match takeCells off ti.size row with
      | some l => match mkSV ti.agg l with
       | some u => match put st o.dst keys (.s u) with
        | some st' => K st'
        | none => False
       | none => False
      | none => False
     | _ => False
    | _, _ => False
   | _ => False
theorem stepK_sound {P : Program} {tab : Tab} {ops : Array Oper} {hpR : List (Nat × LO)} {S : List Nat} {ws : World} {o : Oper} {st : St} {K : St → Prop} {a : Act} (hT : TabOk P tab) (h : stepK P tab ops hpR S ws o st K)
  (hwf : WF st) (hr : Rel st a) (hle : LeH st.hp hpR) : ∃ v st', YieldsIf P ops (Keep hpR S ws) o v a ∧ K st' ∧ WF st' ∧ Rel st' (a.put o.dst v) ∧ SameW st st' := by
 have hsub : ∀ id q, look hpR id = some q → look st.hp id = some q := fun id q hl => LeH_look hle hl
 unfold stepK at h
 split at h
 ·exact h.elim
 ·rename_i keys cs hg
  rcases guardOf_spec hr hg with ⟨hwant, hkeys, hcs⟩ | ⟨hwant, hkeys⟩
  ·split at h
   ·rename_i obs v hpev
    split at h
    ·rename_i st' hput
     obtain ⟨h1, h2⟩ := obl_out h
     have hob : ∀ p ∈ obs, p := fun p hp => gimp_out (h1 p hp) hcs
     have hok := pev_ok hT hwf hr hkeys hsub hpev hob
     exact ⟨v.den, st', .inl ⟨hwant, fun w hw => pev_sound hT hwf hr hkeys hsub hpev hob hw.1⟩, h2, put_wf hput hwf (fun _ => hok), put_rel hput hr (.inl ⟨hkeys, rfl, hok⟩), put_world hput⟩
    ·exact h.elim
   ·split at h
    ·rename_i t x hop
     obtain ⟨dst, op, type, pos, after, guard⟩ := o
     dsimp only at hop
     subst hop
     split at h
     ·rename_i ti v size idx off hti hx
      obtain ⟨l, h1, h2⟩ := h
      have hcells := gimp_out h1 hcs
      split at h2
      ·rename_i u hlen hnp hmk
       split at h2
       ·rename_i st' hput
        obtain ⟨ad, n, c, rfl⟩ := opv_ok hwf hr hkeys hx
        have hok := mkSV_ok hmk (noPs_ok (hp := st.hp) hnp)
        refine ⟨u.den, st', .inl ⟨hwant, fun w hw => ?_⟩, h2, put_wf hput hwf (fun _ => hok), put_rel hput hr (.inl ⟨hkeys, rfl, hok⟩), put_world hput⟩
        have ex := eval_opv hr hkeys hx
        simp only [RV.den, SV.den, CV.den, elemPtr] at ex
        have e := ok_loadVar (hT _ _ hti) (a := elemAddr ad size idx off) (Nat.eq_of_beq_eq_true hlen) hmk (w := w) (fun j q hq => hcells w hw.2 ad n c rfl j q hq)
        simp [execOp, ex, Instr.loadAt, Instr.sureAddr, e]
       ·exact h2.elim
      ·exact h2.elim
     ·rename_i ti id v size idx off hti hx
      split at h
      ·rename_i v0 E size0 L hob
       obtain ⟨row, h1, h2⟩ := h
       obtain ⟨rfl, rfl, h0i, hrow⟩ := gimp_out h1 hcs
       split at h2
       ·rename_i l hl
        split at h2
        ·rename_i u hmk
         split at h2
         ·rename_i st' hput
          obtain ⟨ad, n, c, rfl⟩ := opv_ok hwf hr hkeys hx
          have hok := mkSV_ok hmk (hp := st.hp) (fun c hc => (hwf.row _ _ _ _ _ (look_mem (hsub _ _ hob))).2 row (List.mem_of_getElem? hrow) c (takeCells_mem hl c hc))
          refine ⟨u.den, st', .inl ⟨hwant, fun w hw => ?_⟩, h2, put_wf hput hwf (fun _ => hok), put_rel hput hr (.inl ⟨hkeys, rfl, hok⟩), put_world hput⟩
          have ex := eval_opv hr hkeys hx
          simp only [RV.den, SV.den, CV.den, elemPtr] at ex
          have hcells := (row_cells (hw.1 _ (look_mem hob)) hrow).part hl
          rw [Int.toNat_of_nonneg h0i] at hcells
          have e := ok_loadVar (hT _ _ hti) (a := elemAddr ad size idx off) (takeCells_spec hl).1 hmk (w := w) (fun j q hq => hcells ad n c rfl j q hq)
          simp [execOp, ex, Instr.loadAt, Instr.sureAddr, e]
         ·exact h2.elim
        ·exact h2.elim
       ·exact h2.elim
      ·exact h.elim
     ·exact h.elim
    ·exact h.elim
  ·have fin : ∀ {v : RV} {st' : St}, put st o.dst keys v = some st' → K st' → ∃ v st', YieldsIf P ops (Keep hpR S ws) o v a ∧ K st' ∧ WF st' ∧ Rel st' (a.put o.dst v) ∧ SameW st st' := fun {v st'} hput hk =>
    ⟨undef, st', .inr ⟨hwant, rfl⟩, hk, put_wf hput hwf (fun e => (hkeys (by rw [e]; intro k hk; cases hk)).elim), put_rel hput hr (.inr ⟨hkeys, rfl⟩), put_world hput⟩
   split at h
   ·split at h
    ·rename_i st' hput
     exact fin hput (obl_out h).2
    ·exact h.elim
   ·split at h
    ·split at h
     ·obtain ⟨l, h1, h2⟩ := h
      split at h2
      ·split at h2
       ·rename_i st' hput
        exact fin hput h2
       ·exact h2.elim
      ·exact h2.elim
     ·split at h
      ·obtain ⟨row, h1, h2⟩ := h
       split at h2
       ·split at h2
        ·split at h2
         ·rename_i st' hput
          exact fin hput h2
         ·exact h2.elim
        ·exact h2.elim
       ·exact h2.elim
      ·exact h.elim
     ·exact h.elim
    ·exact h.elim
inductive Plan where
 | done
 | take (i : Nat) (p : Plan)
 | br (i : Nat) (p q : Plan)
 | nob
def Plan.alts : Plan → List Nat
 | .br i _ q => i :: q.alts
 | _ => []
def Plan.chk (ops : Array Oper) : Plan → Bool → Nat → Array Bool → Bool
 | .done, flag, _, listed => !flag && (Region.ready .any ops listed).isEmpty
 | .take i p, flag, fuel, listed => !flag && (match fuel with | 0 => false | f + 1 => (Region.ready .any ops listed).contains i && Region.free .any ops listed i && p.chk ops false f (listed.setIfInBounds i true))
 | .br i p q, flag, fuel, listed => (flag || (Plan.alts (.br i p q) == Region.ready .any ops listed)) && (match fuel with | 0 => false | f + 1 => p.chk ops false f (listed.setIfInBounds i true)) && q.chk ops true fuel listed
 | .nob, flag, _, _ => flag
def onlyN (N : Act → World → Prop) : Exit → Act → World → Prop
 | .normal, a, w => N a w
 | _, _, _ => False
section
variable {P : Program} {tab : Tab} {ops : Array Oper} {hpR : List (Nat × LO)} {S : List Nat} {ws : World} {N : Act → World → Prop} {K : St → Prop}
theorem keep_of {st : St} {w : World} (hw : Holds st w) (hle : LeH st.hp hpR) (hf : Fr S ws w) : Keep hpR S ws w :=
 ⟨fun x hx => hw.objs _ (look_mem (LeH_mem hle x hx)), hf⟩
end
end Go.Vc
