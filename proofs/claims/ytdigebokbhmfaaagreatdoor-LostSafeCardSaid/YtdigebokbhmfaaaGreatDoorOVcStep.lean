/- Texts that the law leans on. -/
import Derived.Test.YtdigebokbhmfaaaGreatDoorOVcPurf
set_option linter.unusedVariables false
set_option linter.unusedSimpArgs false
namespace Go.Vc
open Go.RowKit
theorem takeCells_mem : ∀ {o n : Nat} {cells l : List CV}, takeCells o n cells = some l → ∀ c ∈ l, c ∈ cells := by
 intro o n cells l h c hc
 obtain ⟨h1, h2⟩ := takeCells_spec h
 obtain ⟨j, hj, e⟩ := List.getElem_of_mem hc
 have := h2 j (by omega)
 rw [List.getElem?_eq_getElem hj, e] at this
 exact List.mem_of_getElem? this
theorem mkSV_ok {hp : List (Nat × LO)} {g : Bool} {l : List CV} {v : SV} (h : mkSV g l = some v) (hl : ∀ c ∈ l, CVok hp c) : SVok hp v := by
 unfold mkSV at h
 split at h
 ·cases h; exact hl
 ·split at h
  ·rename_i c
   cases h; exact hl c (by simp)
  ·cases h
theorem intBin_rvok {hp : List (Nat × LO)} {op : BinOp} {a b : Int} {obs : List Prop} {v : RV} (h : intBin op a b = some (obs, v)) : RVok hp v := by
 cases op <;> simp only [intBin] at h <;> (try (cases h)) <;> trivial
theorem pickRV_rvok {hp : List (Nat × LO)} {g : Bool} {u v r : RV} (h : pickRV g u v = some r) : RVok hp r := by
 unfold pickRV at h
 split at h
 ·cases h; trivial
 ·cases h; trivial
 ·cases h
theorem zero_ok {P : Program} {tab : Tab} {t : TypeId} {ti : TI} (hT : TabOk P tab) (h : look tab t = some ti) {hp : List (Nat × LO)} : ∀ c ∈ ti.zero, CVok hp c := by
 have hc := hT _ _ h
 unfold chkTI at hc
 split at hc
 ·simp only [Bool.and_eq_true] at hc
  obtain ⟨⟨⟨_, h2⟩, _⟩, _⟩ := hc
  split at h2
  ·rename_i z hz
   simp only [Bool.and_eq_true] at h2
   have key : ∀ (vs : List Value) (cs : List CV), zerosEq vs cs = true → ∀ c ∈ cs, CVok hp c := by
    intro vs cs
    induction cs generalizing vs with
    | nil => intro _ c hc; cases hc
    | cons x r ih =>
     intro hz c hc
     cases vs with
     | nil => simp [zerosEq] at hz
     | cons v vs =>
      simp only [zerosEq, Bool.and_eq_true] at hz
      rcases List.mem_cons.1 hc with rfl | hc
      ·cases c with
       | p _ _ _ => simp [zeroEq] at hz
       | e _ _ _ _ => simp [zeroEq] at hz
       | r _ _ _ _ _ => simp [zeroEq] at hz
       | o _ _ => simp [zeroEq] at hz
       | _ => trivial
      ·exact ih vs hz.2 c hc
   exact key _ _ h2.1
  ·cases h2
 ·cases hc
theorem pev1_ok {P : Program} {tab : Tab} {st : St} {a : Act} {cur : Keys} {op : Op} {obs : List Prop} {v : RV} (hT : TabOk P tab) (hwf : WF st) (hr : Rel st a) (hk : keysHold a cur) {hp : List (Nat × LO)} (hsub : ∀ id q, look hp id = some q → look st.hp id = some q) (h : pev1 tab st hp cur op = some (obs, v)) (ho : ∀ p ∈ obs, p) : RVok st.hp v := by
 cases op <;> simp only [pev1] at h <;> try (cases h)
 case move x =>
  split at h
  ·rename_i u hu; cases h; exact opv_ok hwf hr hk hu
  ·cases h
 case assign x =>
  split at h
  ·rename_i u hu; cases h; exact opv_ok hwf hr hk hu
  ·cases h
 case pick c x y =>
  split at h
  ·split at h
   ·split at h
    ·rename_i hp; cases h; exact pickRV_rvok hp
    ·cases h
   ·cases h
  ·cases h
 case binOp op t x y t' =>
  split at h
  ·exact intBin_rvok h
  ·split at h
   ·split at h
    ·cases h; trivial
    ·cases h; trivial
    ·cases h
   ·cases h
  ·split at h
   ·split at h
    ·cases h; trivial
    ·cases h; trivial
    ·cases h
   ·cases h
  ·unfold xBin at h
   split at h
   ·split at h
    ·split at h
     ·cases h; trivial
     ·cases h; trivial
     ·cases h
    ·cases h
   ·split at h
    ·split at h
     ·cases h; trivial
     ·cases h
    ·cases h
   ·split at h
    ·split at h
     ·cases h; trivial
     ·cases h; trivial
     ·cases h
    ·cases h
   ·cases h
  ·split at h
   ·split at h
    ·cases h; trivial
    ·cases h; trivial
    ·cases h
   ·cases h
  ·cases h
 case unOp op t x =>
  split at h
  ·cases h; trivial
  ·cases h; trivial
  ·cases h
 case extract t ix =>
  split at h
  ·rename_i l hx
   split at h
   ·rename_i u hu
    cases h
    exact opv_ok hwf hr hk hx u (List.mem_of_getElem? hu)
   ·cases h
  ·cases h
 case nilCheck x =>
  split at h
  ·rename_i hx; cases h; exact opv_ok hwf hr hk hx
  ·rename_i hx; cases h; exact opv_ok hwf hr hk hx
  ·rename_i hx; cases h; exact opv_ok hwf hr hk hx
  ·cases h
 case fieldAddr s x f =>
  split at h
  ·rename_i ti u hti hx
   split at h
   ·split at h
    ·rename_i u' hu'
     cases h
     have hok := opv_ok hwf hr hk hx
     cases u <;> simp only [addOff] at hu' <;> cases hu' <;> exact hok
    ·cases h
   ·cases h
  ·cases h
 case indexAddr t x ix =>
  split at h
  ·rename_i ti u n hti hx hix
   split at h
   ·cases h
    simp only [List.mem_cons, List.not_mem_nil, or_false, forall_eq_or_imp, forall_eq] at ho
    have h2 := ho.2
    unfold slen at h2
    split at h2
    ·exact ⟨_, _, _, rfl⟩
    ·omega
   ·cases h
  ·rename_i ti id u n hti hx hix
   split at h
   ·rename_i v0 E size L hk1 hob
    split at h
    ·cases h
     simp only [List.mem_cons, List.not_mem_nil, or_false, forall_eq_or_imp, forall_eq] at ho
     obtain ⟨rfl, h0, hlt⟩ := ho
     exact (hwf.row _ _ _ _ _ (look_mem (hsub _ _ hob))).1 (by omega)
    ·cases h
   ·cases h
  ·cases h
 case load t x =>
  split at h
  ·split at h
   ·rename_i b T cells hob
    split at h
    ·rename_i l hl
     split at h
     ·rename_i u hu
      cases h
      exact mkSV_ok hu fun c hc => hwf.hp _ _ _ _ (look_mem (hsub _ _ hob)) c (takeCells_mem hl c hc)
     ·cases h
    ·cases h
   ·cases h
  ·cases h
 case build t parts =>
  split at h
  ·rename_i ti hti
   split at h
   ·rename_i obs' l hk2 hb
    cases h
    have key : ∀ (parts : List (Nat × Operand)) (obs obs' : List Prop) (acc l : List CV), bldS st cur ti.flds parts obs acc = some (obs', l) → (∀ c ∈ acc, CVok st.hp c) → ∀ c ∈ l, CVok st.hp c := by
     intro parts
     induction parts with
     | nil => intro obs obs' acc l h hacc; simp only [bldS] at h; cases h; exact hacc
     | cons x r ih =>
      obtain ⟨i, x⟩ := x
      intro obs obs' acc l h hacc
      simp only [bldS] at h
      split at h
      ·rename_i v hv
       split at h
       ·rename_i l0 o n g hl0 hf
        split at h
        ·rename_i acc' hlen hset
         refine ih _ _ _ _ h fun c hc => ?_
         rw [(setCells_spec hset).1] at hc
         simp only [List.mem_append] at hc
         rcases hc with (hc | hc) | hc
         ·exact hacc c (List.mem_of_mem_take hc)
         ·exact cells_ok hl0 (opv_ok hwf hr hk hv) c hc
         ·exact hacc c (List.mem_of_mem_drop hc)
        ·cases h
       ·cases h
      ·cases h
    exact key _ _ _ _ _ hb (zero_ok hT hti)
   ·cases h
  ·cases h
 case field t x f =>
  split at h
  ·rename_i ti l hti hx
   split at h
   ·split at h
    ·rename_i l' hl'
     split at h
     ·rename_i u hu
      cases h
      exact mkSV_ok hu fun c hc => opv_ok hwf hr hk hx c (takeCells_mem hl' c hc)
     ·cases h
    ·cases h
   ·cases h
  ·cases h
 case convert src dst' x =>
  split at h
  ·split at h
   ·cases h; trivial
   ·cases h; trivial
   ·cases h
  ·split at h
   ·cases h; trivial
   ·cases h
  ·cases h
 case slice t x lo hi mx =>
  cases mx with
  | some _ => cases h
  | none =>
   simp only at h
   split at h
   ·split at h
    ·split at h
     ·cases h; trivial
     ·cases h
    ·cases h
   ·split at h
    ·split at h
     ·cases h; trivial
     ·cases h
    ·cases h
   ·cases h
 case makeFunc fn first caps =>
  cases fn <;> simp only at h <;> try (cases h)
  split at h
  ·cases h; trivial
  ·cases h
 case call c =>
  split at h
  ·split at h
   ·split at h
    ·cases h; trivial
    ·cases h; trivial
    ·cases h
   ·split at h
    ·cases h; trivial
    ·cases h
   ·cases h
  ·split at h
   ·split at h
    ·cases h; trivial
    ·cases h
   ·cases h
  ·split at h
   ·cases h; trivial
   ·cases h
  ·split at h
   ·cases h; trivial
   ·cases h
  ·cases h
theorem pev2_ok {tab : Tab} {st : St} {a : Act} {cur : Keys} {op : Op} {obs : List Prop} {v : RV} (hwf : WF st) (hr : Rel st a) (hk : keysHold a cur) {hp : List (Nat × LO)} (h : pev2 tab st hp cur op = some (obs, v)) : RVok st.hp v := by
 cases op <;> simp only [pev2] at h <;> try (cases h; done)
 case indexAddr t x ix =>
  split at h
  ·rename_i hx hix
   split at h
   ·rename_i hu'
    cases h
    exact addOff_ok hu' (opv_ok hwf hr hk hx)
   ·cases h
  ·cases h
 case slice t x lo hi mx =>
  cases mx with
  | some _ => cases h
  | none =>
   simp only at h
   repeat' split at h
   all_goals (first | (cases h; done) | (cases h; trivial))
 all_goals
  repeat' split at h
  all_goals (first | (cases h; done) | (cases h; trivial) | skip)
 all_goals
  simp only [sBin, iBin, u64Bin, u8Bin, cmpK, shBin, boolOp] at h
  repeat' split at h
  all_goals (first | (cases h; done) | (cases h; trivial) | skip)
theorem pev_ok {P : Program} {tab : Tab} {st : St} {a : Act} {cur : Keys} {op : Op} {obs : List Prop} {v : RV} (hT : TabOk P tab) (hwf : WF st) (hr : Rel st a) (hk : keysHold a cur) {hp : List (Nat × LO)} (hsub : ∀ id q, look hp id = some q → look st.hp id = some q) (h : pev tab st hp cur op = some (obs, v)) (ho : ∀ p ∈ obs, p) : RVok st.hp v := by
 unfold pev at h
 split at h
 ·rename_i r hr1
  cases h
  exact pev1_ok hT hwf hr hk hsub hr1 ho
 ·exact pev2_ok hwf hr hk h
abbrev Conds := List (Bool × Bool)
def gimp : Conds → Prop → Prop
 | [], p => p
 | (g, b) :: r, p => g = b → gimp r p
theorem gimp_out {cs : Conds} {p : Prop} (h : gimp cs p) (hc : ∀ c ∈ cs, c.1 = c.2) : p := by
 induction cs with
 | nil => exact h
 | cons c r ih => exact ih (h (hc c (by simp))) fun d hd => hc d (by simp [hd])
def obl (cs : Conds) (obs : List Prop) (k : Prop) : Prop :=
 List.rec (motive := fun _ => Prop) k (fun p _ ih => match cs with | [] => p ∧ ih | c :: q => gimp (c :: q) p ∧ ih) obs
theorem obl_out {cs : Conds} {k : Prop} : ∀ {obs : List Prop}, obl cs obs k → (∀ p ∈ obs, gimp cs p) ∧ k
 | [], h => ⟨fun p hp => (by cases hp), h⟩
 | p :: r, h => by
  replace h : gimp cs p ∧ obl cs r k := by cases cs <;> exact h
  obtain ⟨h1, h2⟩ := obl_out h.2
  refine ⟨fun q hq => ?_, h2⟩
  rcases List.mem_cons.1 hq with rfl | hq
  ·exact h.1
  ·exact h1 q hq
def boolAt (st : St) (s : Nat) : Option Bool :=
 match look st.gl s with
 | some (_, .s (.c (.b g))) => some g
 | some _ => none
 | none => match look st.sl s with
  | some (some (.s (.c (.b g)))) => some g
  | _ => none
def condsOf (st : St) : Keys → Option Conds
 | [] => some []
 | (s, b) :: r => match boolAt st s, condsOf st r with
  | some g, some l => some ((g, b) :: l)
  | _, _ => none
def dstOf (ops : Array Oper) (j : Nat) : Option Nat := (ops[j]?).bind (·.dst)
def guardOf (st : St) (ops : Array Oper) : Option (Nat × Bool) → Option (Keys × Conds)
 | none => some ([], [])
 | some (j, want) => match dstOf ops j with
  | none => none
  | some s => match look st.gl s with
   | some (ks, _) => match condsOf st ((s, want) :: ks) with
    | some cs => some ((s, want) :: ks, cs)
    | none => none
   | none => match condsOf st [(s, want)] with
    | some cs => some ([(s, want)], cs)
    | none => none
theorem boolAt_spec {st : St} {a : Act} {s : Nat} {g b : Bool} (hr : Rel st a) (h : boolAt st s = some g) (hb : a.tmps[s]? = some (.bool b)) : g = b := by
 unfold boolAt at h
 split at h
 ·rename_i ks g' hl
  cases h
  rcases hr.gl _ _ _ hl with ⟨_, e, _⟩ | ⟨_, e⟩
  ·rw [hb] at e; cases e; rfl
  ·rw [hb] at e; cases e
 ·cases h
 ·split at h
  ·rename_i g' hl
   cases h
   have e := hr.sl _ _ hl
   rw [hb] at e; cases e; rfl
  ·cases h
theorem condsOf_spec {st : St} {a : Act} (hr : Rel st a) : ∀ {ks : Keys} {cs : Conds}, condsOf st ks = some cs → keysHold a ks → ∀ c ∈ cs, c.1 = c.2
 | [], cs, h, _ => by simp only [condsOf] at h; cases h; intro c hc; cases hc
 | (s, b) :: r, cs, h, hk => by
  simp only [condsOf] at h
  split at h
  ·rename_i g l hg hl
   cases h
   intro c hc
   rcases List.mem_cons.1 hc with rfl | hc
   ·exact boolAt_spec hr hg (hk (s, b) (by simp))
   ·exact condsOf_spec hr hl (fun k hk' => hk k (by simp [hk'])) c hc
  ·cases h
theorem guardOf_spec {st : St} {a : Act} {ops : Array Oper} {o : Oper} {keys : Keys} {cs : Conds} (hr : Rel st a) (h : guardOf st ops o.guard = some (keys, cs)) :
  (Region.wanted o (yielded ops a.tmps) = true ∧ keysHold a keys ∧ ∀ c ∈ cs, c.1 = c.2) ∨ (Region.wanted o (yielded ops a.tmps) = false ∧ ¬ keysHold a keys) := by
 obtain ⟨dst, op, type, pos, after, guard⟩ := o
 dsimp only at h
 cases guard with
 | none =>
  simp only [guardOf] at h; cases h
  exact .inl ⟨rfl, fun k hk => (by cases hk), fun c hc => by cases hc⟩
 | some jw =>
  obtain ⟨j, want⟩ := jw
  simp only [guardOf] at h
  split at h
  ·cases h
  ·rename_i s hs
   have hy : yielded ops a.tmps j = match a.tmps[s]? with | some (.bool b) => some b | _ => none := by
    unfold yielded; unfold dstOf at hs; rw [hs]; rfl
   have key : ∀ ks : Keys, condsOf st ((s, want) :: ks) = some cs → keys = (s, want) :: ks → (a.tmps[s]? = some (.bool want) → keysHold a ks) →
     (Region.wanted ⟨dst, op, type, pos, after, some (j, want)⟩ (yielded ops a.tmps) = true ∧ keysHold a keys ∧ ∀ c ∈ cs, c.1 = c.2) ∨ (Region.wanted ⟨dst, op, type, pos, after, some (j, want)⟩ (yielded ops a.tmps) = false ∧ ¬ keysHold a keys) := by
    intro ks hcs hkeys himp
    subst hkeys
    by_cases hb : a.tmps[s]? = some (.bool want)
    ·left
     have hk : keysHold a ((s, want) :: ks) := by
      intro k hk
      rcases List.mem_cons.1 hk with rfl | hk
      ·exact hb
      ·exact himp hb k hk
     exact ⟨by simp [Region.wanted, hy, hb], hk, condsOf_spec hr hcs hk⟩
    ·right
     refine ⟨?_, fun hk => hb (hk (s, want) (by simp))⟩
     simp only [Region.wanted, hy]
     split
     ·rename_i b hb'
      rw [hb'] at hb
      have : b ≠ want := fun e => hb (by rw [e])
      simpa using this
     ·rfl
   split at h
   ·rename_i ks u hl
    split at h
    ·rename_i cs' hcs
     cases h
     refine key ks hcs rfl fun hb => ?_
     rcases hr.gl _ _ _ hl with ⟨h1, _⟩ | ⟨_, e⟩
     ·exact h1
     ·rw [hb] at e; cases e
    ·cases h
   ·split at h
    ·rename_i cs' hcs
     cases h
     exact key [] hcs rfl fun _ k hk => by cases hk
    ·cases h
def ECells (w : World) (v : Value) (size : Nat) (idx : Int) (off : Nat) (l : List CV) : Prop :=
 ∀ a n c, v = .slice (some a) n c → ∀ (j : Nat) (u : Value), (dens l)[j]? = some u → w.cell? ((elemAddr a size idx off).add j) = some u
theorem flatten_get {β : Type} {size : Nat} : ∀ {L : List (List β)} (_ : ∀ l ∈ L, l.length = size) {k : Nat} {row : List β} (_ : L[k]? = some row) (j : Nat), j < size → L.flatten[k * size + j]? = row[j]?
 | [], _, k, row, h, j, _ => by simp at h
 | l :: L, hl, 0, row, h, j, hj => by
  simp at h; subst h
  have := hl l (by simp)
  simp only [List.flatten_cons, Nat.zero_mul, Nat.zero_add]
  rw [List.getElem?_append_left (by omega)]
 | l :: L, hl, k + 1, row, h, j, hj => by
  have h' : L[k]? = some row := by simpa using h
  have e := hl l (by simp)
  have := flatten_get (fun x hx => hl x (by simp [hx])) h' j hj
  simp only [List.flatten_cons]
  rw [List.getElem?_append_right (by rw [e, Nat.add_mul]; omega), e, show (k + 1) * size + j - size = k * size + j by rw [Nat.add_mul]; omega]
  exact this
theorem addr_add (g o n : Nat) : (⟨g, o, none⟩ : Addr).add n = ⟨g, o + n, none⟩ := by unfold Addr.add; split <;> simp_all
theorem row_cells {w : World} {v : Value} {E size : Nat} {L : List (List CV)} (h : (LO.row v E size L).holds w) {k : Nat} {row : List CV} (hk : L[k]? = some row) : ECells w v size k 0 row := by
 obtain ⟨⟨hlen, hv⟩, hl⟩ := h
 intro a n c e j u hu
 have hrow : row.length = size := hl row (List.mem_of_getElem? hk)
 have hj : j < size := by
  rcases Nat.lt_or_ge j size with h' | h'
  ·exact h'
  ·rw [List.getElem?_eq_none (by simp [dens, hrow, h'])] at hu; cases hu
 have hkl : k < L.length := by
  rcases Nat.lt_or_ge k L.length with h' | h'
  ·exact h'
  ·rw [List.getElem?_eq_none h'] at hk; cases hk
 rcases hv with ⟨rfl, _⟩ | ⟨g, o, cap, cur, rfl, hg, hn, hc, hs, htake⟩
 ·cases e
 ·cases e
  have e2 : (dens L.flatten)[k * size + j]? = some u := by
   simp only [dens, List.getElem?_map] at hu ⊢
   rw [flatten_get hl hk j hj]; exact hu
  rw [← htake] at e2
  have hb : k * size + j < L.length * size := by
   have : (k + 1) * size ≤ L.length * size := Nat.mul_le_mul_right _ (by omega)
   rw [Nat.add_mul] at this; omega
  rw [List.getElem?_take_of_lt hb, List.getElem?_drop] at e2
  have ea : (elemAddr (⟨g, o, none⟩ : Addr) size (k : Int) 0).add j = ⟨g, o + (k * size + j), none⟩ := by
   unfold elemAddr
   rw [Int.toNat_natCast, addr_add, addr_add, addr_add]
   simp
  rw [ea, cell_of_row w g _ _ _ _ hg]
  simpa using e2
theorem ECells.part {w : World} {v : Value} {size : Nat} {i : Int} {off n : Nat} {l l' : List CV} (h : ECells w v size i 0 l) (ht : takeCells off n l = some l') : ECells w v size i off l' := by
 intro a m c e j u hu
 obtain ⟨h1, h2⟩ := takeCells_spec ht
 have hj : j < n := by
  rcases Nat.lt_or_ge j n with h' | h'
  ·exact h'
  ·rw [List.getElem?_eq_none (by simp [dens, h1, h'])] at hu; cases hu
 have := h a m c e (off + j) u (by
  have e2 := h2 j hj
  simp only [dens, List.getElem?_map] at hu ⊢
  rw [e2]; exact hu)
 have ea : (elemAddr a size i off).add j = (elemAddr a size i 0).add (off + j) := by
  unfold elemAddr Addr.add
  by_cases h0 : off = 0
  ·subst h0; simp
  ·by_cases h1 : j = 0
   ·subst h1; simp
   ·simp [h0, h1, Nat.add_assoc]
 rw [ea]; exact this
def noPsv : SV → Bool
 | .c v => noP v
 | .agg l => noPs l
def noPsvs : List SV → Bool
 | [] => true
 | v :: r => match noPsv v with
  | true => noPsvs r
  | false => false
def noPr : RV → Bool
 | .s v => noPsv v
 | .tup l => noPsvs l
theorem noPsv_ok {hp : List (Nat × LO)} {v : SV} (h : noPsv v = true) : SVok hp v := by
 cases v with
 | c v => exact noP_ok h
 | agg l => exact noPs_ok h
theorem noPsvs_ok {hp : List (Nat × LO)} : ∀ {l : List SV}, noPsvs l = true → ∀ v ∈ l, SVok hp v
 | [], _, v, hv => by cases hv
 | x :: r, h, v, hv => by
  simp only [noPsvs] at h
  split at h
  ·rename_i hx
   rcases List.mem_cons.1 hv with rfl | hv
   ·exact noPsv_ok hx
   ·exact noPsvs_ok h v hv
  ·cases h
theorem noPr_ok {hp : List (Nat × LO)} {v : RV} (h : noPr v = true) : RVok hp v := by
 cases v with
 | s v => exact noPsv_ok h
 | tup l => exact noPsvs_ok h
def opvs (st : St) (cur : Keys) : List Operand → Option (List RV)
 | [] => some []
 | x :: r => match opv st cur x, opvs st cur r with
  | some v, some l => some (v :: l)
  | _, _ => none
def rdens (l : List RV) : Array Value := (l.map RV.den).toArray
def callOf (st : St) (cur : Keys) : Op → Option (FuncId × List Value)
 | .call c => match c.callee with
  | .value f => match opv st cur f, opvs st cur c.args.toList with
   | some (.s (.c (.x (.func (.func g) first caps)))), some l => some (g, first.toList ++ (l.map RV.den ++ caps.toList))
   | _, _ => none
  | _ => none
 | _ => none
def Body (P : Program) (f : FuncId) : Prop := ∃ fn, P.funcs[f]? = some fn ∧ (fn.name == "runtime.NumGoroutine") = false ∧ fn.body.isNone = false
def QCall (P : Program) (st : St) (f : FuncId) (args : List Value) (r : RV) : Prop :=
 (Body P f ∧ ∀ w, Holds st w → Calls P f args.toArray w (fun e w' => e = .returned r.den ∧ Holds st w')) ∨ (∀ w, Holds st w → (callFunc f args.toArray).run P w = .ok (.value r.den) w)
structure RawQ (P : Program) (st : St) (keys : Keys) (o : Oper) (r : RV) : Prop where
 out : ∀ ρ : Operand → Value, (∀ x v, opv st keys x = some v → ρ x = v.den) → ∀ w, Holds st w → (execOp ρ o).run P w = .ok (.value r.den) w
def isOwnS : RV → Prop
 | .s (.c (.o _ v)) => ∃ a n c, v = .slice a n c
 | _ => False
theorem isOwnS_ok {hp : List (Nat × LO)} : ∀ {r : RV}, isOwnS r → RVok hp r
 | .s (.c (.o _ _)), h => h
def rawQ (P : Program) (st : St) (keys : Keys) (cs : Conds) (o : Oper) (K : St → Prop) : Prop :=
 ∃ r : RV, gimp cs (RawQ P st keys o r) ∧
    match noPr r with
    | false => isOwnS r ∧ match put st o.dst keys r with
     | some st' => K st'
     | none => False
    | true => match put st o.dst keys r with
     | some st' => K st'
     | none => False
def stepQ (P : Program) (tab : Tab) (ops : Array Oper) (o : Oper) (st : St) (K : St → Prop) : Prop :=
 match guardOf st ops o.guard with
 | none => False
 | some (keys, cs) =>
  match pev tab st st.hp keys o.op with
  | some (obs, v) => match put st o.dst keys v with
   | some st' => obl cs obs (K st')
   | none => False
  | none => match callOf st keys o.op with
   | some (f, args) => ∃ r : RV, gimp cs (QCall P st f args r) ∧
    match noPr r with
    | false => False
    | true => match put st o.dst keys r with
     | some st' => K st'
     | none => False
   | none => match o.op with
    | .load t x => match look tab t, opv st keys x with
     | some ti, some (.s (.c (.e v size idx off))) => ∃ l : List CV, gimp cs (∀ w, Holds st w → ECells w v size idx off l) ∧
      match Nat.beq l.length ti.size, noPs l, mkSV ti.agg l with
      | true, true, some u => match put st o.dst keys (.s u) with
       | some st' => K st'
       | none => False
      | _, _, _ => False
     | some ti, some (.s (.c (.r id v size idx off))) => match look st.hp id with
      | some (.row v0 _ size0 L) => ∃ row : List CV, gimp cs (v = v0 ∧ size = size0 ∧ 0 ≤ idx ∧ L[idx.toNat]? = some row) ∧
       match takeCells off ti.size row with
       | some l => match mkSV ti.agg l with
        | some u => match put st o.dst keys (.s u) with
         | some st' => K st'
         | none => False
        | none => False
       | none => False
      | _ => False
     | _, _ => rawQ P st keys cs o K
    | _ => rawQ P st keys cs o K
theorem opvs_spec {st : St} {a : Act} {cur : Keys} (hr : Rel st a) (hk : keysHold a cur) : ∀ {l : List Operand} {vs : List RV}, opvs st cur l = some vs → l.map a.eval = vs.map RV.den
 | [], vs, h => by simp only [opvs] at h; cases h; rfl
 | x :: r, vs, h => by
  simp only [opvs] at h
  split at h
  ·rename_i v l hv hl
   cases h
   simp [eval_opv hr hk hv, opvs_spec hr hk hl]
  ·cases h
theorem callOf_run {P : Program} {st : St} {a : Act} {cur : Keys} {o : Oper} {f : FuncId} {args : List Value} (hr : Rel st a) (hk : keysHold a cur)
  (h : callOf st cur o.op = some (f, args)) (w : World) : (execOp a.eval o).run P w = (callFunc f args.toArray).run P w := by
 obtain ⟨dst, op, type, pos, after, guard⟩ := o
 dsimp only at h
 unfold callOf at h
 split at h
 ·rename_i c
  obtain ⟨callee, cargs, argTypes⟩ := c
  dsimp only at h
  split at h
  ·rename_i g
   split at h
   ·rename_i fid first caps l hf hl
    cases h
    have ef := eval_opv hr hk hf
    simp only [RV.den, SV.den, CV.den] at ef
    have ea := opvs_spec hr hk hl
    have ea' : first ++ Array.map a.eval cargs ++ caps = (first.toList ++ (l.map RV.den ++ caps.toList)).toArray := by
     apply Array.ext'
     simp [ea]
    simp only [execOp, resolve, ef, Deferred.ofValue, Sem.run_bind, Sem.run_pure, Result.andThen_ok, invoke, ea']
   ·cases h
  ·cases h
 ·cases h
theorem callOf_spec {P : Program} {st : St} {a : Act} {cur : Keys} {o : Oper} {f : FuncId} {args : List Value} (hr : Rel st a) (hk : keysHold a cur)
  (h : callOf st cur o.op = some (f, args)) (hb : Body P f) (w : World) : (execOp a.eval o).run P w = .ok (.enter f args.toArray) w := by
 obtain ⟨fn, hfn, hname, hbody⟩ := hb
 rw [callOf_run hr hk h w]
 simp only [callFunc, Sem.run_bind, run_program, Result.andThen_ok, hfn, hname, hbody, Bool.false_eq_true, if_false, Sem.run_pure]
def SameW (st st' : St) : Prop := st'.hp = st.hp ∧ st'.S = st.S ∧ st'.ws = st.ws ∧ st'.N = st.N
theorem SameW.refl (st : St) : SameW st st := ⟨rfl, rfl, rfl, rfl⟩
theorem SameW.trans {a b c : St} (h : SameW a b) (k : SameW b c) : SameW a c :=
 ⟨k.1.trans h.1, k.2.1.trans h.2.1, k.2.2.1.trans h.2.2.1, k.2.2.2.trans h.2.2.2⟩
theorem SameW.symm {a b : St} (h : SameW a b) : SameW b a := ⟨h.1.symm, h.2.1.symm, h.2.2.1.symm, h.2.2.2.symm⟩
theorem SameW.holds {st st' : St} (h : SameW st st') {w : World} (hw : Holds st w) : Holds st' w := holds_congr h hw
theorem stepQ_sound {P : Program} {tab : Tab} {ops : Array Oper} {o : Oper} {st st0 : St} {K : St → Prop} {a : Act} (hT : TabOk P tab) (h : stepQ P tab ops o st K) (hwf : WF st) (hr : Rel st a)
  (h0 : SameW st0 st) {next : Act → Prop} (hn : ∀ st' a', K st' → WF st' → Rel st' a' → SameW st0 st' → next a') :
  if Region.wanted o (yielded ops a.tmps) then o.quiet P a (Holds st0) next else next (a.put o.dst undef) := by
 unfold stepQ at h
 split at h
 ·exact h.elim
 ·rename_i keys cs hg
  have hto : ∀ w, Holds st0 w → Holds st w := fun w hw => h0.holds hw
  rcases guardOf_spec hr hg with ⟨hwant, hkeys, hcs⟩ | ⟨hwant, hkeys⟩
  ·rw [if_pos hwant]
   have raw : rawQ P st keys cs o K → o.quiet P a (Holds st0) next := by
    rintro ⟨r, h1, h2⟩
    have hq := (gimp_out h1 hcs).out a.eval (fun x v hx => eval_opv hr hkeys hx)
    split at h2
    ·obtain ⟨hown, h2⟩ := h2
     split at h2
     ·rename_i st' hput
      refine ⟨r.den, fun w hw => ?_, hn st' _ h2 (put_wf hput hwf fun _ => isOwnS_ok hown) (put_rel hput hr (.inl ⟨hkeys, rfl, isOwnS_ok hown⟩)) (h0.trans (put_world hput))⟩
      unfold Oper.quietAt
      rw [hq w (hto w hw)]
      exact ⟨rfl, rfl⟩
     ·exact h2.elim
    ·rename_i hnp
     split at h2
     ·rename_i st' hput
      refine ⟨r.den, fun w hw => ?_, hn st' _ h2 (put_wf hput hwf fun _ => noPr_ok hnp) (put_rel hput hr (.inl ⟨hkeys, rfl, noPr_ok hnp⟩)) (h0.trans (put_world hput))⟩
      unfold Oper.quietAt
      rw [hq w (hto w hw)]
      exact ⟨rfl, rfl⟩
     ·exact h2.elim
   split at h
   ·rename_i obs v hpev
    split at h
    ·rename_i st' hput
     obtain ⟨h1, h2⟩ := obl_out h
     have hob : ∀ p ∈ obs, p := fun p hp => gimp_out (h1 p hp) hcs
     refine ⟨v.den, fun w hw => ?_, hn st' _ h2 (put_wf hput hwf fun _ => pev_ok hT hwf hr hkeys (fun _ _ h => h) hpev hob) (put_rel hput hr (.inl ⟨hkeys, rfl, pev_ok hT hwf hr hkeys (fun _ _ h => h) hpev hob⟩)) (h0.trans (put_world hput))⟩
     unfold Oper.quietAt
     rw [pev_sound hT hwf hr hkeys (fun _ _ h => h) hpev hob (hto w hw).objs]
     exact ⟨rfl, rfl⟩
    ·exact h.elim
   ·split at h
    ·rename_i f args hcall
     obtain ⟨r, h1, h2⟩ := h
     have hq := gimp_out h1 hcs
     split at h2
     ·exact h2.elim
     ·rename_i hnp
      split at h2
      ·rename_i st' hput
       refine ⟨r.den, fun w hw => ?_, hn st' _ h2 (put_wf hput hwf fun _ => noPr_ok hnp) (put_rel hput hr (.inl ⟨hkeys, rfl, noPr_ok hnp⟩)) (h0.trans (put_world hput))⟩
       unfold Oper.quietAt
       rcases hq with ⟨hbody, hcalls⟩ | hrun
       ·rw [callOf_spec hr hkeys hcall hbody w]
        refine ⟨rfl, (hcalls w (hto w hw)).mono fun e w' ⟨he, hw'⟩ => ⟨he, h0.symm.holds hw'⟩⟩
       ·rw [callOf_run hr hkeys hcall w, hrun w (hto w hw)]
        exact ⟨rfl, rfl⟩
      ·exact h2.elim
    ·split at h
     ·rename_i t x hop
      split at h
      ·rename_i ti v size idx off hti hx
       obtain ⟨l, h1, h2⟩ := h
       have hcells := gimp_out h1 hcs
       split at h2
       ·rename_i u hlen hnp hmk
        split at h2
        ·rename_i st' hput
         have hok := opv_ok hwf hr hkeys hx
         obtain ⟨ad, n, c, rfl⟩ := hok
         refine ⟨u.den, fun w hw => ?_, hn st' _ h2 (put_wf hput hwf fun _ => mkSV_ok hmk (noPs_ok hnp)) (put_rel hput hr (.inl ⟨hkeys, rfl, mkSV_ok hmk (noPs_ok hnp)⟩)) (h0.trans (put_world hput))⟩
         have ex := eval_opv hr hkeys hx
         simp only [RV.den, SV.den, CV.den, elemPtr] at ex
         have e := ok_loadVar (hT _ _ hti) (a := elemAddr ad size idx off) (Nat.eq_of_beq_eq_true hlen) hmk (w := w) (fun j q hq => hcells w (hto w hw) ad n c rfl j q hq)
         unfold Oper.quietAt
         obtain ⟨dst, op, type, pos, after, guard⟩ := o
         dsimp only at hop
         subst hop
         have : (execOp a.eval ⟨dst, .load t x, type, pos, after, guard⟩).run P w = .ok (.value u.den) w := by
          simp [execOp, ex, Instr.loadAt, Instr.sureAddr, e]
         rw [this]
         exact ⟨rfl, rfl⟩
        ·exact h2.elim
       ·exact h2.elim
      ·rename_i ti id v size idx off hti hx
       split at h
       ·rename_i v0 E size0 L hob
        obtain ⟨row, h1, h2⟩ := h
        obtain ⟨rfl, rfl, h0i, hrow⟩ := gimp_out h1 hcs
        split at h2
        ·rename_i l hl
         split at h2
         ·rename_i u hmk
          split at h2
          ·rename_i st' hput
           have hok := opv_ok hwf hr hkeys hx
           obtain ⟨ad, n, c, rfl⟩ := hok
           have hcok : ∀ c ∈ l, CVok st.hp c := fun c hc => (hwf.row _ _ _ _ _ (look_mem hob)).2 row (List.mem_of_getElem? hrow) c (takeCells_mem hl c hc)
           refine ⟨u.den, fun w hw => ?_, hn st' _ h2 (put_wf hput hwf fun _ => mkSV_ok hmk hcok) (put_rel hput hr (.inl ⟨hkeys, rfl, mkSV_ok hmk hcok⟩)) (h0.trans (put_world hput))⟩
           have ex := eval_opv hr hkeys hx
           simp only [RV.den, SV.den, CV.den, elemPtr] at ex
           have hobj := (hto w hw).objs _ (look_mem hob)
           have hcells := (row_cells hobj hrow).part hl
           rw [Int.toNat_of_nonneg h0i] at hcells
           have e := ok_loadVar (hT _ _ hti) (a := elemAddr ad size idx off) (takeCells_spec hl).1 hmk (w := w) (fun j q hq => hcells ad n c rfl j q hq)
           unfold Oper.quietAt
           obtain ⟨dst, op, type, pos, after, guard⟩ := o
           dsimp only at hop
           subst hop
           have : (execOp a.eval ⟨dst, .load t x, type, pos, after, guard⟩).run P w = .ok (.value u.den) w := by
            simp [execOp, ex, Instr.loadAt, Instr.sureAddr, e]
           rw [this]
           exact ⟨rfl, rfl⟩
          ·exact h2.elim
         ·exact h2.elim
        ·exact h2.elim
       ·exact h.elim
      ·exact raw h
     ·exact raw h
  ·rw [if_neg (by rw [hwant]; simp)]
   have fin : ∀ {v : RV} {st' : St}, put st o.dst keys v = some st' → K st' → next (a.put o.dst undef) := fun {v st'} hput hk =>
    hn st' _ hk (put_wf hput hwf fun e => (hkeys (by rw [e]; intro k hk; cases hk)).elim) (put_rel hput hr (.inr ⟨hkeys, rfl⟩)) (h0.trans (put_world hput))
   have raw : rawQ P st keys cs o K → next (a.put o.dst undef) := by
    rintro ⟨r, h1, h2⟩
    split at h2
    ·obtain ⟨hown, h2⟩ := h2
     split at h2
     ·rename_i st' hput
      exact fin hput h2
     ·exact h2.elim
    ·split at h2
     ·rename_i st' hput
      exact fin hput h2
     ·exact h2.elim
   split at h
   ·rename_i obs v hpev
    split at h
    ·rename_i st' hput
     obtain ⟨h1, h2⟩ := obl_out h
     exact fin hput h2
    ·exact h.elim
   ·split at h
    ·rename_i f args hcall
     obtain ⟨r, h1, h2⟩ := h
     split at h2
     ·exact h2.elim
     ·rename_i hnp
      split at h2
      ·rename_i st' hput
       exact fin hput h2
      ·exact h2.elim
    ·split at h
     ·split at h
      ·obtain ⟨l, h1, h2⟩ := h
       split at h2
       ·rename_i u hlen hnp hmk
        split at h2
        ·rename_i st' hput
         exact fin hput h2
        ·exact h2.elim
       ·exact h2.elim
      ·split at h
       ·obtain ⟨row, h1, h2⟩ := h
        split at h2
        ·split at h2
         ·split at h2
          ·rename_i st' hput
           exact fin hput h2
          ·exact h2.elim
         ·exact h2.elim
        ·exact h2.elim
       ·exact h.elim
      ·exact raw h
     ·exact raw h
end Go.Vc
