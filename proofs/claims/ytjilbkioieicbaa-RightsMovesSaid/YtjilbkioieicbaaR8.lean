/- Walks: coins come to be. -/
import Derived.Test.YtjilbkioieicbaaR7
namespace Go.Proofs.Ytjilbkioieicbaa
open Go.Vc Rt
set_option linter.unusedVariables false
set_option linter.unusedSimpArgs false
/-- The number of lots of receipts before a mark. -/
def before (L : List Lot) (m : Int) : Nat := (L.takeWhile (fun l => decide (l.s.m < m))).length
def there (L : List Lot) (m : Int) : Bool := match L[before L m]? with | some l => decide (l.s.m = m) | none => false
theorem before_eq {m : Int} : ∀ {L : List Lot} {i : Nat}, i ≤ L.length → (∀ k l, k < i → L[k]? = some l → l.s.m < m) → (∀ l, L[i]? = some l → ¬ l.s.m < m) → before L m = i
  | [], i, h, _, _ => by simp at h; subst h; rfl
  | x :: L, 0, _, _, h2 => by have := h2 x (by simp); simp [before, this]
  | x :: L, i + 1, h, h1, h2 => by
    have hx := h1 0 x (by omega) (by simp)
    have ih := before_eq (m := m) (L := L) (i := i) (by simpa using h) (fun k l hk hl => h1 (k + 1) l (by omega) (by simpa using hl)) (fun l hl => h2 l (by simpa using hl))
    unfold before at *
    simp [hx, ih]
theorem search_c (L : List Lot) (m : Int) (S : List Nat) (v : Value) (w : World) (h : SlOf loT S w v L) (hN : L.length ≤ 1000000) (hs : L.Pairwise (fun a b => a.s.m ≤ b.s.m)) (hr : ∀ l ∈ L, inR (l.s.m - m)) :
    Ans Try.prog 122 [v, vI m, .func (.func 123) #[] #[]] (.tup [.c (.i (before L m)), .c (.b (there L m))]) w := by
  replace h := h.avoid (S' := []) (fun b hb => by cases hb)
  have hl := h.len
  have hsorted : ∀ (a b : Nat) x y, L[a]? = some x → L[b]? = some y → a ≤ b → x.s.m ≤ y.s.m := by
    intro a b x y ha hb hab
    rcases Nat.lt_or_eq_of_le hab with hlt | rfl
    · obtain ⟨h1, e1⟩ := List.getElem?_eq_some_iff.1 ha
      obtain ⟨h2, e2⟩ := List.getElem?_eq_some_iff.1 hb
      have := (List.pairwise_iff_getElem.1 hs) a b h1 h2 hlt
      rw [e1, e2] at this; exact this
    · rw [ha] at hb; cases hb; omega
  refine calls_plainB [.x v, .i m, .x (.func (.func 123) #[] #[])] Try.func122 rfl rfl (Nat.le_of_ble_eq_true rfl) rfl fun B hB => ?_
  repeat refine At.seq ?_
  refine At.region tab_ok ?_
  conv => whnf
  repeat refine At.seq ?_
  refine At.region tab_ok ?_
  conv => whnf
  refine ⟨h.sl, ?_⟩
  conv => whnf
  repeat refine At.seq ?_
  refine At.region tab_ok ?_
  conv => whnf
  repeat refine At.seq ?_
  refine At.block ?_
  refine At.loopF (fun p : Nat × Nat => { N := Try.f122.ntmps, sl := [(0, some (.x v)), (1, some (.i m)), (2, some (.x (.func (.func 123) #[] #[]))), (8, some (.i L.length)), (9, some (.i p.1)), (10, some (.i p.2))], gl := [], hp := [], S := [], ws := w })
    (fun p => p.1 ≤ p.2 ∧ p.2 ≤ L.length ∧ (∀ k l, k < p.1 → L[k]? = some l → l.s.m < m) ∧ (∀ k l, p.2 ≤ k → L[k]? = some l → ¬ l.s.m < m)) (fun p => p.2 - p.1)
    (fun w' hw => ⟨(0, L.length), ⟨Nat.zero_le _, Nat.le_refl _, fun k l hk => by omega, fun k l hk hl => by rw [List.getElem?_eq_none hk] at hl; cases hl⟩, Le.of rfl rfl ⟨rfl, rfl, rfl, congrArg (Value.int .i64) hl, rfl, congrArg (Value.int .i64) hl, trivial⟩, WF.plain rfl, hw.same rfl rfl rfl⟩) ?_
  rintro ⟨i, j⟩ ⟨hij, hjn, hlo, hhi⟩
  simp only at hij hjn hlo hhi ⊢
  repeat refine At.seq ?_
  refine At.region tab_ok ?_
  conv => whnf
  repeat refine At.seq ?_
  refine At.cond rfl (fun hc => At.skip ?_) (fun hc => At.exit ?_)
  · have hlt : i < j := by have := of_decide_eq_true hc; omega
    have hh : ((i : Int) + j) / 2 = ((i + j) / 2 : Nat) := by omega
    obtain ⟨x, hx⟩ : ∃ x, L[(i + j) / 2]? = some x := ⟨_, List.getElem?_eq_getElem (by omega)⟩
    repeat refine At.seq ?_
    refine At.block ?_
    repeat refine At.seq ?_
    refine At.region tab_ok ?_
    conv => whnf
    refine ⟨⟨by omega, by omega⟩, ?_⟩
    conv => whnf
    refine ⟨by omega, ?_⟩
    conv => whnf
    refine ⟨⟨by omega, by omega⟩, ?_⟩
    conv => whnf
    refine ⟨rfl, ?_⟩
    conv => whnf
    refine ⟨by omega, ?_⟩
    conv => whnf
    refine ⟨⟨by omega, by omega⟩, ?_⟩
    conv => whnf
    repeat refine At.seq ?_
    refine At.region tab_ok ?_
    conv => whnf
    refine ⟨by omega, ?_⟩
    conv => whnf
    refine ⟨by omega, ?_⟩
    conv => whnf
    refine ⟨encL x, fun w' hw => h.loadI (n := 7) hw.fr (by omega) (by rw [hh, Int.toNat_natCast]; exact hx) rfl, ?_⟩
    conv => whnf
    refine ans_call b123 rfl (fun w' hw => take1_c x m w' (hr x (List.mem_of_getElem? hx))) ?_
    conv => whnf
    repeat refine At.seq ?_
    refine At.cond rfl (fun hq => ?_) (fun hq => ?_)
    · have hxm : x.s.m < m := by have := of_decide_eq_true hq; omega
      repeat refine At.seq ?_
      refine At.region tab_ok ?_
      conv => whnf
      refine ⟨⟨by omega, by omega⟩, ?_⟩
      conv => whnf
      refine At.next fun w' hw => ⟨((i + j) / 2 + 1, j), ⟨by simp only; omega, hjn, fun k l hk hl => ?_, hhi⟩, by simp only; omega, Le.of rfl rfl ⟨rfl, rfl, rfl, rfl, congrArg (Value.int .i64) (by simp only; omega), rfl, trivial⟩, WF.plain rfl, hw.keep [] rfl rfl rfl⟩
      have := hsorted k ((i + j) / 2) l x hl hx (by simp only at hk; omega)
      omega
    · have hxm : ¬ x.s.m < m := by have := of_decide_eq_false hq; omega
      repeat refine At.seq ?_
      refine At.region tab_ok ?_
      conv => whnf
      refine At.next fun w' hw => ⟨(i, (i + j) / 2), ⟨by simp only; omega, by simp only; omega, hlo, fun k l hk hl => ?_⟩, by simp only; omega, Le.of rfl rfl ⟨rfl, rfl, rfl, rfl, rfl, congrArg (Value.int .i64) hh, trivial⟩, WF.plain rfl, hw.keep [] rfl rfl rfl⟩
      have := hsorted ((i + j) / 2) k x l hx hl (by simp only at hk; omega)
      omega
  · have hge : i = j := by have := of_decide_eq_false hc; omega
    subst hge
    have hbe : before L m = i := before_eq hjn hlo (fun l hl => hhi i l (Nat.le_refl _) hl)
    obtain ⟨x, hx⟩ : ∃ x, i < L.length → L[i]? = some x := by
      rcases Nat.lt_or_ge i L.length with h' | h'
      · exact ⟨_, fun _ => List.getElem?_eq_getElem h'⟩
      · exact ⟨default, fun h => by omega⟩
    repeat refine At.seq ?_
    refine At.region tab_ok ?_
    conv => whnf
    refine ⟨by simp only [gimp]; intro h1; omega, ?_⟩
    conv => whnf
    refine ⟨by simp only [gimp]; intro h1; have := of_decide_eq_true h1; omega, ?_⟩
    conv => whnf
    refine ⟨encL x, by simp only [gimp]; intro h1 w' hw; have := of_decide_eq_true h1; exact h.load (n := 7) hw.fr (hx (by omega)) rfl, ?_⟩
    conv => whnf
    refine ⟨.i (x.s.m - m), by simp only [gimp]; intro h1; have h1 := of_decide_eq_true h1; exact ans_quiet b123 (fun w' hw => take1_c x m w' (hr x (List.mem_of_getElem? (hx (by omega))))), ?_⟩
    conv => whnf
    repeat refine At.seq ?_
    refine At.ret (At.doneB tab_ok hB _ rfl fun w' hw => ⟨?_, hw.fr⟩)
    have ht : there L m = (bif decide ((i : Int) < L.length) then decide (x.s.m - m = 0) else false) := by
      unfold there
      rw [hbe, band]
      rcases Nat.lt_or_ge i L.length with h' | h'
      · rw [hx h']
        simp only
        rw [Bool.eq_iff_iff]
        simp
        omega
      · rw [List.getElem?_eq_none h']
        simp; omega
    rw [hbe, ht]
def takeB (L : List Lot) (d : Deed) : List Lot × Int :=
  if there L d.mark then (L, 5) else (insL L (before L d.mark) ⟨d.spans.headD default, d.author, d.author, 0, -1⟩, 0)
theorem take_c (L : List Lot) (d : Deed) (s : Span) (hsp : d.spans[0]? = some s) (b : Nat) (v u : Value) (w : World) (h : Bk w b v L) (hu : SlOf spT (b :: blkOf v) w u d.spans) (hN : L.length ≤ 900000) (hs : L.Pairwise (fun a b => a.s.m ≤ b.s.m)) (hr : ∀ l ∈ L, inR (l.s.m - d.mark)) :
    BkC 94 [ptr b, vD d u] b v (takeB L d).1 (.i (takeB L d).2) w := by
  have hh := enter_bk (N := Try.f94.ntmps) (l := [.s (.c (.p 0 b 0)), .s (.agg (encD d u))]) h
  have hul := hu.len
  have hpos : 0 < d.spans.length := (List.getElem?_eq_some_iff.1 hsp).1
  refine calls_atB _ _ _ Try.func94 rfl rfl (Nat.le_of_ble_eq_true rfl) (WF.objs hh ⟨⟨_, _, rfl⟩, trivial⟩ ⟨fun c hc => by simp at hc; subst hc; exact ⟨_, _, _, rfl⟩, (nopL _).okH, trivial⟩) hh fun B hB => ?_
  repeat refine At.seq ?_
  refine At.region tab_ok ?_
  conv => whnf
  refine ⟨hu.sl.one, ?_⟩
  conv => whnf
  intro b2
  conv => whnf
  repeat refine At.seq ?_
  refine At.draw tab_ok mixed (by kernel_rfl) ?_
  conv => whnf
  refine ⟨.tup [.c (.i (before L d.mark)), .c (.b (there L d.mark))], ans_quiet b122 (fun w' hw => search_c L d.mark [] v w' (SlOf.of_row (hw.row (id := 1) rfl) (fun c hc hc' => by cases hc') (by omega)) (by omega) hs hr), ?_⟩
  conv => whnf
  repeat refine At.seq ?_
  refine At.region tab_ok ?_
  conv => whnf
  repeat refine At.seq ?_
  refine At.cond rfl (fun hq => ?_) (fun hq => ?_)
  · repeat refine At.seq ?_
    refine At.region tab_ok ?_
    conv => whnf
    repeat refine At.seq ?_
    refine At.ret (At.doneB tab_ok hB _ rfl fun w' hw => by unfold takeB; rw [if_pos hq]; exact bk_done (i0 := 0) (i1 := 1) (L' := L) (r := .i 5) hw rfl rfl (by decide) rfl rfl)
  · refine At.skip ?_
    have hte : takeB L d = (insL L (before L d.mark) ⟨s, d.author, d.author, 0, -1⟩, 0) := by
      unfold takeB; rw [if_neg (by rw [hq]; simp)]
      congr 3
      cases hd : d.spans with
      | nil => rw [hd] at hsp; simp at hsp
      | cons y r => rw [hd] at hsp; simpa using hsp
    have hbl : before L d.mark ≤ L.length := by unfold before; exact (List.takeWhile_sublist _).length_le
    repeat refine At.seq ?_
    refine At.plan tab_ok mixed [(2, .box b2 54 (encD d u))] (.take 0 (.take 1 (.take 2 (.take 3 (.take 5 (.take 6 (.take 7 (.take 8 (.take 9 (.take 10 (.take 11 (.take 12 (.take 13 (.take 14 (.br 4 (.br 15 (.br 16 (.take 17 (.take 18 (.br 19 .done .nob))) .nob) .nob) (.br 15 (.br 4 (.br 16 (.take 17 (.take 18 (.br 19 .done .nob))) .nob) .nob) .nob)))))))))))))))) (by kernel_rfl) (by kernel_rfl) ⟨rfl, trivial⟩ ?_
    conv => whnf
    refine ⟨by omega, ?_⟩
    conv => whnf
    refine ⟨by omega, ?_⟩
    conv => whnf
    refine ⟨encS s, fun w' hf => hu.load (i := 0) (n := 3) hf hsp rfl, ?_⟩
    conv => whnf
    refine ⟨?_, ?_, trivial⟩
    · refine ⟨⟨⟨rfl, trivial⟩, fun w' hw => hw.fr⟩, ?_⟩
      conv => whnf
      refine ⟨?_, trivial⟩
      intro u2
      conv => whnf
      refine ⟨⟨⟨rfl, trivial⟩, fun w' hw => hw.fr⟩, ?_⟩
      conv => whnf
      refine ⟨ins_call (i0 := 1) (i1 := 3) (L := L) (x := ⟨s, d.author, d.author, 0, -1⟩) (before L d.mark) rfl rfl rfl (by decide) hbl (by omega) ?_, trivial⟩
      intro v'
      conv => whnf
      refine ⟨⟨⟨rfl, trivial⟩, fun w' hw => hw.fr⟩, ?_⟩
      conv => whnf
      refine ⟨⟨⟨⟨rfl, trivial⟩, fun w' hw => hw.fr⟩, ?_⟩, trivial⟩
      conv => whnf
      repeat refine At.seq ?_
      refine At.region tab_ok ?_
      conv => whnf
      repeat refine At.seq ?_
      refine At.ret (At.doneB tab_ok hB _ rfl fun w' hw => by rw [hte]; exact bk_done (i0 := 0) (i1 := 1) (r := .i 0) hw rfl rfl (by decide) rfl rfl)
    · intro u2
      conv => whnf
      refine ⟨⟨⟨rfl, trivial⟩, fun w' hw => hw.fr⟩, ?_⟩
      conv => whnf
      refine ⟨⟨⟨⟨rfl, trivial⟩, fun w' hw => hw.fr⟩, ?_⟩, trivial⟩
      conv => whnf
      refine ⟨ins_call (i0 := 1) (i1 := 3) (L := L) (x := ⟨s, d.author, d.author, 0, -1⟩) (before L d.mark) rfl rfl rfl (by decide) hbl (by omega) ?_, trivial⟩
      intro v'
      conv => whnf
      refine ⟨⟨⟨rfl, trivial⟩, fun w' hw => hw.fr⟩, ?_⟩
      conv => whnf
      refine ⟨⟨⟨⟨rfl, trivial⟩, fun w' hw => hw.fr⟩, ?_⟩, trivial⟩
      conv => whnf
      repeat refine At.seq ?_
      refine At.region tab_ok ?_
      conv => whnf
      repeat refine At.seq ?_
      refine At.ret (At.doneB tab_ok hB _ rfl fun w' hw => by rw [hte]; exact bk_done (i0 := 0) (i1 := 1) (r := .i 0) hw rfl rfl (by decide) rfl rfl)
end Go.Proofs.Ytjilbkioieicbaa
