/- The law RightsSum (stokvellaw27): what the call computes. -/
import Derived.Test.YtjilbkioieicbaaL7
import Derived.Test.YtjilbkioieicbaaP7
namespace Go.Proofs.Ytjilbkioieicbaa
open Go.Vc Rt
set_option linter.unusedVariables false
set_option linter.unusedSimpArgs false
theorem total_norm_bd (l : List Span) : 0 ≤ total (norm l) ∧ total (norm l) ≤ l.length * 1048576 := by
  have := total_bound (norm_valid (l := l))
  have := norm_len l
  omega
theorem count_bd (l : List Span) : 0 ≤ count l ∧ count l ≤ l.length * 1048576 := total_norm_bd l
theorem paid_bd {k : Int} {d : Deed} {e : Int} (h : d.spans.length ≤ 8) : 0 ≤ paid k d e ∧ paid k d e ≤ 8388608 := by
  unfold paid
  have := count_bd d.spans
  split <;> omega
theorem paidAll_bd {k : Int} : ∀ {l : List Deed} {es : List Int}, (∀ d ∈ l, d.spans.length ≤ 8) → 0 ≤ paidAll k l es ∧ paidAll k l es ≤ 8388608 * l.length
  | [], es, _ => by simp [paidAll]
  | d :: l, [], _ => by simp [paidAll]; omega
  | d :: l, e :: es, h => by
    have ih := paidAll_bd (k := k) (l := l) (es := es) (fun x hx => h x (List.mem_cons_of_mem _ hx))
    have hp := paid_bd (k := k) (d := d) (e := e) (h d (List.mem_cons_self ..))
    unfold paidAll at *
    simp only [List.zip_cons_cons, List.map_cons, List.sum_cons, List.length_cons]
    omega
theorem paid_step {k : Int} {l : List Deed} {es : List Int} (h : l.length = es.length) {i : Nat} {d : Deed} {e : Int} (hd : l[i]? = some d) (he : es[i]? = some e) : paidAll k (l.take (i + 1)) (es.take (i + 1)) = paidAll k (l.take i) (es.take i) + paid k d e := by
  rw [List.take_add_one, List.take_add_one, hd, he]
  simp only [Option.toList_some]
  rw [paid_snoc (by simp; omega)]
theorem sizes_step {L : List Lot} {i : Nat} {x : Lot} (hx : L[i]? = some x) : ((L.take (i + 1)).map sizeL).sum = ((L.take i).map sizeL).sum + (x.s.t - x.s.f) := by
  rw [List.take_add_one, hx]
  simp [sizeL]
theorem sizes_bd : ∀ {L : List Lot}, (∀ l ∈ L, lotOk l) → 0 ≤ (L.map sizeL).sum ∧ (L.map sizeL).sum ≤ 1048576 * L.length
  | [], _ => by simp
  | l :: L, h => by
    have ih := sizes_bd (L := L) (fun x hx => h x (List.mem_cons_of_mem _ hx))
    have := h l (List.mem_cons_self ..)
    unfold lotOk at this
    simp only [List.map_cons, List.sum_cons, List.length_cons, sizeL] at *
    omega
theorem sumTo_bd {f : Nat → Int} {B : Int} (h : ∀ k, 0 ≤ f k ∧ f k ≤ B) : ∀ n, 0 ≤ sumTo f n ∧ sumTo f n ≤ B * n
  | 0 => by simp [sumTo]
  | n + 1 => by
    have := sumTo_bd h n
    have := h n
    simp only [sumTo]
    rw [Int.natCast_add, Int.mul_add]
    omega
theorem sum_chk {k : Nat} {x y : Lot} (h1 : 0 < x.s.f → 0 < k ∧ y.s.m = x.s.m ∧ y.s.t = x.s.f) (h2 : 0 < k → y.s.m ≤ x.s.m ∧ (x.s.f = 0 → y.s.m ≠ x.s.m)) (h0 : 0 ≤ x.s.f) :
    (bif bif bif decide (0 < (k : Int)) then decide (x.s.m < y.s.m) else false then true else bif decide (0 < x.s.f) then bif bif decide ((k : Int) = 0) then true else !decide (y.s.m = x.s.m) then true else !decide (y.s.t = x.s.f) else false then true
      else bif bif decide (x.s.f = 0) then decide (0 < (k : Int)) else false then decide (y.s.m = x.s.m) else false) = false := by
  by_cases hf : 0 < x.s.f
  · obtain ⟨a, b, c⟩ := h1 hf
    have e1 : decide (x.s.m < y.s.m) = false := decide_eq_false (by omega)
    have e2 : decide ((k : Int) = 0) = false := decide_eq_false (by omega)
    have e3 : decide (x.s.f = 0) = false := decide_eq_false (by omega)
    rw [e1, e2, e3, decide_eq_true b, decide_eq_true c]
    cases decide (0 < (k : Int)) <;> cases decide (0 < x.s.f) <;> rfl
  · have e0 : decide (0 < x.s.f) = false := decide_eq_false hf
    have e3 : decide (x.s.f = 0) = true := decide_eq_true (by omega)
    rw [e0, e3]
    by_cases hk : 0 < k
    · obtain ⟨a, b⟩ := h2 hk
      have e1 : decide (x.s.m < y.s.m) = false := decide_eq_false (by omega)
      rw [e1, decide_eq_false (b (by omega))]
      cases decide (0 < (k : Int)) <;> rfl
    · have e2 : decide (0 < (k : Int)) = false := decide_eq_false (by omega)
      rw [e2]; rfl
/-- What one key has. -/
def keyTot (g : Lot → Int) (L : List Lot) (k : Nat) : Int := count (norm (openL (fun l => decide (g l = (k : Int))) L))
theorem keyTot_bd (g : Lot → Int) (L : List Lot) (k : Nat) : 0 ≤ keyTot g L k ∧ keyTot g L k ≤ 1048576 * L.length := by
  unfold keyTot
  have h1 := count_bd (norm (openL (fun l => decide (g l = (k : Int))) L))
  have h2 := norm_len (openL (fun l => decide (g l = (k : Int))) L)
  have h3 := openL_len (fun l => decide (g l = (k : Int))) L
  omega
theorem keyTot_sum {g : Lot → Int} {L : List Lot} (h : Ord L) (hk : ∀ l ∈ L, isKey (g l) = true) : sumTo (keyTot g L) 200 = mz isOpen L := by
  have e : keyTot g L = fun k : Nat => total (openL (fun l => decide (g l = (k : Int))) L) := by funext k; exact openL_norm h
  rw [e, keys_total (fun l hl => by have := hk l hl; unfold isKey at this; simp at this; exact this), open_mz]
theorem mz_open_bd : ∀ {L : List Lot}, (∀ l ∈ L, lotOk l) → 0 ≤ mz isOpen L ∧ mz isOpen L ≤ (L.map sizeL).sum
  | [], _ => by simp [mz]
  | l :: L, h => by
    have ih := mz_open_bd (L := L) (fun x hx => h x (List.mem_cons_of_mem _ hx))
    have := h l (List.mem_cons_self ..)
    unfold lotOk at this
    rw [mz_cons]
    simp only [List.map_cons, List.sum_cons]
    have : 0 < sizeL l := by unfold sizeL; omega
    split <;> omega
theorem sum_c6 (l : List Deed) (v : Value) (w : World) (h : SlOf deT [] w v l) : Ans Try.prog 6 [v] (.b true) w := by
  have hl := h.len
  have hsm := h.small
  obtain ⟨U, hU⟩ := slices_of h
  refine calls_plainB [.x v] Try.func6 rfl rfl (Nat.le_of_ble_eq_true rfl) rfl fun B hB => ?_
  repeat refine At.seq ?_
  refine At.region tab_ok ?_
  conv => whnf
  repeat refine At.seq ?_
  refine At.region tab_ok ?_
  conv => whnf
  refine ans_call b24 rfl (fun w' hw => small27_c w') ?_
  conv => whnf
  repeat refine At.seq ?_
  refine At.region tab_ok ?_
  conv => whnf
  refine ans_call b25 rfl (fun w' hw => few_c l 16 [] v w' (h.fr hw.fr)) ?_
  conv => whnf
  repeat refine At.seq ?_
  refine At.cond rfl (fun hq => ?_) (fun hq => ?_)
  · repeat refine At.seq ?_
    refine At.region tab_ok ?_
    conv => whnf
    repeat refine At.seq ?_
    refine At.ret (At.doneB tab_ok hB _ rfl fun w' hw => ⟨rfl, hw.fr⟩)
  · have hfew : few l 16 = true := by simpa using hq
    obtain ⟨hn, hsp⟩ := few_spec hfew
    have hn : l.length ≤ 16 := by omega
    have hes := lotsK_errs l
    have hgood := good_lots _ l rfl hsp
    obtain ⟨law1, law2⟩ := lots_mz _ l rfl hsp
    have hlen := (lotsK_keeps _ l rfl hsp).2.2
    refine At.skip ?_
    repeat refine At.seq ?_
    refine At.region tab_ok ?_
    conv => whnf
    refine ansR_call b26 (rd2 (nopL _) (nopI _)) (fun w' hw => lots_c l [] v w' (h.fr hw.fr) (by omega) (lots_ok hsp (by omega))) ?_
    intro va
    conv => whnf
    intro ve
    conv => whnf
    generalize hLE : lotsK l = q at *
    obtain ⟨L, es⟩ := q
    simp only at hes law1 law2 hgood hlen ⊢
    repeat refine At.seq ?_
    refine At.region tab_ok ?_
    conv => whnf
    refine ⟨rfl, ?_⟩
    conv => whnf
    refine ⟨h.sl, ?_⟩
    conv => whnf
    repeat refine At.seq ?_
    refine At.cond rfl (fun hq => ?_) (fun hq => At.skip ?_)
    · rw [hl] at hq; simp at hq; omega
    repeat refine At.seq ?_
    refine At.region tab_ok ?_
    conv => whnf
    repeat refine At.seq ?_
    refine At.region tab_ok ?_
    conv => whnf
    repeat refine At.seq ?_
    refine At.region tab_ok ?_
    conv => whnf
    repeat refine At.seq ?_
    refine At.block ?_
    refine At.loopH (fun k : Nat => { N := Try.f6.ntmps, sl := [(0, some (.x v)), (3, some (.b true)), (4, some (.s (.c (.o 0 va)))), (5, some (.s (.c (.o 1 ve)))), (6, some (.i (paidAll 0 (l.take k) (es.take k)))), (7, some (.i (paidAll 3 (l.take k) (es.take k)))), (8, some (.i k))], gl := [], hp := [(1, .row ve 30 1 (es.map encI)), (0, .row va 58 7 (L.map encL))], S := [], ws := w }) (fun k => k ≤ l.length) (fun k => l.length - k)
      (fun w' hw => ⟨0, Nat.zero_le _, Le.of rfl rfl ⟨rfl, rfl, rfl, rfl, rfl, rfl, rfl, trivial⟩, hw.same rfl rfl rfl, ⟨⟨_, _, _, rfl⟩, ⟨_, _, _, rfl⟩, trivial⟩, ⟨(nopI _).okH, (nopL _).okH, trivial⟩⟩) ?_
    intro k hk
    repeat refine At.seq ?_
    refine At.region tab_ok ?_
    conv => whnf
    refine ⟨h.sl, ?_⟩
    conv => whnf
    repeat refine At.seq ?_
    refine At.cond rfl (fun hc => At.skip ?_) (fun hc => At.exit ?_)
    · have hlt : k < l.length := by have := of_decide_eq_true hc; omega
      obtain ⟨d, hd⟩ : ∃ d, l[k]? = some d := ⟨_, List.getElem?_eq_getElem hlt⟩
      obtain ⟨e, he⟩ : ∃ e, es[k]? = some e := ⟨_, List.getElem?_eq_getElem (by omega)⟩
      obtain ⟨hu, hcells⟩ := hU k d hd
      have hd8 := hsp d (List.mem_of_getElem? hd)
      have hcb := count_bd d.spans
      have hp0 := paid_step (k := 0) hes.symm hd he
      have hp3 := paid_step (k := 3) hes.symm hd he
      have hb0 := paidAll_bd (k := 0) (l := l.take k) (es := es.take k) (fun x hx => hsp x (List.mem_of_mem_take hx))
      have hb3 := paidAll_bd (k := 3) (l := l.take k) (es := es.take k) (fun x hx => hsp x (List.mem_of_mem_take hx))
      have hkl : (l.take k).length ≤ 16 := by simp; omega
      have hb1 : paidAll 0 (l.take k) (es.take k) ≤ 134217728 := by omega
      have hb2 : paidAll 3 (l.take k) (es.take k) ≤ 134217728 := by omega
      repeat refine At.seq ?_
      refine At.block ?_
      repeat refine At.seq ?_
      refine At.region tab_ok ?_
      conv => whnf
      refine ⟨by omega, ?_⟩
      conv => whnf
      refine ⟨by omega, ?_⟩
      conv => whnf
      refine ⟨[.x (U k)], fun w' hw => (hcells w' hw.fr).part (n := 1) rfl, ?_⟩
      conv => whnf
      refine ans_call b27 rfl (fun w' hw => count_c d.spans [] (U k) w' (hu.fr hw.fr) (by omega)) ?_
      conv => whnf
      repeat refine At.seq ?_
      refine At.region tab_ok ?_
      conv => whnf
      refine ⟨rfl, ?_⟩
      conv => whnf
      refine ⟨by omega, ?_⟩
      conv => whnf
      refine ⟨by simp; omega, ?_⟩
      conv => whnf
      refine ⟨encI e, ⟨rfl, rfl, by omega, by rw [Int.toNat_natCast, List.getElem?_map, he]; rfl⟩, ?_⟩
      conv => whnf
      refine ⟨by simp only [gimp]; intros; omega, ?_⟩
      conv => whnf
      refine ⟨by simp only [gimp]; intros; omega, ?_⟩
      conv => whnf
      refine ⟨[.i d.kind], by simp only [gimp]; intro _ w' hw; exact (hcells w' hw.fr).part (n := 1) rfl, ?_⟩
      conv => whnf
      repeat refine At.seq ?_
      refine At.cond rfl (fun hq => ?_) (fun hq => ?_)
      · simp only [band, Bool.and_eq_true, decide_eq_true_eq] at hq
        have p0 : paid 0 d e = count d.spans := by unfold paid; rw [if_pos hq]
        have p3 : paid 3 d e = 0 := by unfold paid; rw [if_neg (by omega)]
        repeat refine At.seq ?_
        refine At.region tab_ok ?_
        conv => whnf
        refine ⟨⟨by omega, by omega⟩, ?_⟩
        conv => whnf
        repeat refine At.seq ?_
        refine At.region tab_ok ?_
        conv => whnf
        refine ⟨rfl, ?_⟩
        conv => whnf
        refine ⟨by omega, ?_⟩
        conv => whnf
        refine ⟨by simp; omega, ?_⟩
        conv => whnf
        refine ⟨encI e, ⟨rfl, rfl, by omega, by rw [Int.toNat_natCast, List.getElem?_map, he]; rfl⟩, ?_⟩
        conv => whnf
        refine ⟨by simp only [gimp]; intros; omega, ?_⟩
        conv => whnf
        refine ⟨by simp only [gimp]; intros; omega, ?_⟩
        conv => whnf
        refine ⟨[.i d.kind], by simp only [gimp]; intro _ w' hw; exact (hcells w' hw.fr).part (n := 1) rfl, ?_⟩
        conv => whnf
        repeat refine At.seq ?_
        refine At.cond rfl (fun hq => ?_) (fun hq => ?_)
        · simp only [band, Bool.and_eq_true, decide_eq_true_eq] at hq; omega
        · refine At.skip ?_
          repeat refine At.seq ?_
          refine At.region tab_ok ?_
          conv => whnf
          refine ⟨⟨by omega, by omega⟩, ?_⟩
          conv => whnf
          refine At.nextH fun w' hw => ⟨k + 1, by omega, by omega, Le.of rfl rfl ⟨rfl, rfl, rfl, rfl, congrArg (Value.int .i64) (by rw [hp0, p0]), congrArg (Value.int .i64) (by rw [hp3, p3, Int.add_zero]), rfl, trivial⟩, hw.keep [1, 0] rfl rfl rfl, ⟨⟨_, _, _, rfl⟩, ⟨_, _, _, rfl⟩, trivial⟩, ⟨(nopI _).okH, (nopL _).okH, trivial⟩⟩
      · simp only [band, Bool.and_eq_false_iff, decide_eq_false_iff_not] at hq
        have p0 : paid 0 d e = 0 := by unfold paid; rw [if_neg (by omega)]
        refine At.skip ?_
        repeat refine At.seq ?_
        refine At.region tab_ok ?_
        conv => whnf
        refine ⟨rfl, ?_⟩
        conv => whnf
        refine ⟨by omega, ?_⟩
        conv => whnf
        refine ⟨by simp; omega, ?_⟩
        conv => whnf
        refine ⟨encI e, ⟨rfl, rfl, by omega, by rw [Int.toNat_natCast, List.getElem?_map, he]; rfl⟩, ?_⟩
        conv => whnf
        refine ⟨by simp only [gimp]; intros; omega, ?_⟩
        conv => whnf
        refine ⟨by simp only [gimp]; intros; omega, ?_⟩
        conv => whnf
        refine ⟨[.i d.kind], by simp only [gimp]; intro _ w' hw; exact (hcells w' hw.fr).part (n := 1) rfl, ?_⟩
        conv => whnf
        repeat refine At.seq ?_
        refine At.cond rfl (fun hq => ?_) (fun hq => ?_)
        · simp only [band, Bool.and_eq_true, decide_eq_true_eq] at hq
          have p3 : paid 3 d e = count d.spans := by unfold paid; rw [if_pos hq]
          repeat refine At.seq ?_
          refine At.region tab_ok ?_
          conv => whnf
          refine ⟨⟨by omega, by omega⟩, ?_⟩
          conv => whnf
          repeat refine At.seq ?_
          refine At.region tab_ok ?_
          conv => whnf
          refine ⟨⟨by omega, by omega⟩, ?_⟩
          conv => whnf
          refine At.nextH fun w' hw => ⟨k + 1, by omega, by omega, Le.of rfl rfl ⟨rfl, rfl, rfl, rfl, congrArg (Value.int .i64) (by rw [hp0, p0, Int.add_zero]), congrArg (Value.int .i64) (by rw [hp3, p3]), rfl, trivial⟩, hw.keep [1, 0] rfl rfl rfl, ⟨⟨_, _, _, rfl⟩, ⟨_, _, _, rfl⟩, trivial⟩, ⟨(nopI _).okH, (nopL _).okH, trivial⟩⟩
        · rename_i hq0
          have hq1 := hq
          simp only [band, Bool.and_eq_false_iff, decide_eq_false_iff_not] at hq1
          have p3 : paid 3 d e = 0 := by unfold paid; rw [if_neg (by omega)]
          refine At.skip ?_
          repeat refine At.seq ?_
          refine At.region tab_ok ?_
          conv => whnf
          refine ⟨⟨by omega, by omega⟩, ?_⟩
          conv => whnf
          refine At.nextH fun w' hw => ⟨k + 1, by omega, by omega, Le.of rfl rfl ⟨rfl, rfl, rfl, rfl, congrArg (Value.int .i64) (by rw [hp0, p0, Int.add_zero]), congrArg (Value.int .i64) (by rw [hp3, p3, Int.add_zero]), rfl, trivial⟩, hw.keep [1, 0] rfl rfl rfl, ⟨⟨_, _, _, rfl⟩, ⟨_, _, _, rfl⟩, trivial⟩, ⟨(nopI _).okH, (nopL _).okH, trivial⟩⟩
    · have hge : k = l.length := by have := of_decide_eq_false hc; omega
      subst hge
      have e1 : l.take l.length = l := List.take_length
      have e2 : es.take l.length = es := by rw [← hes, List.take_length]
      rw [e1, e2, ← law1]
      have hspent : paidAll 3 l es = mz (fun _ => true) L - mz isOpen L := by omega
      rw [hspent]
      have hTb := sizes_bd (L := L) hgood.ord.ok
      rw [← mz_all] at hTb
      repeat refine At.seq ?_
      refine At.region tab_ok ?_
      conv => whnf
      repeat refine At.seq ?_
      refine At.region tab_ok ?_
      conv => whnf
      repeat refine At.seq ?_
      refine At.block ?_
      refine At.loopH (fun k : Nat => { N := Try.f6.ntmps, sl := [(3, some (.b true)), (4, some (.s (.c (.o 0 va)))), (6, some (.i (mz (fun _ => true) L))), (7, some (.i (mz (fun _ => true) L - mz isOpen L))), (10, some (.i ((L.take k).map sizeL).sum)), (11, some (.i k))], gl := [], hp := [(1, .row ve 30 1 (es.map encI)), (0, .row va 58 7 (L.map encL))], S := [], ws := w }) (fun k => k ≤ L.length) (fun k => L.length - k)
        (fun w' hw => ⟨0, Nat.zero_le _, Le.of rfl rfl ⟨rfl, rfl, rfl, rfl, rfl, rfl, trivial⟩, hw.same rfl rfl rfl, ⟨⟨_, _, _, rfl⟩, trivial⟩, ⟨(nopI _).okH, (nopL _).okH, trivial⟩⟩) ?_
      intro k hk
      repeat refine At.seq ?_
      refine At.region tab_ok ?_
      conv => whnf
      refine ⟨rfl, ?_⟩
      conv => whnf
      repeat refine At.seq ?_
      refine At.cond rfl (fun hc => At.skip ?_) (fun hc => At.exit ?_)
      · have hlt : k < L.length := by have := of_decide_eq_true hc; simp at this; omega
        obtain ⟨x, hx⟩ : ∃ x, L[k]? = some x := ⟨_, List.getElem?_eq_getElem hlt⟩
        obtain ⟨y, hy⟩ : ∃ y, L[k - 1]? = some y := ⟨_, List.getElem?_eq_getElem (by omega)⟩
        have hok := hgood.ord.ok x (List.mem_of_getElem? hx)
        unfold lotOk at hok
        obtain ⟨hprev, hprev2⟩ := lot_prev hgood hx
        have hss := sizes_step hx
        have hsb := sizes_bd (L := L.take k) (fun z hz => hgood.ord.ok z (List.mem_of_mem_take hz))
        have hkl : (L.take k).length ≤ L.length := by simp; omega
        have hgx : ∀ {q : Int}, q = k → (L.map encL)[q.toNat]? = some (encL x) := fun e => by rw [e, Int.toNat_natCast, List.getElem?_map, hx]; rfl
        have hgy : ∀ {q : Int}, q = (k - 1 : Nat) → (L.map encL)[q.toNat]? = some (encL y) := fun e => by rw [e, Int.toNat_natCast, List.getElem?_map, hy]; rfl
        repeat refine At.seq ?_
        refine At.block ?_
        repeat refine At.seq ?_
        refine At.region tab_ok ?_
        conv => whnf
        refine ⟨rfl, ?_⟩
        conv => whnf
        refine ⟨by omega, ?_⟩
        conv => whnf
        refine ⟨by simp; omega, ?_⟩
        conv => whnf
        refine ⟨encL x, ⟨rfl, rfl, by omega, hgx rfl⟩, ?_⟩
        conv => whnf
        intro b
        conv => whnf
        repeat refine At.seq ?_
        refine At.region tab_ok ?_
        conv => whnf
        repeat refine At.seq ?_
        refine At.cond rfl (fun hq => ?_) (fun hq => ?_)
        · simp only [bor, Bool.or_eq_true, decide_eq_true_eq] at hq; omega
        · refine At.skip ?_
          repeat refine At.seq ?_
          refine At.draw tab_ok mixed (by kernel_rfl) ?_
          conv => whnf
          refine ⟨by simp only [gimp]; intros; exact ⟨by omega, by omega⟩, ?_⟩
          conv => whnf
          refine ⟨by simp only [gimp]; intros; trivial, ?_⟩
          conv => whnf
          refine ⟨by simp only [gimp]; intro h1; have h1 := of_decide_eq_true h1; omega, ?_⟩
          conv => whnf
          refine ⟨by simp only [gimp]; intros; simp; omega, ?_⟩
          conv => whnf
          refine ⟨encL y, by simp only [gimp]; intro h1; have h1 := of_decide_eq_true h1; exact ⟨trivial, trivial, by omega, hgy (by omega)⟩, ?_⟩
          conv => whnf
          refine ⟨by simp only [gimp]; intros; exact ⟨by omega, by omega⟩, ?_⟩
          conv => whnf
          refine ⟨by simp only [gimp]; intros; trivial, ?_⟩
          conv => whnf
          refine ⟨by simp only [gimp]; intros; omega, ?_⟩
          conv => whnf
          refine ⟨by simp only [gimp]; intros; simp; omega, ?_⟩
          conv => whnf
          refine ⟨encL y, by simp only [gimp]; intros; exact ⟨trivial, trivial, by omega, hgy (by omega)⟩, ?_⟩
          conv => whnf
          refine ⟨by simp only [gimp]; intros; exact ⟨by omega, by omega⟩, ?_⟩
          conv => whnf
          refine ⟨by simp only [gimp]; intros; trivial, ?_⟩
          conv => whnf
          refine ⟨by simp only [gimp]; intros; omega, ?_⟩
          conv => whnf
          refine ⟨by simp only [gimp]; intros; simp; omega, ?_⟩
          conv => whnf
          refine ⟨encL y, by simp only [gimp]; intros; exact ⟨trivial, trivial, by omega, hgy (by omega)⟩, ?_⟩
          conv => whnf
          refine ⟨by simp only [gimp]; intros; exact ⟨by omega, by omega⟩, ?_⟩
          conv => whnf
          refine ⟨by simp only [gimp]; intros; trivial, ?_⟩
          conv => whnf
          refine ⟨by simp only [gimp]; intro h1 _; have h1 : (0 : Int) < k := (by revert h1; cases decide (x.s.f = 0) <;> simp); omega, ?_⟩
          conv => whnf
          refine ⟨by simp only [gimp]; intros; simp; omega, ?_⟩
          conv => whnf
          refine ⟨encL y, by simp only [gimp]; intro h1 _; have h1 : (0 : Int) < k := (by revert h1; cases decide (x.s.f = 0) <;> simp); exact ⟨trivial, trivial, by omega, hgy (by omega)⟩, ?_⟩
          conv => whnf
          repeat refine At.seq ?_
          refine At.cond rfl (fun hq => ?_) (fun hq => ?_)
          · rw [sum_chk (fun hf => ⟨(hprev hf).1, (hprev hf).2 y hy⟩) (fun h0 => hprev2 h0 y hy) hok.2.2.1] at hq; cases hq
          · refine At.skip ?_
            repeat refine At.seq ?_
            refine At.region tab_ok ?_
            conv => whnf
            refine ⟨⟨by omega, by omega⟩, ?_⟩
            conv => whnf
            refine ⟨⟨by omega, by omega⟩, ?_⟩
            conv => whnf
            repeat refine At.seq ?_
            refine At.region tab_ok ?_
            conv => whnf
            refine ⟨⟨by omega, by omega⟩, ?_⟩
            conv => whnf
            refine At.nextH fun w' hw => ⟨k + 1, by omega, by omega, Le.of rfl rfl ⟨rfl, rfl, rfl, rfl, congrArg (Value.int .i64) (by rw [hss]; omega), rfl, trivial⟩, hw.keep [1, 0] rfl rfl rfl, ⟨⟨_, _, _, rfl⟩, trivial⟩, ⟨(nopI _).okH, (nopL _).okH, trivial⟩⟩
      · have hge : k = L.length := by have := of_decide_eq_false hc; simp at this; omega
        subst hge
        have eT : ((L.take L.length).map sizeL).sum = mz (fun _ => true) L := by rw [List.take_length, mz_all]
        rw [eT]
        have hbo := fun k : Nat => keyTot_bd (fun l => l.o) L k
        have hbh := fun k : Nat => keyTot_bd (fun l => l.h) L k
        have so := fun n => sumTo_bd hbo n
        have sh := fun n => sumTo_bd hbh n
        repeat refine At.seq ?_
        refine At.region tab_ok ?_
        conv => whnf
        repeat refine At.seq ?_
        refine At.region tab_ok ?_
        conv => whnf
        repeat refine At.seq ?_
        refine At.region tab_ok ?_
        conv => whnf
        repeat refine At.seq ?_
        refine At.block ?_
        refine At.loopH (fun k : Nat => { N := Try.f6.ntmps, sl := [(3, some (.b true)), (4, some (.s (.c (.o 0 va)))), (6, some (.i (mz (fun _ => true) L))), (7, some (.i (mz (fun _ => true) L - mz isOpen L))), (10, some (.i (mz (fun _ => true) L))), (13, some (.i (sumTo (keyTot (fun l => l.o) L) k))), (14, some (.i (sumTo (keyTot (fun l => l.h) L) k))), (15, some (.i k))], gl := [], hp := [(1, .row ve 30 1 (es.map encI)), (0, .row va 58 7 (L.map encL))], S := [], ws := w }) (fun k => k ≤ 200) (fun k => 200 - k)
          (fun w' hw => ⟨0, Nat.zero_le _, Le.of rfl rfl ⟨rfl, rfl, rfl, rfl, rfl, rfl, rfl, rfl, trivial⟩, hw.same rfl rfl rfl, ⟨⟨_, _, _, rfl⟩, trivial⟩, ⟨(nopI _).okH, (nopL _).okH, trivial⟩⟩) ?_
        intro k hk
        have hko := openL_len (fun l => decide (l.o = (k : Int))) L
        have hkh := openL_len (fun l => decide (l.h = (k : Int))) L
        have hno := norm_len (openL (fun l => decide (l.o = (k : Int))) L)
        have hnh := norm_len (openL (fun l => decide (l.h = (k : Int))) L)
        have b1 := hbo k
        have b2 := hbh k
        have b3 := so k
        have b4 := sh k
        have b5 : (1048576 * (L.length : Int)) * k ≤ 1048576 * L.length * 200 := Int.mul_le_mul_of_nonneg_left (by omega) (by omega)
        repeat refine At.seq ?_
        refine At.region tab_ok ?_
        conv => whnf
        repeat refine At.seq ?_
        refine At.cond rfl (fun hc => At.skip ?_) (fun hc => At.exit ?_)
        · have hlt : k < 200 := by have := of_decide_eq_true hc; omega
          repeat refine At.seq ?_
          refine At.block ?_
          repeat refine At.seq ?_
          refine At.region tab_ok ?_
          conv => whnf
          refine ansR_call b28 (rd1 (nopS _)) (fun w' hw => owned_c L k [] va w' (slL L (hw.row (id := 0) rfl) (by omega)) (by omega)) ?_
          intro v1
          conv => whnf
          refine ans_call b27 rfl (fun w' hw => count_c _ [] v1 w' (slS _ (hw.row (id := 2) rfl) (by omega)) (by omega)) ?_
          conv => whnf
          rw [show count (norm (openL (fun l => decide (l.o = (k : Int))) L)) = keyTot (fun l => l.o) L k from rfl]
          refine ⟨⟨by omega, by omega⟩, ?_⟩
          conv => whnf
          repeat refine At.seq ?_
          refine At.region tab_ok ?_
          conv => whnf
          refine ansR_call b29 (rd1 (nopS _)) (fun w' hw => held_c L k [] va w' (slL L (hw.row (id := 0) rfl) (by omega)) (by omega)) ?_
          intro v2
          conv => whnf
          refine ans_call b27 rfl (fun w' hw => count_c _ [] v2 w' (slS _ (hw.row (id := 3) rfl) (by omega)) (by omega)) ?_
          conv => whnf
          rw [show count (norm (openL (fun l => decide (l.h = (k : Int))) L)) = keyTot (fun l => l.h) L k from rfl]
          refine ⟨⟨by omega, by omega⟩, ?_⟩
          conv => whnf
          repeat refine At.seq ?_
          refine At.region tab_ok ?_
          conv => whnf
          refine ⟨⟨by omega, by omega⟩, ?_⟩
          conv => whnf
          refine At.nextH fun w' hw => ⟨k + 1, by omega, by omega, Le.of rfl rfl ⟨rfl, rfl, rfl, rfl, rfl, rfl, rfl, rfl, trivial⟩, hw.keep [1, 0] rfl rfl rfl, ⟨⟨_, _, _, rfl⟩, trivial⟩, ⟨(nopI _).okH, (nopL _).okH, trivial⟩⟩
        · have hge : k = 200 := by have := of_decide_eq_false hc; omega
          have hO : count (norm (openL (fun _ => true) L)) = mz isOpen L := by rw [openL_norm hgood.ord, open_mz]
          have ho : sumTo (keyTot (fun l => l.o) L) k = mz isOpen L := by rw [hge]; exact keyTot_sum hgood.ord (fun l hl => (hgood.key _ _ _ (sta_first hgood.ord hl)).1)
          have hh : sumTo (keyTot (fun l => l.h) L) k = mz isOpen L := by rw [hge]; exact keyTot_sum hgood.ord (fun l hl => (hgood.key _ _ _ (sta_first hgood.ord hl)).2)
          rw [ho, hh]
          have hOb := hbo 0
          have hOO : 0 ≤ mz isOpen L ∧ mz isOpen L ≤ mz (fun _ => true) L := by rw [mz_all]; exact mz_open_bd hgood.ord.ok
          repeat refine At.seq ?_
          refine At.region tab_ok ?_
          conv => whnf
          refine ans_call b30 rfl (fun w' hw => sum_c L [] va w' (slL L (hw.row (id := 0) rfl) (by omega)) (by omega)) ?_
          conv => whnf
          rw [hO]
          repeat refine At.seq ?_
          refine At.region tab_ok ?_
          conv => whnf
          refine ⟨by simp only [gimp]; intros; exact ⟨by omega, by omega⟩, ?_⟩
          conv => whnf
          repeat refine At.seq ?_
          refine At.ret (At.doneB tab_ok hB _ rfl fun w' hw => ⟨?_, hw.fr⟩)
          have e : mz isOpen L = mz (fun _ => true) L - (mz (fun _ => true) L - mz isOpen L) := by omega
          simp [RV.den, SV.den, CV.den, ← e]
end Go.Proofs.Ytjilbkioieicbaa
