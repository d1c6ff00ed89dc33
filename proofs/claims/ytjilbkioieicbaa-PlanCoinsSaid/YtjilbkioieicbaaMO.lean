/- Texts that the law uses: N10 N11 N12 N13 N14 N15 N16 N17 N18 N19 L21. -/
import Derived.Test.YtjilbkioieicbaaMN
import Derived.Test.YtjilbkioieicbaaMD
import Derived.Test.YtjilbkioieicbaaMP
import Derived.Test.YtjilbkioieicbaaME
/- Walks: flow.right, where the network is right. -/
namespace Go.Proofs.Ytjilbkioieicbaa
open Go.Vc Rt
set_option linter.unusedVariables false
set_option linter.unusedSimpArgs false
theorem node_c (k n : Int) (b : Nat) (w : World) (hb : (LO.box b 3 [.i n]).holds w) : Ans Try.prog 116 [vI k, ptr b] (.b (decide (0 ≤ k ∧ k < n))) w := by
  have hh : Holds (St.enter Try.f116.ntmps [.i k, .s (.c (.p 0 b 0))] [(0, .box b 3 [.i n])] [b] w) w := enter_objs (fun o ho => by simp at ho; subst ho; exact hb) (by simp [LO.blks])
  refine calls_atB _ _ _ Try.func116 rfl rfl (Nat.le_of_ble_eq_true rfl) (WF.objs hh ⟨⟨_, _, rfl⟩, trivial⟩ trivial) hh fun B hB => ?_
  repeat refine At.seq ?_
  refine At.region tab_ok ?_
  conv => whnf
  repeat refine At.seq ?_
  refine At.region tab_ok ?_
  conv => whnf
  repeat refine At.seq ?_
  refine At.ret (At.doneB tab_ok hB _ rfl fun w' hw => ⟨?_, hw.fr.ext fun c hc => ?_⟩)
  · rw [Bool.decide_and, ← band]
  · rw [List.mem_singleton.1 hc]; exact (hw.box (id := 0) rfl).trans hb.symm
def badB (n : Int) (e : Pl.Edge) : Bool := !decide (0 ≤ e.f ∧ e.f < n) || !decide (0 ≤ e.t ∧ e.t < n) || decide (e.c < 0) || decide (1099511627776 < e.c)
theorem bad_c (e : Pl.Edge) (n : Int) (b b2 : Nat) (w : World) (hb : (LO.box b 3 [.i n]).holds w) (hb2 : (LO.box b2 127 [.x (.func (.func 116) #[] #[ptr b])]).holds w) (hne : b2 ≠ b) : Ans Try.prog 117 [vE e, ptr b2] (.b (badB n e)) w := by
  have hh : Holds (St.enter Try.f117.ntmps [.s (.agg (encE e)), .s (.c (.p 0 b2 0))] [(0, .box b2 127 [.x (.func (.func 116) #[] #[ptr b])]), (1, .box b 3 [.i n])] [b2, b] w) w := enter_objs (fun o ho => by simp at ho; rcases ho with rfl | rfl; exact hb2; exact hb) (by simp [LO.blks, hne])
  refine calls_atB _ _ _ Try.func117 rfl rfl (Nat.le_of_ble_eq_true rfl) (WF.objs hh ⟨⟨_, _, rfl⟩, trivial⟩ trivial) hh fun B hB => ?_
  repeat refine At.seq ?_
  refine At.region tab_ok ?_
  conv => whnf
  intro be
  conv => whnf
  repeat refine At.seq ?_
  refine At.region tab_ok ?_
  conv => whnf
  refine ans_call b116 rfl (fun w' hw => node_c e.f n b w' (hw.box (id := 1) rfl)) ?_
  conv => whnf
  refine ⟨.b (decide (0 ≤ e.t ∧ e.t < n)), by simp only [gimp]; intro _; exact ans_quiet b116 (fun w' hw => node_c e.t n b w' (hw.box (id := 1) rfl)), ?_⟩
  conv => whnf
  repeat refine At.seq ?_
  refine At.ret (At.doneB tab_ok hB _ rfl fun w' hw => ⟨?_, hw.fr.ext fun c hc => ?_⟩)
  · simp only [RV.den, SV.den, CV.den, bor, badB]
  · rcases List.mem_cons.1 hc with rfl | hc
    · exact (hw.box (id := 0) rfl).trans hb2.symm
    · rw [List.mem_singleton.1 hc]; exact (hw.box (id := 1) rfl).trans hb.symm
theorem indexE_c (xs : List Pl.Edge) (S : List Nat) (v : Value) (w : World) (h : SlOf edT S w v xs) (g : Nat) (caps : Array Value) (p : Pl.Edge → Bool) (hg : Body Try.prog g)
    (hf : ∀ x ∈ xs, ∀ w', Ext w w' → Ans Try.prog g (vE x :: caps.toList) (.b (p x)) w') : Ans Try.prog 140 [v, .func (.func g) #[] caps] (.i (idxOf p xs)) w := by
  replace h := h.avoid (S' := []) (fun b hb => by cases hb)
  have hsm := h.small
  refine calls_plainB [.x v, .x (.func (.func g) #[] caps)] Try.func140 rfl rfl (Nat.le_of_ble_eq_true rfl) rfl fun B hB => ?_
  repeat refine At.seq ?_
  refine At.region tab_ok ?_
  conv => whnf
  repeat refine At.seq ?_
  refine At.region tab_ok ?_
  conv => whnf
  refine ⟨h.sl, ?_⟩
  conv => whnf
  repeat refine At.seq ?_
  refine At.block ?_
  refine At.loopF (fun k : Nat => { N := Try.f140.ntmps, sl := [(0, some (.x v)), (1, some (.x (.func (.func g) #[] caps))), (7, some (.i xs.length)), (8, some (.i k))], gl := [], hp := [], S := [], ws := w }) (fun k => k ≤ xs.length ∧ ∀ j y, j < k → xs[j]? = some y → p y = false) (fun k => xs.length - k)
    (fun w' hw => ⟨0, ⟨Nat.zero_le _, fun j y hj => by omega⟩, Le.of rfl rfl ⟨rfl, rfl, congrArg (Value.int .i64) h.len, rfl, trivial⟩, WF.plain rfl, hw.same rfl rfl rfl⟩) ?_
  intro k ⟨hk, hall⟩
  repeat refine At.seq ?_
  refine At.region tab_ok ?_
  conv => whnf
  repeat refine At.seq ?_
  refine At.cond rfl (fun hc => At.skip ?_) (fun hc => At.exit ?_)
  · have hlt : k < xs.length := by simpa using hc
    obtain ⟨x, hx⟩ : ∃ x, xs[k]? = some x := ⟨_, List.getElem?_eq_getElem hlt⟩
    repeat refine At.seq ?_
    refine At.block ?_
    repeat refine At.seq ?_
    refine At.region tab_ok ?_
    conv => whnf
    repeat refine At.seq ?_
    refine At.region tab_ok ?_
    conv => whnf
    refine ⟨by omega, ?_⟩
    conv => whnf
    refine ⟨by rw [h.len]; omega, ?_⟩
    conv => whnf
    refine ⟨encE x, fun w' hw => h.load (n := 3) hw.fr hx rfl, ?_⟩
    conv => whnf
    refine ans_call hg rfl (fun w' hw => hf x (List.mem_of_getElem? hx) w' hw.fr) ?_
    conv => whnf
    repeat refine At.seq ?_
    refine At.cond rfl (fun hq => ?_) (fun hq => ?_)
    · repeat refine At.seq ?_
      refine At.region tab_ok ?_
      conv => whnf
      repeat refine At.seq ?_
      refine At.ret (At.doneB tab_ok hB _ rfl fun w' hw => ⟨?_, hw.fr⟩)
      rw [idx_some hx hq hall]
    · refine At.skip ?_
      repeat refine At.seq ?_
      refine At.region tab_ok ?_
      conv => whnf
      refine ⟨⟨by omega, by omega⟩, ?_⟩
      conv => whnf
      refine At.next fun w' hw => ⟨k + 1, ⟨by omega, fun j y hj hy => ?_⟩, by omega, Le.of rfl rfl ⟨rfl, rfl, rfl, rfl, trivial⟩, WF.plain rfl, hw.keep [] rfl rfl rfl⟩
      rcases Nat.lt_or_ge j k with hj' | hj'
      · exact hall j y hj' hy
      · obtain rfl : j = k := by omega
        rw [hx] at hy; cases hy; exact hq
  · have hge : k = xs.length := by simp at hc; omega
    subst hge
    repeat refine At.seq ?_
    refine At.region tab_ok ?_
    conv => whnf
    repeat refine At.seq ?_
    refine At.ret (At.doneB tab_ok hB _ rfl fun w' hw => ⟨?_, hw.fr⟩)
    rw [idx_none (fun j y hy => hall j y (List.getElem?_eq_some_iff.1 hy).1 hy)]
theorem containsE_c (xs : List Pl.Edge) (v : Value) (w : World) (h : SlOf edT [] w v xs) (g : Nat) (caps : Array Value) (p : Pl.Edge → Bool) (hg : Body Try.prog g)
    (hf : ∀ x ∈ xs, ∀ w', Ext w w' → Ans Try.prog g (vE x :: caps.toList) (.b (p x)) w') (hno : ∀ x ∈ xs, p x = false) : Ans Try.prog 118 [v, .func (.func g) #[] caps] (.b false) w := by
  refine calls_plainB [.x v, .x (.func (.func g) #[] caps)] Try.func118 rfl rfl (Nat.le_of_ble_eq_true rfl) rfl fun B hB => ?_
  repeat refine At.seq ?_
  refine At.region tab_ok ?_
  conv => whnf
  repeat refine At.seq ?_
  refine At.region tab_ok ?_
  conv => whnf
  refine ans_call b140 rfl (fun w' hw => indexE_c xs [] v w' (h.fr hw.fr) g caps p hg (fun x hx w2 h2 => hf x hx w2 (hw.fr.trans h2))) ?_
  rw [idx_none (fun j y hy => hno y (List.mem_of_getElem? hy))]
  conv => whnf
  repeat refine At.seq ?_
  refine At.ret (At.doneB tab_ok hB _ rfl fun w' hw => ⟨rfl, hw.fr⟩)
/-- A network that is right. -/
structure RightF (E : List Pl.Edge) (n s t : Int) : Prop where
  n2 : 2 ≤ n
  n6 : n ≤ 600
  len : E.length ≤ 4000
  s0 : 0 ≤ s ∧ s < n
  t0 : 0 ≤ t ∧ t < n
  ne : s ≠ t
  e : ∀ e ∈ E, (0 ≤ e.f ∧ e.f < n) ∧ (0 ≤ e.t ∧ e.t < n) ∧ 0 ≤ e.c ∧ e.c ≤ 1099511627776
theorem rightF_c (E : List Pl.Edge) (n s t : Int) (S : List Nat) (v : Value) (w : World) (h : SlOf edT S w v E) (R : RightF E n s t) : Ans Try.prog 86 [v, vI n, vI s, vI t] (.b true) w := by
  replace h := h.avoid (S' := []) (fun b hb => by cases hb)
  have hl := h.len
  have hlen := R.len
  refine calls_plainB [.x v, .i n, .i s, .i t] Try.func86 rfl rfl (Nat.le_of_ble_eq_true rfl) rfl fun B hB => ?_
  repeat refine At.seq ?_
  refine At.region tab_ok ?_
  conv => whnf
  intro b
  conv => whnf
  repeat refine At.seq ?_
  refine At.region tab_ok ?_
  conv => whnf
  intro b2
  conv => whnf
  refine ⟨rfl, ?_⟩
  conv => whnf
  repeat refine At.seq ?_
  refine At.region tab_ok ?_
  conv => whnf
  repeat refine At.seq ?_
  refine At.regionG tab_ok ?_
  conv => whnf
  rw [decide_eq_true R.n2]
  conv => whnf
  rw [decide_eq_true R.n6]
  conv => whnf
  refine ⟨h.sl, ?_⟩
  conv => whnf
  rw [decide_eq_true (show slen v ≤ 4000 by omega)]
  conv => whnf
  refine ans_call b116 (r := .b true) rfl (fun w' hw => by have := node_c s n b w' (hw.box (id := 0) rfl); rw [decide_eq_true R.s0] at this; exact this) ?_
  conv => whnf
  refine ans_call b116 (r := .b true) rfl (fun w' hw => by have := node_c t n b w' (hw.box (id := 0) rfl); rw [decide_eq_true R.t0] at this; exact this) ?_
  conv => whnf
  rw [decide_eq_false R.ne]
  conv => whnf
  refine ans_call b118 (r := .b false) rfl (fun w' hw => containsE_c E v w' (h.fr hw.fr) 117 #[ptr b2] (badB n) b117 (fun x hx w2 h2 => bad_c x n b b2 w2 (LO.holds_ext (o := .box b 3 [.i n]) h2 (hw.box (id := 0) rfl)) (LO.holds_ext (o := .box b2 127 [.x (.func (.func 116) #[] #[ptr b])]) h2 (hw.box (id := 1) rfl)) (fun e => hw.apart (i := 1) (j := 0) rfl rfl (by decide) b2 (by simp [LO.blks]) (by simp [LO.blks, e]))) (fun x hx => by
    obtain ⟨q1, q2, q3, q4⟩ := R.e x hx
    unfold badB
    rw [decide_eq_true q1, decide_eq_true q2, decide_eq_false (by omega), decide_eq_false (by omega)]; rfl)) ?_
  conv => whnf
  repeat refine At.seq ?_
  refine At.ret (At.doneB tab_ok hB _ rfl fun w' hw => ⟨rfl, hw.fr⟩)
end Go.Proofs.Ytjilbkioieicbaa

/- Walks: slices.Repeat of one number; flow's step. -/
namespace Go.Proofs.Ytjilbkioieicbaa
open Go.Vc Rt
set_option linter.unusedVariables false
set_option linter.unusedSimpArgs false
theorem SrcOk.cut {w : World} {u : Value} {size : Nat} {rows : List (List CV)} (h : SrcOk w u size rows) (k : Nat) : SrcN w u size (rows.take k) k := by
  obtain ⟨h1, h2, h3⟩ := h
  refine ⟨fun l hl => h1 l (List.mem_of_mem_take hl), fun l hl => h2 l (List.mem_of_mem_take hl), ?_⟩
  rcases h3 with ⟨a, c, rfl, h4⟩ | ⟨rfl, rfl⟩
  · refine .inl ⟨a, rows.length, c, rfl, by rw [List.length_take]; exact Nat.min_comm _ _, fun j x hx => h4 j x ?_⟩
    rw [flatten_take h1] at hx
    simp only [dens, List.map_take] at hx ⊢
    rw [List.getElem?_take] at hx
    split at hx
    · exact hx
    · cases hx
  · exact .inr ⟨0, rfl, by simp⟩
theorem row_src {w : World} {v : Value} {E : Nat} {xs : List Int} (h : (LO.row v E 1 (xs.map encI)).holds w) (hs : xs.length ≤ 1000000) : SrcOk w v 1 (xs.map encI) :=
  (SlOf.of_row (hl := fun _ => rfl) (S := []) (enc := encI) h (fun _ _ hb => by cases hb) (by omega)).src (fun _ => rfl)
theorem subV_self {a : Option Addr} {n c : Nat} {size : Nat} {hi : Int} (e : hi = n) (hn : a = none → c = 0) : subV (.slice a n c) size 0 hi = .slice a n c := by
  subst e
  simp only [subV, Int.toNat_zero, Nat.zero_mul, Int.toNat_natCast, Nat.sub_zero]
  congr 1
  split
  · rfl
  · cases a with
    | none => rfl
    | some a => simp [Addr.add]
def fillL (n k : Nat) : List Int := List.replicate k (-1) ++ List.replicate (n - k) 0
theorem fillL_len {n k : Nat} (h : k ≤ n) : (fillL n k).length = n := by simp [fillL]; omega
theorem fill_splice {n k m : Nat} (h : k + m ≤ n) : spliceR ((fillL n k).map encI) ((List.replicate m (-1)).map encI) k = (fillL n (k + m)).map encI := by
  unfold spliceR fillL
  rw [← List.map_take, ← List.map_drop, ← List.map_append, ← List.map_append]
  congr 1
  rw [List.take_left' (by simp), List.length_map, List.length_replicate, List.drop_append, List.drop_eq_nil_of_le (by simp), List.nil_append, List.length_replicate, List.drop_replicate, List.replicate_append_replicate]
  congr 2
  omega
theorem fill_take {n k m : Nat} (h : k ≤ n) (hm : m ≤ k) : ((fillL n k).map encI).take m = (List.replicate m (-1)).map encI := by
  unfold fillL
  rw [← List.map_take, List.take_append_of_le_length (by simp; omega), List.take_replicate, Nat.min_eq_left hm]
theorem repeat_c (n : Nat) (S : List Nat) (v : Value) (w : World) (h : SlOf intT S w v [-1]) (hn : 1 ≤ n) (hn2 : n ≤ 1000) : AnsR Try.prog 119 [v, vI n] [.row 3 1 ((List.replicate n (-1)).map encI)] w := by
  replace h := h.avoid (S' := []) (fun b hb => by cases hb)
  have hl : slen v = 1 := h.len
  refine calls_plainB [.x v, .i n] Try.func119 rfl rfl (Nat.le_of_ble_eq_true rfl) rfl fun B hB => ?_
  repeat refine At.seq ?_
  refine At.region tab_ok ?_
  conv => whnf
  repeat refine At.seq ?_
  refine At.region tab_ok ?_
  conv => whnf
  repeat refine At.seq ?_
  refine At.cond rfl (fun hq => ?_) (fun hq => ?_)
  · have := of_decide_eq_true hq; omega
  refine At.skip ?_
  repeat refine At.seq ?_
  refine At.region tab_ok ?_
  conv => whnf
  refine ⟨h.sl, ?_⟩
  conv => whnf
  rw [hl]
  conv => whnf
  refine ⟨by omega, ?_⟩
  conv => whnf
  refine ⟨⟨by omega, by omega⟩, ?_⟩
  conv => whnf
  refine ⟨by omega, ?_⟩
  conv => whnf
  refine ⟨⟨by omega, by omega⟩, ?_⟩
  conv => whnf
  refine ans_call b141 rfl (fun w' _ => mul_c n (by omega) (by omega) w') ?_
  conv => whnf
  repeat refine At.seq ?_
  refine At.regionG tab_ok ?_
  conv => whnf
  rw [decide_eq_false (show ¬ (9223372036854775807 : Int) < n by omega)]
  conv => whnf
  repeat refine At.seq ?_
  refine At.cond (t := false) rfl (fun hq => by cases hq) (fun hq => At.skip ?_)
  repeat refine At.seq ?_
  refine At.region tab_ok ?_
  conv => whnf
  refine ⟨⟨by omega, by omega⟩, ?_⟩
  conv => whnf
  refine ⟨⟨rfl, by omega, by show (n : Int) * 8 ≤ _; omega⟩, ?_⟩
  conv => whnf
  intro vr
  conv => whnf
  have hz : List.replicate (n : Int).toNat [CV.i 0] = (fillL n 0).map encI := by simp [fillL, encI]
  rw [hz]
  repeat refine At.seq ?_
  refine At.reshapeH fun w1 hw1 => ?_
  obtain ⟨a, c, hve, hlc, hnil⟩ := row_slice (hw1.row (id := 0) rfl)
  rw [List.length_map, fillL_len (Nat.zero_le _)] at hlc hnil hve
  subst hve
  refine ⟨{ N := Try.f119.ntmps, sl := [(0, some (.x v)), (7, some (.x (.slice a n c)))], gl := [], hp := [(0, .row (.slice a n c) 3 1 ((fillL n 0).map encI))], S := [], ws := w }, Le.of rfl rfl ⟨rfl, rfl, trivial⟩, hw1.same rfl rfl rfl, trivial, ⟨(nopI _).okH, trivial⟩, ?_⟩
  have hsl : isSl (.slice a n c) := ⟨a, n, c, rfl, hnil, hlc⟩
  have hslen : slen (.slice a n c) = n := by
    cases a with
    | none => simp [slen, (hnil rfl).1]
    | some a => rfl
  clear hw1
  refine At.region tab_ok ?_
  conv => whnf
  refine ⟨0, 0, [[.i (-1)]], ?_⟩
  conv => whnf
  refine ⟨⟨(subV_self (by rw [List.length_map, fillL_len (Nat.zero_le _)]) (fun e => (hnil e).2)).symm, by rw [List.length_map, fillL_len (Nat.zero_le _)]; simpa using hn, fun w' hw => ?_, fun l hl c hc => ?_⟩, ?_⟩
  · have := SrcOk.toN ((h.fr hw.fr).src (fun _ => rfl)) (k := n) (by simpa using hn)
    rw [List.length_map, fillL_len (Nat.zero_le _), Nat.sub_zero]
    exact this
  · simp at hl; subst hl; simp at hc; subst hc; rfl
  have hs1 : spliceR ((fillL n 0).map encI) [[.i (-1)]] 0 = (fillL n 1).map encI := fill_splice (n := n) (k := 0) (m := 1) (by omega)
  rw [hs1]
  conv => whnf
  repeat refine At.seq ?_
  refine At.block ?_
  refine At.loopH (fun k : Nat => { N := Try.f119.ntmps, sl := [(7, some (.x ((.slice a n c)))), (8, some (.i k))], gl := [], hp := [(0, .row (.slice a n c) 3 1 ((fillL n k).map encI))], S := [], ws := w }) (fun k : Nat => 1 ≤ k ∧ k ≤ n) (fun k : Nat => n - k)
    (fun w' hw => ⟨1, ⟨Nat.le_refl _, hn⟩, Le.of rfl rfl ⟨rfl, rfl, trivial⟩, hw.keep [0] rfl rfl rfl, trivial, ⟨(nopI _).okH, trivial⟩⟩) ?_
  rintro k ⟨hk1, hk⟩
  repeat refine At.seq ?_
  refine At.region tab_ok ?_
  conv => whnf
  refine ⟨hsl, ?_⟩
  conv => whnf
  rw [hslen]
  repeat refine At.seq ?_
  refine At.cond rfl (fun hc => At.skip ?_) (fun hc => At.exit ?_)
  · have hlt : k < n := by have := of_decide_eq_true hc; omega
    repeat refine At.seq ?_
    refine At.block ?_
    repeat refine At.seq ?_
    refine At.planG tab_ok mixed [] (.take 0 (.take 1 (.take 2 (.take 3 (.take 4 (.take 5 (.take 6 (.br 7 (.take 8 (.take 9 (.done))) (.nob))))))))) (by kernel_rfl) (by kernel_rfl) trivial ?_
    conv => whnf
    refine ⟨hsl, ?_⟩
    conv => whnf
    refine ⟨by omega, ?_⟩
    conv => whnf
    refine ⟨by omega, ?_⟩
    conv => whnf
    refine ⟨by omega, ?_⟩
    conv => whnf
    refine ⟨hsl, ?_⟩
    conv => whnf
    refine ⟨by omega, ?_⟩
    conv => whnf
    refine ⟨by omega, ?_⟩
    conv => whnf
    refine ⟨by omega, ?_⟩
    conv => whnf
    refine ⟨?_, trivial⟩
    conv => whnf
    have hmin : k + min k (n - k) ≤ n := by omega
    refine ⟨0, k, (List.replicate (min k (n - k)) (-1)).map encI, ?_⟩
    conv => whnf
    refine ⟨⟨by rw [hslen, List.length_map, fillL_len hk], by rw [List.length_map, List.length_map, fillL_len hk, List.length_replicate]; exact hmin, fun w' hw => ?_, nopI _⟩, ?_⟩
    · have h1 := row_prefix (hw.row (id := 0) rfl) (n := k) (by rw [List.length_map, fillL_len hk]; exact hk)
      rw [fill_take hk (Nat.le_refl _)] at h1
      have h2 := SrcOk.cut (row_src h1 (by simp; omega)) (n - k)
      rw [← List.map_take, List.take_replicate, Nat.min_comm] at h2
      rw [List.length_map, fillL_len hk]
      exact h2
    rw [fill_splice hmin]
    conv => whnf
    refine ⟨⟨trivial, fun w' hw => hw.fr⟩, ?_⟩
    conv => whnf
    refine ⟨⟨by rw [List.length_map, List.length_replicate]; omega, by rw [List.length_map, List.length_replicate]; omega⟩, ?_⟩
    conv => whnf
    refine At.nextH fun w' hw => ⟨k + min k (n - k), ⟨by omega, hmin⟩, by omega, Le.of rfl rfl ⟨rfl, congrArg (Value.int .i64) (by rw [List.length_map, List.length_replicate]; omega), trivial⟩, hw.keep [0] rfl rfl rfl, trivial, ⟨(nopI _).okH, trivial⟩⟩
  have hke : k = n := by have := of_decide_eq_false hc; omega
  subst hke
  have hf : fillL k k = List.replicate k (-1) := by simp [fillL]
  rw [hf]
  repeat refine At.seq ?_
  refine At.region tab_ok ?_
  conv => whnf
  repeat refine At.seq ?_
  refine At.ret (At.doneB tab_ok hB _ rfl fun w' hw => ansR_row (id := 0) hw rfl rfl rfl)
end Go.Proofs.Ytjilbkioieicbaa

/- Walks: flow's step and reach. -/
namespace Go.Proofs.Ytjilbkioieicbaa
open Go.Vc Rt
set_option linter.unusedVariables false
set_option linter.unusedSimpArgs false
def netC (ve vF vO vL vX : Value) : List CV := [.x ve, .x vF, .x vO, .x vL, .x vX]
def capsOk (E : List Pl.Edge) : Prop := ∀ e ∈ E, 0 ≤ e.c ∧ e.c ≤ 1099511627776
theorem step_c (E : List Pl.Edge) (F : List Int) (a : Int) (b : Nat) (ve vF vO vL vX : Value) (w : World) (hb : (LO.box b 133 (netC ve vF vO vL vX)).holds w) (hE : SlOf edT [b] w ve E) (hF : SlOf intT [b] w vF F)
    (h0 : 0 ≤ a) (h1 : a / 2 < E.length) (hEl : E.length ≤ 4000) (hl : F.length = E.length) (hbd : Pl.Bnd E F) (hc : capsOk E) : Ans Try.prog 120 [ptr b, vI a] (.tup [.c (.i (Pl.dest E a)), .c (.i (Pl.room E F a))]) w := by
  have hh : Holds (St.enter Try.f120.ntmps [.s (.c (.p 0 b 0)), .i a] [(0, .box b 133 (netC ve vF vO vL vX))] [b] w) w := enter_objs (fun o ho => by simp at ho; subst ho; exact hb) (by simp [LO.blks])
  have lE := hE.len
  have lF := hF.len
  obtain ⟨e, he⟩ : ∃ e, E[(a / 2).toNat]? = some e := ⟨_, List.getElem?_eq_getElem (by omega)⟩
  obtain ⟨x, hx⟩ : ∃ x, F[(a / 2).toNat]? = some x := ⟨_, List.getElem?_eq_getElem (by omega)⟩
  have q1 := hbd _ e x he hx
  have q2 := hc e (List.mem_of_getElem? he)
  have hd : Pl.dest E a = if a % 2 = 0 then e.t else e.f := by simp [Pl.dest, he]
  have hr : Pl.room E F a = if a % 2 = 0 then e.c - x else x := by simp [Pl.room, he, hx]
  refine calls_atB _ _ _ Try.func120 rfl rfl (Nat.le_of_ble_eq_true rfl) (WF.objs hh ⟨⟨_, _, rfl⟩, trivial⟩ trivial) hh fun B hB => ?_
  repeat refine At.seq ?_
  refine At.region tab_ok ?_
  conv => whnf
  repeat refine At.seq ?_
  refine At.region tab_ok ?_
  conv => whnf
  refine ⟨by omega, ?_⟩
  conv => whnf
  refine ⟨by omega, ?_⟩
  conv => whnf
  refine ⟨⟨by omega, by omega⟩, ?_⟩
  conv => whnf
  refine ⟨by omega, ?_⟩
  conv => whnf
  refine ⟨by omega, ?_⟩
  conv => whnf
  refine ⟨encE e, fun w' hw => hE.loadI (n := 3) hw.fr (by omega) he rfl, ?_⟩
  conv => whnf
  intro be
  conv => whnf
  repeat refine At.seq ?_
  refine At.region tab_ok ?_
  conv => whnf
  refine ⟨by omega, ?_⟩
  conv => whnf
  refine ⟨by omega, ?_⟩
  conv => whnf
  repeat refine At.seq ?_
  refine At.cond rfl (fun hq => ?_) (fun hq => ?_)
  · have hz : a % 2 = 0 := of_decide_eq_true hq
    rw [if_pos hz] at hd hr
    rw [hd, hr] at hB
    repeat refine At.seq ?_
    refine At.draw tab_ok mixed (by kernel_rfl) ?_
    conv => whnf
    refine ⟨by omega, ?_⟩
    conv => whnf
    refine ⟨by omega, ?_⟩
    conv => whnf
    refine ⟨⟨by omega, by omega⟩, ?_⟩
    conv => whnf
    refine ⟨by omega, ?_⟩
    conv => whnf
    refine ⟨by omega, ?_⟩
    conv => whnf
    refine ⟨encI x, fun w' hw => hF.loadI (n := 1) hw.fr (by omega) hx rfl, ?_⟩
    conv => whnf
    refine ⟨⟨by omega, by omega⟩, ?_⟩
    conv => whnf
    repeat refine At.seq ?_
    refine At.ret (At.doneB tab_ok hB _ rfl fun w' hw => ⟨rfl, hw.fr.ext fun c hc => ?_⟩)
    rw [List.mem_singleton.1 hc]; exact (hw.box (id := 0) rfl).trans hb.symm
  · have hz : ¬ a % 2 = 0 := of_decide_eq_false hq
    rw [if_neg hz] at hd hr
    rw [hd, hr] at hB
    refine At.skip ?_
    repeat refine At.seq ?_
    refine At.draw tab_ok mixed (by kernel_rfl) ?_
    conv => whnf
    refine ⟨by omega, ?_⟩
    conv => whnf
    refine ⟨by omega, ?_⟩
    conv => whnf
    refine ⟨⟨by omega, by omega⟩, ?_⟩
    conv => whnf
    refine ⟨by omega, ?_⟩
    conv => whnf
    refine ⟨by omega, ?_⟩
    conv => whnf
    refine ⟨encI x, fun w' hw => hF.loadI (n := 1) hw.fr (by omega) hx rfl, ?_⟩
    conv => whnf
    repeat refine At.seq ?_
    refine At.ret (At.doneB tab_ok hB _ rfl fun w' hw => ⟨rfl, hw.fr.ext fun c hc => ?_⟩)
    rw [List.mem_singleton.1 hc]; exact (hw.box (id := 0) rfl).trans hb.symm
end Go.Proofs.Ytjilbkioieicbaa

/- Walks: flow's reach. -/
namespace Go.Proofs.Ytjilbkioieicbaa
open Go.Vc Rt
set_option linter.unusedVariables false
set_option linter.unusedSimpArgs false
def lowL (n : Nat) (L : List Int) : Prop := ∀ x ∈ L, -1 ≤ x ∧ x ≤ n
theorem lv_at {L : List Int} {v : Int} (h0 : 0 ≤ v) (h1 : v < L.length) : L[v.toNat]? = some (Pl.lv L v) := by
  unfold Pl.lv; rw [List.getElem?_eq_getElem (by omega)]; rfl
theorem map_set' {L : List Int} {v x : Int} : (L.map encI).set v.toNat [.i x] = (L.set v.toNat x).map encI := by rw [List.map_set]; rfl
theorem reach_c (E : List Pl.Edge) (F : List Int) (O : List (List Int)) (n : Nat) (s : Int) (b : Nat) (ve vF vO vL0 vX : Value) (w : World) (hb : (LO.box b 133 (netC ve vF vO vL0 vX)).holds w) (hE : SlOf edT [b] w ve E) (hF : SlOf intT [b] w vF F) (hO : SlOf (slT intT) [b] w vO O)
    (hA : Pl.Arcs E O n) (hn : n ≤ 600) (hs : 0 ≤ s ∧ s < n) (hEl : E.length ≤ 4000) (hl : F.length = E.length) (hbd : Pl.Bnd E F) (hcap : capsOk E) (hOl : ∀ l ∈ O, l.length ≤ 100000) :
    Calls Try.prog 88 #[ptr b, vI s] w (fun e w' => e = .returned (.tuple #[]) ∧ ∃ vL L, Pl.Reached E O F s L ∧ L.length = n ∧ lowL n L ∧ (LO.box b 133 (netC ve vF vO vL vX)).holds w' ∧ (LO.row vL 3 1 (L.map encI)).holds w' ∧ (∀ c ∈ blkOf vL, w.heap.size ≤ c) ∧ Fr [b] w w') := by
  have hh : Holds (St.enter Try.f88.ntmps [.s (.c (.p 0 b 0)), .i s] [(0, .box b 133 (netC ve vF vO vL0 vX))] [b] w) w := enter_objs (fun o ho => by simp at ho; subst ho; exact hb) (by simp [LO.blks])
  have lO := hO.len
  have hOn := hA.len
  refine calls_atB _ _ _ Try.func88 rfl rfl (Nat.le_of_ble_eq_true rfl) (WF.objs hh ⟨⟨_, _, rfl⟩, trivial⟩ trivial) hh fun B hB => ?_
  repeat refine At.seq ?_
  refine At.region tab_ok ?_
  conv => whnf
  intro v1
  conv => whnf
  refine ⟨hO.sl, ?_⟩
  conv => whnf
  rw [lO, hOn]
  refine ansR_call b119 (rdI _) (fun w' hw => repeat_c n [] v1 w' (SlOf.of_row (hl := fun _ => rfl) (enc := fun n => [.i n]) (xs := [-1]) (hw.row (id := 1) rfl) (fun _ _ hb => by cases hb) (by simp)) (by omega) (by omega)) ?_
  intro vL
  conv => whnf
  have hvL : True := trivial
  have hsg : (List.replicate n (-1 : Int))[s.toNat]? = some (-1) := by rw [List.getElem?_replicate, if_pos (by omega)]
  repeat refine At.seq ?_
  refine At.region tab_ok ?_
  conv => whnf
  refine ⟨rfl, ?_⟩
  conv => whnf
  refine ⟨by omega, ?_⟩
  conv => whnf
  refine ⟨by simp; omega, ?_⟩
  conv => whnf
  refine ⟨encI (-1), ⟨rfl, rfl, by omega, by rw [List.getElem?_map, hsg]; rfl⟩, ?_⟩
  conv => whnf
  rw [map_set']
  repeat refine At.seq ?_
  refine At.region tab_ok ?_
  conv => whnf
  intro vq0
  conv => whnf
  repeat refine At.seq ?_
  refine At.block ?_
  refine At.loopH (fun p : Value × List Int × List Int => { N := Try.f88.ntmps, sl := [(0, some (.s (.c (.p 0 b 0)))), (4, some (.s (.c (.o 3 p.1))))], gl := [], hp := [(3, .row p.1 3 1 (p.2.1.map encI)), (2, .row vL 3 1 (p.2.2.map encI)), (0, .box b 133 [.x ve, .x vF, .x vO, .o 2 vL, .x vX])], S := [b], ws := w }) (fun p : Value × List Int × List Int => Pl.Reaching E O F s n p.2.1 (-1) 0 p.2.2 ∧ lowL n p.2.2 ∧ 2 * Pl.neg p.2.2 + p.2.1.length ≤ 2 * n + 1) (fun p : Value × List Int × List Int => 2 * Pl.neg p.2.2 + p.2.1.length)
    (fun w' hw => ⟨(vq0, [s], (List.replicate n (-1)).set s.toNat 0), ⟨Pl.Reaching.start hA hs, fun x hx => ?_, ?_⟩, Le.of rfl rfl ⟨rfl, rfl, trivial⟩, hw.keep [3, 2, 0] rfl rfl rfl, ⟨⟨_, _, rfl⟩, ⟨_, _, _, rfl⟩, trivial⟩, ⟨(nopI _).okH, (nopI _).okH, fun c hc => by simp at hc; rcases hc with rfl | rfl | rfl | rfl | rfl <;> first | exact ⟨_, _, _, rfl⟩ | exact ⟨_, _, rfl⟩ | trivial, trivial⟩⟩) ?_
  · rcases List.mem_or_eq_of_mem_set hx with h | h
    · rw [List.eq_of_mem_replicate h]; omega
    · omega
  · have := Pl.neg_le ((List.replicate n (-1)).set s.toNat 0)
    rw [List.length_set, List.length_replicate] at this
    simp only [List.length_cons, List.length_nil]; omega
  rintro ⟨vq, Q, L⟩ ⟨hre, hlow, hbq⟩
  simp only at hre hlow hbq ⊢
  repeat refine At.seq ?_
  refine At.region tab_ok ?_
  conv => whnf
  refine ⟨rfl, ?_⟩
  conv => whnf
  repeat refine At.seq ?_
  refine At.cond rfl (fun hc => At.skip ?_) (fun hc => At.exit ?_)
  · cases hQ : Q with
    | nil => rw [hQ] at hc; simp at hc
    | cons k Q1 =>
      rw [hQ] at hre hbq
      simp only [List.length_cons] at hbq
      have hkq := hre.q k (by simp)
      have hpop := hre.pop
      have hLl := hre.len
      obtain ⟨lk, hlk⟩ : ∃ l, O[k.toNat]? = some l := ⟨_, List.getElem?_eq_getElem (by omega)⟩
      obtain ⟨cl, ⟨vl, rfl, hvl⟩, hcl⟩ := hO.at hlk
      have lvl := hvl.len
      have hlkl := hOl lk (List.mem_of_getElem? hlk)
      repeat refine At.seq ?_
      refine At.block ?_
      repeat refine At.seq ?_
      refine At.region tab_ok ?_
      conv => whnf
      refine ⟨rfl, ?_⟩
      conv => whnf
      refine ⟨by omega, ?_⟩
      conv => whnf
      refine ⟨by simp, ?_⟩
      conv => whnf
      refine ⟨encI k, ⟨rfl, rfl, by omega, rfl⟩, ?_⟩
      conv => whnf
      repeat refine At.seq ?_
      refine At.region tab_ok ?_
      conv => whnf
      refine ⟨rfl, ?_⟩
      conv => whnf
      refine ⟨by omega, ?_⟩
      conv => whnf
      refine ⟨by simp; omega, ?_⟩
      conv => whnf
      refine ⟨by left; exact Int.le_refl _, ?_⟩
      conv => whnf
      repeat refine At.seq ?_
      refine At.reshapeH fun w2 hw2 => ⟨{ N := Try.f88.ntmps, sl := [(0, some (.s (.c (.p 0 b 0)))), (4, some (.s (.c (.o 3 (subV vq 1 1 ((k :: Q1).map encI).length))))), (5, some (.i k))], gl := [], hp := [(3, .row (subV vq 1 1 ((k :: Q1).map encI).length) 3 1 (Q1.map encI)), (2, .row vL 3 1 (L.map encI)), (0, .box b 133 [.x ve, .x vF, .x vO, .o 2 vL, .x vX])], S := [b], ws := w },
        Le.of rfl rfl ⟨rfl, rfl, rfl, trivial⟩, (hw2.setG (id := 3) rfl (Fr.refl _ _) (row_suffix (k := 1) (hw2.row (id := 3) rfl) (by simp) rfl rfl) (fun c hc => .inl (blkOf_sub c hc))).keep [3, 2, 0] rfl rfl rfl, ⟨⟨_, _, rfl⟩, ⟨_, _, _, rfl⟩, trivial⟩, ⟨(nopI _).okH, (nopI _).okH, fun c hc => by simp at hc; rcases hc with rfl | rfl | rfl | rfl | rfl <;> first | exact ⟨_, _, _, rfl⟩ | exact ⟨_, _, rfl⟩ | trivial, trivial⟩, ?_⟩
      generalize subV vq 1 1 ((k :: Q1).map encI).length = vq1
      refine At.region tab_ok ?_
      conv => whnf
      refine ⟨by omega, ?_⟩
      conv => whnf
      refine ⟨by omega, ?_⟩
      conv => whnf
      refine ⟨[.x vl], fun w' hw => hcl w' hw.fr, ?_⟩
      conv => whnf
      refine ⟨hvl.sl, ?_⟩
      conv => whnf
      repeat refine At.seq ?_
      refine At.block ?_
      refine At.loopH (fun p : Nat × Value × List Int × List Int => { N := Try.f88.ntmps, sl := [(0, some (.s (.c (.p 0 b 0)))), (4, some (.s (.c (.o 3 p.2.1)))), (5, some (.i k)), (42, some (.x vl)), (43, some (.i ((lk.length : Int)))), (44, some (.i p.1))], gl := [], hp := [(3, .row p.2.1 3 1 (p.2.2.1.map encI)), (2, .row vL 3 1 (p.2.2.2.map encI)), (0, .box b 133 [.x ve, .x vF, .x vO, .o 2 vL, .x vX])], S := [b], ws := w }) (fun p : Nat × Value × List Int × List Int => p.1 ≤ lk.length ∧ Pl.Reaching E O F s n p.2.2.1 k p.1 p.2.2.2 ∧ lowL n p.2.2.2 ∧ 0 ≤ Pl.lv p.2.2.2 k ∧ 2 * Pl.neg p.2.2.2 + p.2.2.1.length ≤ 2 * Pl.neg L + Q1.length) (fun p : Nat × Value × List Int × List Int => lk.length - p.1)
        (fun w' hw => ⟨(0, vq1, Q1, L), ⟨Nat.zero_le _, hpop, hlow, hkq.2.2, Nat.le_refl _⟩, Le.of rfl rfl ⟨rfl, rfl, rfl, rfl, congrArg (Value.int .i64) (by simp only [lvl]), rfl, trivial⟩, hw.keep [3, 2, 0] rfl rfl rfl, ⟨⟨_, _, rfl⟩, ⟨_, _, _, rfl⟩, trivial⟩, ⟨(nopI _).okH, (nopI _).okH, fun c hc => by simp at hc; rcases hc with rfl | rfl | rfl | rfl | rfl <;> first | exact ⟨_, _, _, rfl⟩ | exact ⟨_, _, rfl⟩ | trivial, trivial⟩⟩) ?_
      rintro ⟨j, vq2, Q2, L2⟩ ⟨hj, hre2, hlow2, hk0, hmea⟩
      simp only at hj hre2 hlow2 hk0 hmea ⊢
      have hL2 := hre2.len
      repeat refine At.seq ?_
      refine At.region tab_ok ?_
      conv => whnf
      repeat refine At.seq ?_
      refine At.cond rfl (fun hc => At.skip ?_) (fun hc => At.exit ?_)
      · have hlta : j < lk.length := by have := of_decide_eq_true hc; (try simp only [List.length_map] at this); omega
        obtain ⟨a, ha⟩ : ∃ x, lk[j]? = some x := ⟨_, List.getElem?_eq_getElem hlta⟩
        have ham := List.mem_of_getElem? ha
        have haj : lk[(j : Int).toNat]? = some a := by rw [Int.toNat_natCast]; exact ha
        obtain ⟨ha0, ha1, _⟩ := hA.ok k.toNat lk a hlk ham
        obtain ⟨e, he⟩ : ∃ e, E[(a / 2).toNat]? = some e := ⟨_, List.getElem?_eq_getElem (by omega)⟩
        have hin := hA.edge e (List.mem_of_getElem? he)
        have hdr : 0 ≤ Pl.dest E a ∧ Pl.dest E a < n := by simp only [Pl.dest, he]; split <;> omega
        have hgd := lv_at (L := L2) hdr.1 (by omega)
        have hgk := lv_at (L := L2) hkq.1 (by omega)
        have hlk2 := hlow2 _ (List.mem_of_getElem? hgk)
        have hskip : (Pl.room E F a ≤ 0 ∨ 0 ≤ Pl.lv L2 (Pl.dest E a)) → Pl.Reaching E O F s n Q2 k ((j : Int) + 1) L2 := fun h => hre2.skip hlk (by omega) haj h
        have hlab := fun h1 h2 => hre2.label hA hkq.1 hlk (by omega) haj h1 h2 hk0
        repeat refine At.seq ?_
        refine At.block ?_
        repeat refine At.seq ?_
        refine At.region tab_ok ?_
        conv => whnf
        refine ⟨by omega, ?_⟩
        conv => whnf
        refine ⟨by omega, ?_⟩
        conv => whnf
        refine ⟨encI a, fun w' hw => hvl.load (n := 1) hw.fr ha rfl, ?_⟩
        conv => whnf
        repeat refine At.seq ?_
        refine At.region tab_ok ?_
        conv => whnf
        refine ans_call b120 rfl (fun w' hw => step_c E F a b ve vF vO vL vX w' (hw.box (id := 0) (cells := [.x ve, .x vF, .x vO, .o 2 vL, .x vX]) rfl) (hE.fr hw.fr) (hF.fr hw.fr) ha0 ha1 hEl hl hbd hcap) ?_
        conv => whnf
        generalize Pl.dest E a = d at *
        generalize Pl.room E F a = r at *
        repeat refine At.seq ?_
        refine At.regionG tab_ok ?_
        conv => whnf
        by_cases hr : 0 < r
        · rw [decide_eq_true hr]
          conv => whnf
          refine ⟨rfl, ?_⟩
          conv => whnf
          refine ⟨by omega, ?_⟩
          conv => whnf
          refine ⟨by rw [List.length_map]; omega, ?_⟩
          conv => whnf
          refine ⟨encI (Pl.lv L2 d), ⟨rfl, rfl, by omega, by rw [List.getElem?_map, hgd]; rfl⟩, ?_⟩
          conv => whnf
          by_cases hd : Pl.lv L2 d < 0
          · obtain ⟨_, hre3, hneg⟩ := hlab hr hd
            rw [decide_eq_true hd]
            conv => whnf
            repeat refine At.seq ?_
            refine At.cond (t := true) rfl (fun hq => ?_) (fun hq => by cases hq)
            repeat refine At.seq ?_
            refine At.planG tab_ok mixed [(0, .box b 133 [.x ve, .x vF, .x vO, .o 2 vL, .x vX])] (.take 0 (.take 1 (.take 2 (.take 3 (.take 4 (.take 5 (.take 6 (.take 7 (.take 8 (.take 9 (.br 10 (.br 11 (.take 12 (.br 13 (.br 14 (.done) (.nob)) (.nob))) (.nob)) (.nob)))))))))))) (by kernel_rfl) (by kernel_rfl) ⟨rfl, trivial⟩ ?_
            conv => whnf
            refine ⟨?_, trivial⟩
            conv => whnf
            refine ⟨rfl, ?_⟩
            conv => whnf
            refine ⟨by omega, ?_⟩
            conv => whnf
            refine ⟨by rw [List.length_map]; omega, ?_⟩
            conv => whnf
            refine ⟨⟨⟨rfl, trivial⟩, fun w' hw => hw.fr⟩, ?_⟩
            conv => whnf
            refine ⟨?_, trivial⟩
            conv => whnf
            refine ⟨encI (Pl.lv L2 k), ⟨rfl, rfl, by omega, by rw [List.getElem?_map, hgk]; rfl⟩, ?_⟩
            conv => whnf
            refine ⟨⟨⟨rfl, trivial⟩, fun w' hw => hw.fr⟩, ?_⟩
            conv => whnf
            refine ⟨⟨by omega, by omega⟩, ?_⟩
            conv => whnf
            refine ⟨?_, trivial⟩
            conv => whnf
            refine ⟨rfl, ?_⟩
            conv => whnf
            refine ⟨by omega, ?_⟩
            conv => whnf
            refine ⟨by rw [List.length_map]; omega, ?_⟩
            conv => whnf
            refine ⟨⟨⟨rfl, trivial⟩, fun w' hw => hw.fr⟩, ?_⟩
            conv => whnf
            refine ⟨?_, trivial⟩
            conv => whnf
            refine ⟨encI (Pl.lv L2 d), ⟨rfl, rfl, by omega, by rw [List.getElem?_map, hgd]; rfl⟩, ?_⟩
            conv => whnf
            refine ⟨⟨⟨rfl, trivial⟩, fun w' hw => hw.fr⟩, ?_⟩
            conv => whnf
            rw [map_set']
            repeat refine At.seq ?_
            refine At.region tab_ok ?_
            conv => whnf
            intro u1
            conv => whnf
            refine ⟨rfl, ?_⟩
            conv => whnf
            refine ⟨⟨rfl, by rw [List.length_map]; show (_ + 1) * 8 ≤ _; omega⟩, ?_⟩
            conv => whnf
            intro vq3
            conv => whnf
            have hap : Q2.map encI ++ [[CV.i d]] = (Q2 ++ [d]).map encI := by rw [List.map_append]; rfl
            rw [hap]
            repeat refine At.seq ?_
            refine At.region tab_ok ?_
            conv => whnf
            refine ⟨⟨by omega, by omega⟩, ?_⟩
            conv => whnf
            have htop := hre3.top (Pl.lv L2 k + 1) (by
              rw [List.mem_iff_getElem?]; exact ⟨d.toNat, by rw [List.getElem?_set]; simp; omega⟩)
            refine At.nextH fun w' hw => ⟨(j + 1, vq3, Q2 ++ [d], L2.set d.toNat (Pl.lv L2 k + 1)), ⟨by simp only; omega, hre3, fun x hx => ?_, ?_, by simp only [List.length_append, List.length_cons, List.length_nil]; omega⟩, by simp only; omega, Le.of rfl rfl ⟨rfl, rfl, rfl, rfl, rfl, rfl, trivial⟩, hw.keep [3, 2, 0] rfl rfl rfl, ⟨⟨_, _, rfl⟩, ⟨_, _, _, rfl⟩, trivial⟩, ⟨(nopI _).okH, (nopI _).okH, fun c hc => by simp at hc; rcases hc with rfl | rfl | rfl | rfl | rfl <;> first | exact ⟨_, _, _, rfl⟩ | exact ⟨_, _, rfl⟩ | trivial, trivial⟩⟩
            · rcases List.mem_or_eq_of_mem_set hx with h | h
              · exact hlow2 x h
              · omega
            · simp only
              rw [Pl.lv_set L2 d.toNat _ (by omega)]
              split <;> omega
          · rw [decide_eq_false hd]
            conv => whnf
            repeat refine At.seq ?_
            refine At.cond (t := false) rfl (fun hq => by cases hq) (fun hq => At.skip ?_)
            repeat refine At.seq ?_
            refine At.region tab_ok ?_
            conv => whnf
            refine ⟨⟨by omega, by omega⟩, ?_⟩
            conv => whnf
            refine At.nextH fun w' hw => ⟨(j + 1, vq2, Q2, L2), ⟨by simp only; omega, hskip (.inr (by omega)), hlow2, hk0, hmea⟩, by simp only; omega, Le.of rfl rfl ⟨rfl, rfl, rfl, rfl, rfl, rfl, trivial⟩, hw.keep [3, 2, 0] rfl rfl rfl, ⟨⟨_, _, rfl⟩, ⟨_, _, _, rfl⟩, trivial⟩, ⟨(nopI _).okH, (nopI _).okH, fun c hc => by simp at hc; rcases hc with rfl | rfl | rfl | rfl | rfl <;> first | exact ⟨_, _, _, rfl⟩ | exact ⟨_, _, rfl⟩ | trivial, trivial⟩⟩
        · rw [decide_eq_false hr]
          conv => whnf
          repeat refine At.seq ?_
          refine At.cond (t := false) rfl (fun hq => by cases hq) (fun hq => At.skip ?_)
          repeat refine At.seq ?_
          refine At.region tab_ok ?_
          conv => whnf
          refine ⟨⟨by omega, by omega⟩, ?_⟩
          conv => whnf
          refine At.nextH fun w' hw => ⟨(j + 1, vq2, Q2, L2), ⟨by simp only; omega, hskip (.inl (by omega)), hlow2, hk0, hmea⟩, by simp only; omega, Le.of rfl rfl ⟨rfl, rfl, rfl, rfl, rfl, rfl, trivial⟩, hw.keep [3, 2, 0] rfl rfl rfl, ⟨⟨_, _, rfl⟩, ⟨_, _, _, rfl⟩, trivial⟩, ⟨(nopI _).okH, (nopI _).okH, fun c hc => by simp at hc; rcases hc with rfl | rfl | rfl | rfl | rfl <;> first | exact ⟨_, _, _, rfl⟩ | exact ⟨_, _, rfl⟩ | trivial, trivial⟩⟩
      have hje : j = lk.length := by have := of_decide_eq_false hc; omega
      refine At.nextH fun w' hw => ⟨(vq2, Q2, L2), ⟨hre2.done hlk hkq.1 (by omega), hlow2, by simp only; omega⟩, by simp only [hQ, List.length_cons]; omega, Le.of rfl rfl ⟨rfl, rfl, trivial⟩, hw.keep [3, 2, 0] rfl rfl rfl, ⟨⟨_, _, rfl⟩, ⟨_, _, _, rfl⟩, trivial⟩, ⟨(nopI _).okH, (nopI _).okH, fun c hc => by simp at hc; rcases hc with rfl | rfl | rfl | rfl | rfl <;> first | exact ⟨_, _, _, rfl⟩ | exact ⟨_, _, rfl⟩ | trivial, trivial⟩⟩
  have hQ : Q = [] := by
    cases Q with
    | nil => rfl
    | cons x r => simp at hc
  subst hQ
  refine At.doneN tab_ok hB (.tup []) rfl fun w' hw => ⟨rfl, vL, L, hre.reached, hre.len, hlow, hw.box (id := 0) (cells := [.x ve, .x vF, .x vO, .o 2 vL, .x vX]) rfl, hw.row (id := 2) rfl, fun c hc2 => (hw.fresh (id := 2) rfl c hc2).elim (fun h => (hw.apart (i := 2) (j := 0) rfl rfl (by decide) c hc2 h).elim) id, hw.fr⟩
end Go.Proofs.Ytjilbkioieicbaa

/- Walks: flow's push. -/
namespace Go.Proofs.Ytjilbkioieicbaa
open Go.Vc Rt
set_option linter.unusedVariables false
set_option linter.unusedSimpArgs false
/-- What push finds and leaves. -/
structure NetW (w : World) (b : Nat) (ve vF vO vL vX : Value) (E : List Pl.Edge) (F : List Int) (O : List (List Int)) (L X : List Int) : Prop where
  box : (LO.box b 133 (netC ve vF vO vL vX)).holds w
  rF : (LO.row vF 3 1 (F.map encI)).holds w
  rX : (LO.row vX 3 1 (X.map encI)).holds w
  nd : (b :: (blkOf vF ++ blkOf vX)).Nodup
  sE : SlOf edT (b :: (blkOf vF ++ blkOf vX)) w ve E
  sO : SlOf (slT intT) (b :: (blkOf vF ++ blkOf vX)) w vO O
  sL : SlOf intT (b :: (blkOf vF ++ blkOf vX)) w vL L
structure NetP (E : List Pl.Edge) (O : List (List Int)) (n : Nat) (L : List Int) (t : Int) : Prop where
  A : Pl.Arcs E O n
  n6 : n ≤ 600
  El : E.length ≤ 4000
  cap : capsOk E
  Ol : ∀ l ∈ O, l.length ≤ 100000
  Ll : L.length = n
  low : lowL n L
  t0 : 0 ≤ t ∧ t < n
theorem push_c {E : List Pl.Edge} {O : List (List Int)} {n : Nat} {L : List Int} {t : Int} (N : NetP E O n L t) (b : Nat) (ve vF vO vL vX : Value) : ∀ (d : Nat) (k most : Int) (F X : List Int) (w : World), ((n : Int) - Pl.lv L k).toNat < d → (0 ≤ k ∧ k < n) → (0 < most ∧ most ≤ 1152921504606846976) → NetW w b ve vF vO vL vX E F O L X →
    F.length = E.length → X.length = n → Pl.Bnd E F → Pl.NxOk O X → Pl.Inv E O L t F X →
    Calls Try.prog 89 #[ptr b, vI k, vI t, vI most] w (fun e w' => ∃ r F' X', e = .returned (vI r) ∧ Pl.Pushed E O L t k most F X F' X' r ∧ (LO.row vF 3 1 (F'.map encI)).holds w' ∧ (LO.row vX 3 1 (X'.map encI)).holds w' ∧ Fr (blkOf vF ++ blkOf vX) w w')
  | 0, k, most, F, X, w, hd, _, _, _, _, _, _, _, _ => by omega
  | d + 1, k, most, F, X, w, hd, hk, hm, W, hFl, hXl, hbd, hnx, hinv => by
    have IH := fun k most F X w => push_c N b ve vF vO vL vX d k most F X w
    have n6 := N.n6
    have El := N.El
    have hOn := N.A.len
    have hh : Holds (St.enter Try.f89.ntmps [.s (.c (.p 0 b 0)), .i k, .i t, .i most] [(0, .box b 133 [.x ve, .o 1 vF, .x vO, .x vL, .o 2 vX]), (1, .row vF 3 1 (F.map encI)), (2, .row vX 3 1 (X.map encI))] (b :: (blkOf vF ++ (blkOf vX ++ []))) w) w :=
      enter_objs (fun o ho => by simp only [List.mem_cons, List.not_mem_nil, or_false] at ho; rcases ho with rfl | rfl | rfl; exact W.box; exact W.rF; exact W.rX) (by have := W.nd; simpa [LO.blks] using this)
    have sE : SlOf edT (b :: (blkOf vF ++ (blkOf vX ++ []))) w ve E := by rw [List.append_nil]; exact W.sE
    have sO : SlOf (slT intT) (b :: (blkOf vF ++ (blkOf vX ++ []))) w vO O := by rw [List.append_nil]; exact W.sO
    have sL : SlOf intT (b :: (blkOf vF ++ (blkOf vX ++ []))) w vL L := by rw [List.append_nil]; exact W.sL
    have lO := sO.len
    have lL := sL.len
    have hLl := N.Ll
    have hgk := lv_at (L := L) hk.1 (by omega)
    have hlk0 := N.low _ (List.mem_of_getElem? hgk)
    obtain ⟨lk, hlk⟩ : ∃ l, O[k.toNat]? = some l := ⟨_, List.getElem?_eq_getElem (by omega)⟩
    obtain ⟨cl, ⟨vl, rfl, hvl⟩, hcl⟩ := sO.at hlk
    have lvl := hvl.len
    have hlkl := N.Ol lk (List.mem_of_getElem? hlk)
    have done : ∀ {st : St} {w' : World} {F' X' : List Int}, Holds st w' → Vc.look st.hp 0 = some (.box b 133 [.x ve, .o 1 vF, .x vO, .x vL, .o 2 vX]) → Vc.look st.hp 1 = some (.row vF 3 1 (F'.map encI)) → Vc.look st.hp 2 = some (.row vX 3 1 (X'.map encI)) → st.S = b :: (blkOf vF ++ (blkOf vX ++ [])) → st.ws = w →
        (LO.row vF 3 1 (F'.map encI)).holds w' ∧ (LO.row vX 3 1 (X'.map encI)).holds w' ∧ Fr (blkOf vF ++ blkOf vX) w w' := fun {st w' F' X'} hw e0 e1 e2 eS ews => by
      refine ⟨hw.row e1, hw.row e2, ?_⟩
      have hf := hw.fr
      rw [eS, ews, List.append_nil] at hf
      refine hf.less fun c hc => ?_
      rcases List.mem_cons.1 hc with rfl | hc
      · exact .inr (.inl ((hw.box e0).trans W.box.symm))
      · exact .inl hc
    refine calls_atB _ _ _ Try.func89 rfl rfl (Nat.le_of_ble_eq_true rfl) (WF.objs hh ⟨⟨_, _, rfl⟩, trivial⟩ ⟨fun c hc => by simp at hc; rcases hc with rfl | rfl | rfl | rfl | rfl <;> first | exact ⟨_, _, _, rfl⟩ | trivial, (nopI _).okH, (nopI _).okH, trivial⟩) hh fun B hB => ?_
    repeat refine At.seq ?_
    refine At.region tab_ok ?_
    conv => whnf
    repeat refine At.seq ?_
    refine At.region tab_ok ?_
    conv => whnf
    repeat refine At.seq ?_
    refine At.cond rfl (fun hq => ?_) (fun hq => ?_)
    · have hkt : k = t := of_decide_eq_true hq
      repeat refine At.seq ?_
      refine At.region tab_ok ?_
      conv => whnf
      repeat refine At.seq ?_
      refine At.ret (At.doneB tab_ok hB _ rfl fun w' hw => ⟨most, F, X, rfl, Pl.Pushed.self hm.1 hbd hkt hnx hinv, done hw rfl rfl rfl rfl rfl⟩)
    have hkt : k ≠ t := of_decide_eq_false hq
    refine At.skip ?_
    repeat refine At.seq ?_
    refine At.block ?_
    refine At.loopH (fun X1 : List Int => { N := Try.f89.ntmps, sl := [(0, some (.s (.c (.p 0 b 0)))), (1, some (.i k)), (2, some (.i t)), (3, some (.i most))], gl := [], hp := [(0, .box b 133 [.x ve, .o 1 vF, .x vO, .x vL, .o 2 vX]), (1, .row vF 3 1 (F.map encI)), (2, .row vX 3 1 (X1.map encI))], S := b :: (blkOf vF ++ (blkOf vX ++ [])), ws := w }) (fun X1 : List Int => Pl.Tried E O L t k F X X1) (fun X1 : List Int => ((lk.length : Int) - Pl.at' X1 k).toNat)
      (fun w' hw => ⟨X, Pl.Tried.start hnx hinv, Le.of rfl rfl ⟨rfl, rfl, rfl, rfl, trivial⟩, hw.keep [0, 1, 2] rfl rfl rfl, ⟨⟨_, _, rfl⟩, trivial⟩, ⟨fun c hc => by simp at hc; rcases hc with rfl | rfl | rfl | rfl | rfl <;> first | exact ⟨_, _, _, rfl⟩ | exact ⟨_, _, rfl⟩ | trivial, (nopI _).okH, (nopI _).okH, trivial⟩⟩) ?_
    intro X1 hT
    have hX1 : X1.length = n := hT.lenX.trans hXl
    have hgx := get_at' (now := X1) hk.1 (by omega)
    have hnk := hT.nok _ lk _ hlk hgx
    repeat refine At.seq ?_
    refine At.draw tab_ok mixed (by kernel_rfl) ?_
    conv => whnf
    refine ⟨rfl, ?_⟩
    conv => whnf
    refine ⟨by omega, ?_⟩
    conv => whnf
    refine ⟨by rw [List.length_map]; omega, ?_⟩
    conv => whnf
    refine ⟨encI (Pl.at' X1 k), ⟨rfl, rfl, by omega, by rw [List.getElem?_map, hgx]; rfl⟩, ?_⟩
    conv => whnf
    refine ⟨by omega, ?_⟩
    conv => whnf
    refine ⟨by omega, ?_⟩
    conv => whnf
    refine ⟨[.x vl], fun w' hw => hcl w' hw.fr, ?_⟩
    conv => whnf
    refine ⟨hvl.sl, ?_⟩
    conv => whnf
    repeat refine At.seq ?_
    refine At.cond rfl (fun hc => At.skip ?_) (fun hc => At.exit ?_)
    · have hxl : Pl.at' X1 k < lk.length := by have := of_decide_eq_true hc; omega
      obtain ⟨a, ha⟩ : ∃ a, lk[(Pl.at' X1 k).toNat]? = some a := ⟨_, List.getElem?_eq_getElem (by omega)⟩
      have ham := List.mem_of_getElem? ha
      obtain ⟨ha0, ha1, _⟩ := N.A.ok k.toNat lk a hlk ham
      obtain ⟨e, he⟩ : ∃ e, E[(a / 2).toNat]? = some e := ⟨_, List.getElem?_eq_getElem (by omega)⟩
      have hin := N.A.edge e (List.mem_of_getElem? he)
      have hdr : 0 ≤ Pl.dest E a ∧ Pl.dest E a < n := by simp only [Pl.dest, he]; split <;> omega
      have hgd := lv_at (L := L) hdr.1 (by omega)
      have hld := N.low _ (List.mem_of_getElem? hgd)
      have hroom := Pl.room_le hbd a
      repeat refine At.seq ?_
      refine At.block ?_
      repeat refine At.seq ?_
      refine At.draw tab_ok mixed (by kernel_rfl) ?_
      conv => whnf
      refine ⟨by omega, ?_⟩
      conv => whnf
      refine ⟨by omega, ?_⟩
      conv => whnf
      refine ⟨[.x vl], fun w' hw => hcl w' hw.fr, ?_⟩
      conv => whnf
      refine ⟨rfl, ?_⟩
      conv => whnf
      refine ⟨by omega, ?_⟩
      conv => whnf
      refine ⟨by rw [List.length_map]; omega, ?_⟩
      conv => whnf
      refine ⟨encI (Pl.at' X1 k), ⟨rfl, rfl, by omega, by rw [List.getElem?_map, hgx]; rfl⟩, ?_⟩
      conv => whnf
      refine ⟨by omega, ?_⟩
      conv => whnf
      refine ⟨by omega, ?_⟩
      conv => whnf
      refine ⟨encI a, fun w' hw => hvl.loadI (n := 1) hw.fr (by omega) ha rfl, ?_⟩
      conv => whnf
      repeat refine At.seq ?_
      refine At.region tab_ok ?_
      conv => whnf
      refine ans_call b120 rfl (fun w' hw => step_c E F a b ve vF vO vL vX w' (hw.box (id := 0) (cells := [.x ve, .o 1 vF, .x vO, .x vL, .o 2 vX]) rfl) ((sE.fr hw.fr).avoid (fun c hc => .inl (by rw [List.mem_singleton.1 hc]; exact List.mem_cons_self ..))) (SlOf.of_row (enc := fun n => [.i n]) (hl := fun _ => rfl) (hw.row (id := 1) rfl) (fun c hc hc2 => hw.apart (i := 1) (j := 0) rfl rfl (by decide) c hc hc2) (by omega)) ha0 ha1 El hFl hbd N.cap) ?_
      conv => whnf
      repeat refine At.seq ?_
      refine At.draw tab_ok mixed (by kernel_rfl) ?_
      conv => whnf
      refine ⟨by simp only [gimp]; intro _; omega, ?_⟩
      conv => whnf
      refine ⟨by simp only [gimp]; intro _; omega, ?_⟩
      conv => whnf
      refine ⟨encI (Pl.lv L (Pl.dest E a)), by simp only [gimp]; intro _ w' hw; exact sL.loadI (n := 1) hw.fr hdr.1 hgd rfl, ?_⟩
      conv => whnf
      refine ⟨by simp only [gimp]; intro _; omega, ?_⟩
      conv => whnf
      refine ⟨by simp only [gimp]; intro _; omega, ?_⟩
      conv => whnf
      refine ⟨encI (Pl.lv L k), by simp only [gimp]; intro _ w' hw; exact sL.loadI (n := 1) hw.fr hk.1 hgk rfl, ?_⟩
      conv => whnf
      refine ⟨by simp only [gimp]; intro _; exact ⟨by omega, by omega⟩, ?_⟩
      conv => whnf
      repeat refine At.seq ?_
      refine At.cond rfl (fun hq => ?_) (fun hq => ?_)
      · have hdead : Pl.room E F a = 0 ∨ Pl.lv L (Pl.dest E a) ≠ Pl.lv L k + 1 := by
          simp only [bor, Bool.or_eq_true, decide_eq_true_eq, Bool.not_eq_true', decide_eq_false_iff_not] at hq
          exact hq
        have hT2 := hT.skip hk.1 hlk hgx ha (hdead.elim .inl (fun h => .inr (.inl h)))
        refine At.exit ?_
        repeat refine At.seq ?_
        refine At.region tab_ok ?_
        conv => whnf
        refine ⟨rfl, ?_⟩
        conv => whnf
        refine ⟨by omega, ?_⟩
        conv => whnf
        refine ⟨by rw [List.length_map]; omega, ?_⟩
        conv => whnf
        refine ⟨encI (Pl.at' X1 k), ⟨rfl, rfl, by omega, by rw [List.getElem?_map, hgx]; rfl⟩, ?_⟩
        conv => whnf
        refine ⟨⟨by omega, by omega⟩, ?_⟩
        conv => whnf
        refine ⟨rfl, ?_⟩
        conv => whnf
        refine ⟨by omega, ?_⟩
        conv => whnf
        refine ⟨by rw [List.length_map]; omega, ?_⟩
        conv => whnf
        refine ⟨encI (Pl.at' X1 k), ⟨rfl, rfl, by omega, by rw [List.getElem?_map, hgx]; rfl⟩, ?_⟩
        conv => whnf
        rw [map_set']
        refine At.nextH fun w' hw => ⟨X1.set k.toNat (Pl.at' X1 k + 1), hT2, ?_, Le.of rfl rfl ⟨rfl, rfl, rfl, rfl, trivial⟩, hw.keep [0, 1, 2] rfl rfl rfl, ⟨⟨_, _, rfl⟩, trivial⟩, ⟨fun c hc => by simp at hc; rcases hc with rfl | rfl | rfl | rfl | rfl <;> first | exact ⟨_, _, _, rfl⟩ | exact ⟨_, _, rfl⟩ | trivial, (nopI _).okH, (nopI _).okH, trivial⟩⟩
        simp only [Pl.at']
        rw [List.getElem?_set]
        simp only [if_true, show k.toNat < X1.length by omega, Option.getD_some]
        have : (X1[k.toNat]?).getD 0 = Pl.at' X1 k := rfl
        rw [this]
        omega
      have hlive : Pl.room E F a ≠ 0 ∧ Pl.lv L (Pl.dest E a) = Pl.lv L k + 1 := by
        simp only [bor, Bool.or_eq_false_iff, decide_eq_false_iff_not, Bool.not_eq_false', decide_eq_true_eq] at hq
        exact hq
      refine At.skip ?_
      repeat refine At.seq ?_
      refine At.region tab_ok ?_
      conv => whnf
      refine two_call (i1 := 1) (i2 := 2) b89 rfl rfl (by decide) (fun r o1' o2' => ∃ r0 F' X', r = .i r0 ∧ o1' = .row vF 3 1 (F'.map encI) ∧ o2' = .row vX 3 1 (X'.map encI) ∧ Pl.Pushed E O L t (Pl.dest E a) (min most (Pl.room E F a)) F X1 F' X' r0) (fun w' hw => ?_) ?_
      · have nd2 := hw.nodup
        have hf := hw.fr
        refine (IH (Pl.dest E a) (min most (Pl.room E F a)) F X1 w' (by omega) hdr (by omega) ⟨hw.box (id := 0) (cells := [.x ve, .o 1 vF, .x vO, .x vL, .o 2 vX]) rfl, hw.row (id := 1) rfl, hw.row (id := 2) rfl, W.nd, ?_, ?_, ?_⟩ hFl hX1 hbd hT.nok hT.inv).mono ?_
        · have := sE.fr hf; rw [List.append_nil] at this; exact this
        · have := sO.fr hf; rw [List.append_nil] at this; exact this
        · have := sL.fr hf; rw [List.append_nil] at this; exact this
        · rintro e2 w2 ⟨r, F', X', he2, hp, q1, q2, q3⟩
          exact ⟨.i r, _, _, he2, ⟨r, F', X', rfl, rfl, rfl, hp⟩, q1, q2, q3, fun c hc => .inl hc, fun c hc => hc⟩
      rintro r o1' o2' w' ⟨r0, F', X2, rfl, rfl, rfl, hp⟩ hh1 hh2
      refine ⟨⟨stays_row, stays_row, ⟨rows_some hh1, (nopI _).ok⟩, ⟨rows_some hh2, (nopI _).ok⟩, trivial⟩, ?_⟩
      conv => whnf
      have hX2 : X2.length = n := hp.lenX.trans hX1
      repeat refine At.seq ?_
      refine At.region tab_ok ?_
      conv => whnf
      repeat refine At.seq ?_
      refine At.cond rfl (fun hq => ?_) (fun hq => ?_)
      · have hpos : 0 < r0 := of_decide_eq_true hq
        obtain ⟨x, hx, hx0, ⟨e1, he1, hxc⟩, hpush⟩ := hT.found N.A hFl hbd hk.1 hlk ham hlive.2 hp (by omega)
        have hcap := N.cap e1 (List.mem_of_getElem? he1)
        have hF' : F'.length = E.length := hp.len.trans hFl
        have hrm := hp.rm
        have hmod : a % 2 = 0 ∨ a % 2 = 1 := by omega
        have hval : -1152921504606846976 ≤ r0 * (1 - 2 * (a % 2)) ∧ r0 * (1 - 2 * (a % 2)) ≤ 1152921504606846976 := by
          rcases hmod with h | h <;> rw [h] <;> omega
        have hi0 : 0 ≤ a / 2 := by omega
        repeat refine At.seq ?_
        refine At.region tab_ok ?_
        conv => whnf
        refine ⟨by omega, ?_⟩
        conv => whnf
        refine ⟨by omega, ?_⟩
        conv => whnf
        refine ⟨⟨by omega, by omega⟩, ?_⟩
        conv => whnf
        refine ⟨rfl, ?_⟩
        conv => whnf
        refine ⟨by omega, ?_⟩
        conv => whnf
        refine ⟨by rw [List.length_map]; omega, ?_⟩
        conv => whnf
        refine ⟨encI x, ⟨rfl, rfl, by omega, by rw [List.getElem?_map, hx]; rfl⟩, ?_⟩
        conv => whnf
        refine ⟨by omega, ?_⟩
        conv => whnf
        refine ⟨by omega, ?_⟩
        conv => whnf
        refine ⟨⟨by omega, by omega⟩, ?_⟩
        conv => whnf
        refine ⟨⟨by omega, by omega⟩, ?_⟩
        conv => whnf
        refine ⟨⟨by omega, by omega⟩, ?_⟩
        conv => whnf
        refine ⟨⟨by omega, by omega⟩, ?_⟩
        conv => whnf
        refine ⟨rfl, ?_⟩
        conv => whnf
        refine ⟨by omega, ?_⟩
        conv => whnf
        refine ⟨by rw [List.length_map]; omega, ?_⟩
        conv => whnf
        refine ⟨encI x, ⟨rfl, rfl, by omega, by rw [List.getElem?_map, hx]; rfl⟩, ?_⟩
        conv => whnf
        rw [map_set']
        repeat refine At.seq ?_
        refine At.region tab_ok ?_
        conv => whnf
        repeat refine At.seq ?_
        refine At.ret (At.doneB tab_ok hB _ rfl fun w' hw => ⟨r0, _, X2, rfl, hpush, done hw rfl rfl rfl rfl rfl⟩)
      · have hz : r0 = 0 := by have := of_decide_eq_false hq; have := hp.r0; omega
        subst hz
        obtain ⟨hFF, hdt, hdead, hgx2, hT2⟩ := hT.vain hp hlive.2 (by omega) hk.1 hdr.1 hgx
        subst hFF
        have hat : Pl.at' X2 k = Pl.at' X1 k := by
          have := get_at' (now := X2) hk.1 (by omega)
          rw [hgx2] at this
          exact (Option.some.inj this).symm
        have hgx3 : X2[k.toNat]? = some (Pl.at' X2 k) := by rw [hat]; exact hgx2
        have hT3 := hT2.skip hk.1 hlk hgx3 (by rw [hat]; exact ha) (.inr (.inr ⟨hdt, hdead⟩))
        refine At.skip ?_
        repeat refine At.seq ?_
        refine At.region tab_ok ?_
        conv => whnf
        refine ⟨rfl, ?_⟩
        conv => whnf
        refine ⟨by omega, ?_⟩
        conv => whnf
        refine ⟨by rw [List.length_map]; omega, ?_⟩
        conv => whnf
        refine ⟨encI (Pl.at' X2 k), ⟨rfl, rfl, by omega, by rw [List.getElem?_map, hgx3]; rfl⟩, ?_⟩
        conv => whnf
        refine ⟨⟨by omega, by omega⟩, ?_⟩
        conv => whnf
        refine ⟨rfl, ?_⟩
        conv => whnf
        refine ⟨by omega, ?_⟩
        conv => whnf
        refine ⟨by rw [List.length_map]; omega, ?_⟩
        conv => whnf
        refine ⟨encI (Pl.at' X2 k), ⟨rfl, rfl, by omega, by rw [List.getElem?_map, hgx3]; rfl⟩, ?_⟩
        conv => whnf
        rw [map_set']
        refine At.nextH fun w' hw => ⟨X2.set k.toNat (Pl.at' X2 k + 1), hT3, ?_, Le.of rfl rfl ⟨rfl, rfl, rfl, rfl, trivial⟩, hw.keep [0, 1, 2] rfl rfl rfl, ⟨⟨_, _, rfl⟩, trivial⟩, ⟨fun c hc => by simp at hc; rcases hc with rfl | rfl | rfl | rfl | rfl <;> first | exact ⟨_, _, _, rfl⟩ | exact ⟨_, _, rfl⟩ | trivial, (nopI _).okH, (nopI _).okH, trivial⟩⟩
        simp only [Pl.at']
        rw [List.getElem?_set]
        simp only [if_true, show k.toNat < X2.length by omega, Option.getD_some]
        have e1 : (X2[k.toNat]?).getD 0 = Pl.at' X2 k := rfl
        have e2 : (X1[k.toNat]?).getD 0 = Pl.at' X1 k := rfl
        rw [e1, e2]
        omega
    have hend : Pl.at' X1 k = lk.length := by have := of_decide_eq_false hc; omega
    rw [hend] at hgx
    repeat refine At.seq ?_
    refine At.region tab_ok ?_
    conv => whnf
    repeat refine At.seq ?_
    refine At.ret (At.doneB tab_ok hB _ rfl fun w' hw => ⟨0, F, X1, rfl, hT.fail hbd hkt hm.1 hlk hgx, done hw rfl rfl rfl rfl rfl⟩)
end Go.Proofs.Ytjilbkioieicbaa

/- Walks: flow.open. -/
namespace Go.Vc
theorem At.joinN {P : Program} {Q : Exit → Act → World → Prop} {ρ : Type} (F : ρ → St) (Inv : ρ → Prop) {st : St} {x : Code} (h1 : At st (x.wp P (Exit.then (Meets F Inv) Q))) (h2 : ∀ p, Inv p → At (F p) (Q .normal)) : At st (x.wp P Q) :=
  ⟨fun hwf a w hr hw => wp_mono (h1.out hwf a w hr hw) (by
    intro e a w hq
    cases e with
    | normal => obtain ⟨p, hi, hwf', hr', hw'⟩ := hq.out; exact (h2 p hi).out hwf' a w hr' hw'
    | _ => exact hq)⟩
end Go.Vc
namespace Go.Proofs.Ytjilbkioieicbaa
open Go.Vc Rt
set_option linter.unusedVariables false
set_option linter.unusedSimpArgs false
def nilV : Value := .slice none 0 0
theorem openF_c (E : List Pl.Edge) (n : Nat) (S : List Nat) (ve : Value) (w : World) (h : SlOf edT S w ve E) (hn : n ≤ 600) (hE : E.length ≤ 4000) (hr : ∀ e ∈ E, 0 ≤ e.f ∧ e.f < n ∧ 0 ≤ e.t ∧ e.t < n) :
    Calls Try.prog 87 #[ve, vI n] w (fun e w' => ∃ b vF vO O, e = .returned (ptr b) ∧ Pl.Arcs E O n ∧ (∀ l ∈ O, l.length ≤ 8000) ∧ (LO.box b 133 (netC ve vF vO nilV nilV)).holds w' ∧ (LO.row vF 3 1 ((List.replicate E.length (0 : Int)).map encI)).holds w' ∧
      (∀ c ∈ b :: blkOf vF, w.heap.size ≤ c) ∧ b ∉ blkOf vF ∧ (∀ T : List Nat, (∀ c ∈ T, c < w.heap.size ∨ c ∈ b :: blkOf vF) → SlOf (slT intT) T w' vO O) ∧ Ext w w') := by
  replace h := h.avoid (S' := []) (fun b hb => by cases hb)
  have l1 := h.len
  refine calls_plainB [.x ve, .i n] Try.func87 rfl rfl (Nat.le_of_ble_eq_true rfl) rfl fun B hB => ?_
  repeat refine At.seq ?_
  refine At.region tab_ok ?_
  conv => whnf
  repeat refine At.seq ?_
  refine At.join (fun p : Value × Value × Nat × World => { N := Try.f87.ntmps, sl := [(0, some (.x ve)), (5, some (.s (.c (.p 2 p.2.2.1 0))))], gl := [], hp := [(2, .box p.2.2.1 133 [.x ve, .o 0 p.1, .o 1 p.2.1, .x nilV, .x nilV]), (1, .row p.2.1 22 1 (cellsX (List.replicate n nilV))), (0, .row p.1 3 1 ((List.replicate E.length (0 : Int)).map encI))], S := p.2.2.1 :: (blkOf p.2.1 ++ (blkOf p.1 ++ [])), ws := p.2.2.2 }) (fun p : Value × Value × Nat × World => Ext w p.2.2.2 ∧ (∀ c ∈ p.2.2.1 :: (blkOf p.2.1 ++ (blkOf p.1 ++ [])), w.heap.size ≤ c)) ?_ ?_
  · have hrF : List.replicate (slen ve).toNat [CV.i 0] = (List.replicate E.length (0 : Int)).map encI := by rw [l1]; simp [encI]
    have hrO : List.replicate (n : Int).toNat [CV.x (Value.slice none 0 0)] = cellsX (List.replicate n nilV) := by simp [cellsX, nilV]
    repeat refine At.seq ?_
    refine At.planG tab_ok mixed [] (.take 0 (.take 1 (.take 2 (.take 4 (.br 3 (.br 5 (.take 6 (.br 7 (.take 8 (.done)) (.nob))) (.nob)) (.br 5 (.br 3 (.take 6 (.br 7 (.take 8 (.done)) (.nob))) (.nob)) (.nob))))))) (by kernel_rfl) (by kernel_rfl) trivial ?_
    conv => whnf
    refine ⟨h.sl, ?_⟩
    conv => whnf
    refine ⟨?_, ?_⟩
    · conv => whnf
      refine ⟨⟨rfl, by omega, by show slen ve * 8 ≤ _; omega⟩, ?_⟩
      conv => whnf
      intro vF
      conv => whnf
      rw [hrF]
      refine ⟨⟨trivial, fun w' hw => hw.fr⟩, ?_⟩
      conv => whnf
      refine ⟨?_, trivial⟩
      conv => whnf
      refine ⟨⟨rfl, by omega, by show (n : Int) * 24 ≤ _; omega⟩, ?_⟩
      conv => whnf
      intro vO
      conv => whnf
      rw [hrO]
      refine ⟨⟨trivial, fun w' hw => hw.fr⟩, ?_⟩
      conv => whnf
      refine ⟨h.sl.one, ?_⟩
      conv => whnf
      refine ⟨?_, trivial⟩
      conv => whnf
      refine ⟨h.sl.one, ?_⟩
      conv => whnf
      refine ⟨rfl, ?_⟩
      conv => whnf
      refine ⟨rfl, ?_⟩
      conv => whnf
      intro b
      conv => whnf
      refine ⟨⟨trivial, fun w' hw => hw.fr⟩, ?_⟩
      conv => whnf
      refine At.meet fun w' hw => ⟨(vF, vO, b, w'), ⟨hw.fr, fun c hc => ?_⟩, Le.of rfl rfl ⟨rfl, rfl, trivial⟩, Holds.cast (fun o ho => ?_) ?_ (fun c hc => by simpa [St.blks, LO.blks] using hc) rfl, ⟨⟨_, _, rfl⟩, trivial⟩, ⟨fun c hc => by simp at hc; rcases hc with rfl | rfl | rfl | rfl | rfl <;> first | exact ⟨_, _, _, rfl⟩ | exact ⟨_, _, rfl⟩ | trivial, (cellsX_nop _).okH, (nopI _).okH, trivial⟩⟩
      · simp only [List.mem_cons, List.mem_append, List.not_mem_nil, or_false] at hc
        rcases hc with rfl | hc | hc
        · exact (hw.fresh (id := 2) rfl _ (by simp [LO.blks])).elim (fun h => by cases h) id
        · exact (hw.fresh (id := 1) rfl c hc).elim (fun h => by cases h) id
        · exact (hw.fresh (id := 0) rfl c hc).elim (fun h => by cases h) id
      · simp only [List.mem_cons, List.not_mem_nil, or_false] at ho
        rcases ho with rfl | rfl | rfl
        · exact hw.box (id := 2) rfl
        · exact hw.row (id := 1) rfl
        · exact hw.row (id := 0) rfl
      · show (b :: (blkOf vO ++ (blkOf vF ++ []))).Nodup
        have a1 := hw.apart (i := 2) (j := 1) rfl rfl (by decide) b (by simp [LO.blks])
        have a2 := hw.apart (i := 2) (j := 0) rfl rfl (by decide) b (by simp [LO.blks])
        have a3 := hw.apart (i := 1) (j := 0) rfl rfl (by decide)
        rw [List.append_nil, List.nodup_cons, List.mem_append, List.nodup_append]
        exact ⟨fun hc => hc.elim a1 a2, LO.nodup (o := .row vO 3 1 []), LO.nodup (o := .row vF 3 1 []), fun x hx y hy e => a3 x hx (e ▸ hy)⟩
    · refine ⟨?_, trivial⟩
      conv => whnf
      refine ⟨⟨rfl, by omega, by show (n : Int) * 24 ≤ _; omega⟩, ?_⟩
      conv => whnf
      intro vO
      conv => whnf
      rw [hrO]
      refine ⟨⟨trivial, fun w' hw => hw.fr⟩, ?_⟩
      conv => whnf
      refine ⟨?_, trivial⟩
      conv => whnf
      refine ⟨⟨rfl, by omega, by show slen ve * 8 ≤ _; omega⟩, ?_⟩
      conv => whnf
      intro vF
      conv => whnf
      rw [hrF]
      refine ⟨⟨trivial, fun w' hw => hw.fr⟩, ?_⟩
      conv => whnf
      refine ⟨h.sl.one, ?_⟩
      conv => whnf
      refine ⟨?_, trivial⟩
      conv => whnf
      refine ⟨h.sl.one, ?_⟩
      conv => whnf
      refine ⟨rfl, ?_⟩
      conv => whnf
      refine ⟨rfl, ?_⟩
      conv => whnf
      intro b
      conv => whnf
      refine ⟨⟨trivial, fun w' hw => hw.fr⟩, ?_⟩
      conv => whnf
      refine At.meet fun w' hw => ⟨(vF, vO, b, w'), ⟨hw.fr, fun c hc => ?_⟩, Le.of rfl rfl ⟨rfl, rfl, trivial⟩, Holds.cast (fun o ho => ?_) ?_ (fun c hc => by simpa [St.blks, LO.blks] using hc) rfl, ⟨⟨_, _, rfl⟩, trivial⟩, ⟨fun c hc => by simp at hc; rcases hc with rfl | rfl | rfl | rfl | rfl <;> first | exact ⟨_, _, _, rfl⟩ | exact ⟨_, _, rfl⟩ | trivial, (cellsX_nop _).okH, (nopI _).okH, trivial⟩⟩
      · simp only [List.mem_cons, List.mem_append, List.not_mem_nil, or_false] at hc
        rcases hc with rfl | hc | hc
        · exact (hw.fresh (id := 2) rfl _ (by simp [LO.blks])).elim (fun h => by cases h) id
        · exact (hw.fresh (id := 0) rfl c hc).elim (fun h => by cases h) id
        · exact (hw.fresh (id := 1) rfl c hc).elim (fun h => by cases h) id
      · simp only [List.mem_cons, List.not_mem_nil, or_false] at ho
        rcases ho with rfl | rfl | rfl
        · exact hw.box (id := 2) (cells := [.x ve, .o 1 vF, .o 0 vO, .x nilV, .x nilV]) rfl
        · exact hw.row (id := 0) rfl
        · exact hw.row (id := 1) rfl
      · show (b :: (blkOf vO ++ (blkOf vF ++ []))).Nodup
        have a1 := hw.apart (i := 2) (j := 0) rfl rfl (by decide) b (by simp [LO.blks])
        have a2 := hw.apart (i := 2) (j := 1) rfl rfl (by decide) b (by simp [LO.blks])
        have a3 := hw.apart (i := 0) (j := 1) rfl rfl (by decide)
        rw [List.append_nil, List.nodup_cons, List.mem_append, List.nodup_append]
        exact ⟨fun hc => hc.elim a1 a2, LO.nodup (o := .row vO 3 1 []), LO.nodup (o := .row vF 3 1 []), fun x hx y hy e => a3 x hx (e ▸ hy)⟩
  rintro ⟨vF, vO, b, w0⟩ ⟨hx0, hS0⟩
  simp only at hx0 hS0 ⊢
  repeat refine At.seq ?_
  refine At.region tab_ok ?_
  conv => whnf
  refine ⟨h.sl, ?_⟩
  conv => whnf
  repeat refine At.seq ?_
  refine At.block ?_
  refine At.loopH (fun p : Nat × List Value × World × List (List Int) => { N := Try.f87.ntmps, sl := [(0, some (.x ve)), (5, some (.s (.c (.p 2 b 0)))), (16, some (.x ve)), (17, some (.i ((E.length : Int)))), (18, some (.i p.1))], gl := [], hp := [(2, .box b 133 [.x ve, .o 0 vF, .o 1 vO, .x nilV, .x nilV]), (1, .row vO 22 1 (cellsX p.2.1)), (0, .row vF 3 1 ((List.replicate E.length (0 : Int)).map encI))], S := b :: (blkOf vO ++ (blkOf vF ++ [])), ws := p.2.2.1 }) (fun p : Nat × List Value × World × List (List Int) => p.1 ≤ E.length ∧ Ext w p.2.2.1 ∧ Fam 3 1 w.heap.size p.2.2.1 p.2.1 (p.2.2.2.map (fun l => l.map encI)) ∧ (∀ (j : Nat) u, p.2.1[j]? = some u → ∀ c ∈ blkOf u, c ∉ b :: (blkOf vO ++ (blkOf vF ++ []))) ∧ Pl.ArcsTo E p.2.2.2 n p.1) (fun p : Nat × List Value × World × List (List Int) => E.length - p.1)
    (fun w' hw => ⟨(0, List.replicate n nilV, w', List.replicate n []), ⟨Nat.zero_le _, Fr.over1 hx0 hw.fr hS0, by rw [List.map_replicate]; exact Fam.nils n, fun j u hu c hc => (by rw [List.eq_of_mem_replicate (List.mem_of_getElem? hu)] at hc; simp [blkOf, nilV] at hc), Pl.ArcsTo.start E n⟩, Le.of rfl rfl ⟨rfl, rfl, rfl, congrArg (Value.int .i64) (by simp only [l1]), rfl, trivial⟩, hw.again (List.Sublist.refl _) (fun c hc => by simpa [St.blks, LO.blks] using hc) rfl, ⟨⟨_, _, rfl⟩, trivial⟩, ⟨fun c hc => by simp at hc; rcases hc with rfl | rfl | rfl | rfl | rfl <;> first | exact ⟨_, _, _, rfl⟩ | exact ⟨_, _, rfl⟩ | trivial, (cellsX_nop _).okH, (nopI _).okH, trivial⟩⟩) ?_
  rintro ⟨k, vs, w1, O⟩ ⟨hk, hx1, hfam, hdis, hat⟩
  simp only at hk hx1 hfam hdis hat ⊢
  have he1 : SlOf edT (b :: (blkOf vO ++ (blkOf vF ++ []))) w1 ve E := (h.avoid (S' := b :: (blkOf vO ++ (blkOf vF ++ []))) (fun c hc => .inr (hS0 c hc))).ext hx1
  have hvl : vs.length = n := by rw [hfam.len, List.length_map, hat.len]
  repeat refine At.seq ?_
  refine At.region tab_ok ?_
  conv => whnf
  repeat refine At.seq ?_
  refine At.cond rfl (fun hc => At.skip ?_) (fun hc => At.exit ?_)
  · have hlte : k < E.length := by have := of_decide_eq_true hc; (try simp only [List.length_map] at this); omega
    obtain ⟨e, he⟩ : ∃ x, E[k]? = some x := ⟨_, List.getElem?_eq_getElem hlte⟩
    have hre := hr e (List.mem_of_getElem? he)
    obtain ⟨vk, Lk, hvk, hLk, hrow, hge⟩ := hfam.get (k := e.f.toNat) (by rw [List.length_map, hat.len]; omega)
    have hkl := (List.getElem?_eq_some_iff.1 hvk).1
    obtain ⟨lf, hlf⟩ : ∃ l, O[e.f.toNat]? = some l := ⟨_, List.getElem?_eq_getElem (by rw [hat.len]; omega)⟩
    have hLe : Lk = lf.map encI := by rw [List.getElem?_map, hlf] at hLk; exact (Option.some.inj hLk).symm
    subst hLe
    have hlfl : ((lf.map encI).length : Nat) ≤ 8000 := by rw [List.length_map]; have := hat.few lf (List.mem_of_getElem? hlf); omega
    repeat refine At.seq ?_
    refine At.block ?_
    repeat refine At.seq ?_
    refine At.region tab_ok ?_
    conv => whnf
    refine ⟨by omega, ?_⟩
    conv => whnf
    refine ⟨by omega, ?_⟩
    conv => whnf
    refine ⟨encE e, fun w' hw => he1.load (n := 3) hw.fr he rfl, ?_⟩
    conv => whnf
    intro be
    conv => whnf
    repeat refine At.seq ?_
    refine At.reshapeH fun w2 hw2 => ⟨{ N := Try.f87.ntmps, sl := [(0, some (.x ve)), (5, some (.s (.c (.p 2 b 0)))), (6, some (.i k)), (7, some (.s (.c (.p 3 be 0)))), (16, some (.x ve)), (17, some (.i E.length)), (18, some (.i k))], gl := [], hp := [(5, .row vk 3 1 (lf.map encI)), (3, .box be 107 (encE e)), (2, .box b 133 [.x ve, .o 0 vF, .o 1 vO, .x nilV, .x nilV]), (1, .row vO 22 1 ((cellsX vs).set e.f.toNat [.o 5 vk])), (0, .row vF 3 1 ((List.replicate E.length (0 : Int)).map encI))], S := blkOf vk ++ (be :: (b :: (blkOf vO ++ (blkOf vF ++ [])))), ws := w2 },
      Le.of rfl rfl ⟨rfl, rfl, rfl, rfl, rfl, rfl, rfl, trivial⟩, Holds.cast (fun o ho => ?_) ?_ (fun c hc => by simpa [St.blks, LO.blks] using hc) rfl, ⟨⟨_, _, rfl⟩, ⟨_, _, rfl⟩, trivial⟩, ⟨(nopI _).okH, fun c hc => by simp at hc; rcases hc with rfl | rfl | rfl | rfl | rfl <;> first | exact ⟨_, _, _, rfl⟩ | trivial, focus_ok rfl, (nopI _).okH, trivial⟩, ?_⟩
    · simp only [List.mem_cons, List.not_mem_nil, or_false] at ho
      rcases ho with rfl | rfl | rfl | rfl | rfl
      · exact LO.frame hw2.fr hrow (hdis _ _ hvk)
      · exact hw2.box (id := 3) rfl
      · exact hw2.box (id := 2) rfl
      · exact row_focus (hw2.row (id := 1) rfl) hvk
      · exact hw2.row (id := 0) rfl
    · have hnd := hw2.nodup
      show (blkOf vk ++ (be :: (b :: (blkOf vO ++ (blkOf vF ++ []))))).Nodup
      have hnd' : (be :: (b :: (blkOf vO ++ (blkOf vF ++ [])))).Nodup := by simpa [St.blks, LO.blks] using hnd
      rw [List.nodup_append]
      refine ⟨LO.nodup (o := .row vk 3 1 []), hnd', fun x hx y hy e' => ?_⟩
      subst e'
      rcases List.mem_cons.1 hy with hy | hy
      · have q1 := (hfam.lt hvk x hx).1
        have q2 := hw2.fresh (id := 3) rfl be (by simp [LO.blks])
        rcases q2 with q2 | q2
        · rw [← hy] at q2; exact hdis _ _ hvk x hx q2
        · have q2 : w1.heap.size ≤ be := q2
          omega
      · exact hdis _ _ hvk x hx hy
    have hS1 : ∀ c ∈ blkOf vk ++ (be :: (b :: (blkOf vO ++ (blkOf vF ++ [])))), w.heap.size ≤ c := fun c hc => by
      rcases List.mem_append.1 hc with hc | hc
      · exact hge c hc
      · rcases List.mem_cons.1 hc with rfl | hc
        · rcases hw2.fresh (id := 3) rfl c (by simp [LO.blks]) with q2 | q2
          · exact hS0 c q2
          · exact Nat.le_trans hx1.size q2
        · exact hS0 c hc
    have hx2 : Ext w w2 := Fr.over1 hx1 hw2.fr hS0
    have hbe : be ∉ b :: (blkOf vO ++ (blkOf vF ++ [])) := by
      have hnd := hw2.nodup
      have hnd' : (be :: (b :: (blkOf vO ++ (blkOf vF ++ [])))).Nodup := by simpa [St.blks, LO.blks] using hnd
      exact (List.nodup_cons.1 hnd').1
    have hbelt : be < w2.heap.size := LO.blk_lt (hw2.objs (3, .box be 107 (encE e)) (look_mem (by rfl))) be (by simp [LO.blks])
    have hbege : w1.heap.size ≤ be := (hw2.fresh (id := 3) rfl be (by simp [LO.blks])).elim (fun q => (hbe q).elim) id
    have hfam2 := hfam.frame hw2.fr hdis
    clear hw2
    repeat refine At.seq ?_
    refine At.join (fun v7 : Value => { N := Try.f87.ntmps, sl := [(0, some (.x ve)), (5, some (.s (.c (.p 2 b 0)))), (6, some (.i k)), (7, some (.s (.c (.p 3 be 0)))), (16, some (.x ve)), (17, some (.i ((E.length : Int)))), (18, some (.i k))], gl := [], hp := [(5, .row v7 3 1 ((lf ++ [2 * (k : Int)]).map encI)), (3, .box be 107 (encE e)), (2, .box b 133 [.x ve, .o 0 vF, .o 1 vO, .x nilV, .x nilV]), (1, .row vO 22 1 ((cellsX vs).set e.f.toNat [.o 5 v7])), (0, .row vF 3 1 ((List.replicate E.length (0 : Int)).map encI))], S := blkOf vk ++ (be :: (b :: (blkOf vO ++ (blkOf vF ++ [])))), ws := w2 }) (fun v7 : Value => True) ?_ ?_
    · have happ : lf.map encI ++ [[CV.i (2 * (k : Int))]] = (lf ++ [2 * (k : Int)]).map encI := by rw [List.map_append]; rfl
      repeat refine At.seq ?_
      refine At.planG tab_ok mixed [(3, .box be 107 (encE e)), (2, .box b 133 [.x ve, .o 0 vF, .o 1 vO, .x nilV, .x nilV])] (.take 0 (.take 1 (.take 2 (.take 3 (.take 4 (.take 5 (.take 6 (.take 7 (.take 8 (.take 9 (.take 10 (.take 11 (.take 14 (.take 15 (.br 12 (.br 13 (.br 16 (.br 17 (.br 18 (.br 19 (.done) (.nob)) (.nob)) (.nob)) (.nob)) (.br 16 (.br 13 (.br 17 (.br 18 (.br 19 (.done) (.nob)) (.nob)) (.nob)) (.nob)) (.nob))) (.br 16 (.br 12 (.br 13 (.br 17 (.br 18 (.br 19 (.done) (.nob)) (.nob)) (.nob)) (.nob)) (.nob)) (.nob))))))))))))))))) (by kernel_rfl) (by kernel_rfl) ⟨rfl, rfl, trivial⟩ ?_
      conv => whnf
      refine ⟨⟨by omega, by omega⟩, ?_⟩
      conv => whnf
      refine ⟨?_, ?_⟩
      · conv => whnf
        refine ⟨rfl, ?_⟩
        conv => whnf
        refine ⟨by omega, ?_⟩
        conv => whnf
        refine ⟨by simp only [List.length_set, cellsX, List.length_map]; omega, ?_⟩
        conv => whnf
        refine ⟨⟨⟨rfl, rfl, trivial⟩, fun w' hw => hw.fr⟩, ?_⟩
        conv => whnf
        refine ⟨?_, ⟨?_, trivial⟩⟩
        · conv => whnf
          refine ⟨[.o 5 vk], ⟨rfl, rfl, by omega, focus_get hkl⟩, ?_⟩
          conv => whnf
          refine ⟨⟨⟨rfl, rfl, trivial⟩, fun w' hw => hw.fr⟩, ?_⟩
          conv => whnf
          refine ⟨?_, trivial⟩
          conv => whnf
          intro u1
          conv => whnf
          refine ⟨⟨⟨rfl, rfl, trivial⟩, fun w' hw => hw.fr⟩, ?_⟩
          conv => whnf
          refine ⟨?_, trivial⟩
          conv => whnf
          refine ⟨rfl, ?_⟩
          conv => whnf
          refine ⟨⟨rfl, by show (_ + 1) * 8 ≤ _; omega⟩, ?_⟩
          conv => whnf
          intro v7
          conv => whnf
          refine ⟨⟨⟨rfl, rfl, trivial⟩, fun w' hw => hw.fr⟩, ?_⟩
          conv => whnf
          refine ⟨?_, trivial⟩
          conv => whnf
          refine ⟨rfl, ?_⟩
          conv => whnf
          refine ⟨by omega, ?_⟩
          conv => whnf
          refine ⟨by simp only [List.length_set, cellsX, List.length_map]; omega, ?_⟩
          conv => whnf
          refine ⟨⟨⟨rfl, rfl, trivial⟩, fun w' hw => hw.fr⟩, ?_⟩
          conv => whnf
          refine ⟨?_, trivial⟩
          conv => whnf
          refine ⟨[.o 5 vk], ⟨rfl, rfl, by omega, focus_get hkl⟩, ?_⟩
          conv => whnf
          refine ⟨⟨⟨rfl, rfl, trivial⟩, fun w' hw => hw.fr⟩, ?_⟩
          conv => whnf
          rw [List.set_set]
          refine At.meet fun w' hw => ⟨v7, trivial, Le.of rfl rfl ⟨rfl, rfl, rfl, rfl, rfl, rfl, rfl, trivial⟩, hw.keep [5, 3, 2, 1, 0] (by rw [← happ]; rfl) rfl rfl, ⟨⟨_, _, rfl⟩, ⟨_, _, rfl⟩, trivial⟩, ⟨(nopI _).okH, fun c hc => by simp at hc; rcases hc with rfl | rfl | rfl | rfl | rfl <;> first | exact ⟨_, _, _, rfl⟩ | exact ⟨_, _, rfl⟩ | trivial, focus_ok rfl, (nopI _).okH, trivial⟩⟩
        · conv => whnf
          intro u1
          conv => whnf
          refine ⟨⟨⟨rfl, rfl, trivial⟩, fun w' hw => hw.fr⟩, ?_⟩
          conv => whnf
          refine ⟨?_, trivial⟩
          conv => whnf
          refine ⟨[.o 5 vk], ⟨rfl, rfl, by omega, focus_get hkl⟩, ?_⟩
          conv => whnf
          refine ⟨⟨⟨rfl, rfl, trivial⟩, fun w' hw => hw.fr⟩, ?_⟩
          conv => whnf
          refine ⟨?_, trivial⟩
          conv => whnf
          refine ⟨rfl, ?_⟩
          conv => whnf
          refine ⟨⟨rfl, by show (_ + 1) * 8 ≤ _; omega⟩, ?_⟩
          conv => whnf
          intro v7
          conv => whnf
          refine ⟨⟨⟨rfl, rfl, trivial⟩, fun w' hw => hw.fr⟩, ?_⟩
          conv => whnf
          refine ⟨?_, trivial⟩
          conv => whnf
          refine ⟨rfl, ?_⟩
          conv => whnf
          refine ⟨by omega, ?_⟩
          conv => whnf
          refine ⟨by simp only [List.length_set, cellsX, List.length_map]; omega, ?_⟩
          conv => whnf
          refine ⟨⟨⟨rfl, rfl, trivial⟩, fun w' hw => hw.fr⟩, ?_⟩
          conv => whnf
          refine ⟨?_, trivial⟩
          conv => whnf
          refine ⟨[.o 5 vk], ⟨rfl, rfl, by omega, focus_get hkl⟩, ?_⟩
          conv => whnf
          refine ⟨⟨⟨rfl, rfl, trivial⟩, fun w' hw => hw.fr⟩, ?_⟩
          conv => whnf
          rw [List.set_set]
          refine At.meet fun w' hw => ⟨v7, trivial, Le.of rfl rfl ⟨rfl, rfl, rfl, rfl, rfl, rfl, rfl, trivial⟩, hw.keep [5, 3, 2, 1, 0] (by rw [← happ]; rfl) rfl rfl, ⟨⟨_, _, rfl⟩, ⟨_, _, rfl⟩, trivial⟩, ⟨(nopI _).okH, fun c hc => by simp at hc; rcases hc with rfl | rfl | rfl | rfl | rfl <;> first | exact ⟨_, _, _, rfl⟩ | exact ⟨_, _, rfl⟩ | trivial, focus_ok rfl, (nopI _).okH, trivial⟩⟩
      · refine ⟨?_, trivial⟩
        conv => whnf
        intro u1
        conv => whnf
        refine ⟨⟨⟨rfl, rfl, trivial⟩, fun w' hw => hw.fr⟩, ?_⟩
        conv => whnf
        refine ⟨?_, trivial⟩
        conv => whnf
        refine ⟨rfl, ?_⟩
        conv => whnf
        refine ⟨by omega, ?_⟩
        conv => whnf
        refine ⟨by simp only [List.length_set, cellsX, List.length_map]; omega, ?_⟩
        conv => whnf
        refine ⟨⟨⟨rfl, rfl, trivial⟩, fun w' hw => hw.fr⟩, ?_⟩
        conv => whnf
        refine ⟨?_, trivial⟩
        conv => whnf
        refine ⟨[.o 5 vk], ⟨rfl, rfl, by omega, focus_get hkl⟩, ?_⟩
        conv => whnf
        refine ⟨⟨⟨rfl, rfl, trivial⟩, fun w' hw => hw.fr⟩, ?_⟩
        conv => whnf
        refine ⟨?_, trivial⟩
        conv => whnf
        refine ⟨rfl, ?_⟩
        conv => whnf
        refine ⟨⟨rfl, by show (_ + 1) * 8 ≤ _; omega⟩, ?_⟩
        conv => whnf
        intro v7
        conv => whnf
        refine ⟨⟨⟨rfl, rfl, trivial⟩, fun w' hw => hw.fr⟩, ?_⟩
        conv => whnf
        refine ⟨?_, trivial⟩
        conv => whnf
        refine ⟨rfl, ?_⟩
        conv => whnf
        refine ⟨by omega, ?_⟩
        conv => whnf
        refine ⟨by simp only [List.length_set, cellsX, List.length_map]; omega, ?_⟩
        conv => whnf
        refine ⟨⟨⟨rfl, rfl, trivial⟩, fun w' hw => hw.fr⟩, ?_⟩
        conv => whnf
        refine ⟨?_, trivial⟩
        conv => whnf
        refine ⟨[.o 5 vk], ⟨rfl, rfl, by omega, focus_get hkl⟩, ?_⟩
        conv => whnf
        refine ⟨⟨⟨rfl, rfl, trivial⟩, fun w' hw => hw.fr⟩, ?_⟩
        conv => whnf
        rw [List.set_set]
        refine At.meet fun w' hw => ⟨v7, trivial, Le.of rfl rfl ⟨rfl, rfl, rfl, rfl, rfl, rfl, rfl, trivial⟩, hw.keep [5, 3, 2, 1, 0] (by rw [← happ]; rfl) rfl rfl, ⟨⟨_, _, rfl⟩, ⟨_, _, rfl⟩, trivial⟩, ⟨(nopI _).okH, fun c hc => by simp at hc; rcases hc with rfl | rfl | rfl | rfl | rfl <;> first | exact ⟨_, _, _, rfl⟩ | exact ⟨_, _, rfl⟩ | trivial, focus_ok rfl, (nopI _).okH, trivial⟩⟩
    intro v7 _
    have happ1 : (O.map (fun l => l.map encI)).set e.f.toNat ((lf ++ [2 * (k : Int)]).map encI) = (O.set e.f.toNat (lf ++ [2 * (k : Int)])).map (fun l => l.map encI) := by rw [List.map_set]
    repeat refine At.seq ?_
    obtain ⟨lt, hlt2⟩ : ∃ l, (O.set e.f.toNat (lf ++ [2 * (k : Int)]))[e.t.toNat]? = some l := ⟨_, List.getElem?_eq_getElem (by rw [List.length_set, hat.len]; omega)⟩
    obtain ⟨vt, hvt⟩ : ∃ u, (vs.set e.f.toNat v7)[e.t.toNat]? = some u := ⟨_, List.getElem?_eq_getElem (by rw [List.length_set, hvl]; omega)⟩
    have hkt := (List.getElem?_eq_some_iff.1 hvt).1
    have hnext := hat.step he hre hlf hlt2
    have hltl : ((lt.map encI).length : Nat) ≤ 8001 := by
      rw [List.length_map]
      rcases List.mem_or_eq_of_mem_set (List.mem_of_getElem? hlt2) with q | q
      · have := hat.few lt q; omega
      · rw [q]; have := hat.few lf (List.mem_of_getElem? hlf); simp; omega
    have key : ∀ w3, Holds { N := Try.f87.ntmps, sl := [(0, some (.x ve)), (5, some (.s (.c (.p 2 b 0)))), (6, some (.i k)), (7, some (.s (.c (.p 3 be 0)))), (16, some (.x ve)), (17, some (.i (E.length : Int))), (18, some (.i k))], gl := [], hp := [(5, .row v7 3 1 ((lf ++ [2 * (k : Int)]).map encI)), (3, .box be 107 (encE e)), (2, .box b 133 [.x ve, .o 0 vF, .o 1 vO, .x nilV, .x nilV]), (1, .row vO 22 1 ((cellsX vs).set e.f.toNat [.o 5 v7])), (0, .row vF 3 1 ((List.replicate E.length (0 : Int)).map encI))], S := blkOf vk ++ (be :: (b :: (blkOf vO ++ (blkOf vF ++ [])))), ws := w2 } w3 →
        Ext w w3 ∧ Fam 3 1 w.heap.size w3 (vs.set e.f.toNat v7) ((O.set e.f.toNat (lf ++ [2 * (k : Int)])).map (fun l => l.map encI)) ∧ (∀ (j : Nat) u, (vs.set e.f.toNat v7)[j]? = some u → ∀ c ∈ blkOf u, c ∉ be :: (b :: (blkOf vO ++ (blkOf vF ++ [])))) := fun w3 hw3 => by
      have hap3 := hw3.apart (i := 5) (j := 3) rfl rfl (by decide)
      have hap2 := hw3.apart (i := 5) (j := 2) rfl rfl (by decide)
      have hap1 := hw3.apart (i := 5) (j := 1) rfl rfl (by decide)
      have hap0 := hw3.apart (i := 5) (j := 0) rfl rfl (by decide)
      have hnot : ∀ c ∈ blkOf v7, c ∉ be :: (b :: (blkOf vO ++ (blkOf vF ++ []))) := fun c hc hm => by
        simp only [List.mem_cons, List.mem_append, List.not_mem_nil, or_false] at hm
        rcases hm with rfl | rfl | hm | hm
        · exact hap3 c hc (by simp [LO.blks])
        · exact hap2 c hc (by simp [LO.blks])
        · exact hap1 c hc hm
        · exact hap0 c hc hm
      have hoth : ∀ (j : Nat) u, vs[j]? = some u → ∀ c ∈ blkOf u, c ∉ be :: (b :: (blkOf vO ++ (blkOf vF ++ []))) := fun j u hu c hc hm => by
        rcases List.mem_cons.1 hm with rfl | hm
        · have := (hfam.lt hu c hc).1; omega
        · exact hdis j u hu c hc hm
      refine ⟨Fr.over1 hx2 hw3.fr hS1, ?_, fun j u hu c hc => ?_⟩
      · rw [← happ1]
        refine hfam2.set hw3.fr hvk (fun j u hj hu c hc hm => ?_) (hw3.row (id := 5) rfl) (fun c hc => ?_) hx2.size
        · rcases List.mem_append.1 hm with hm | hm
          · exact hfam.dis j _ u vk hj hu hvk c hc hm
          · exact hoth j u hu c hc hm
        · rcases hw3.fresh (id := 5) rfl c hc with q | q
          · rcases List.mem_append.1 q with q | q
            · exact .inl q
            · exact (hnot c hc q).elim
          · exact .inr q
      · rcases get_set' hu with ⟨_, rfl⟩ | ⟨_, hu⟩
        · exact hnot c hc
        · exact hoth j u hu c hc
    refine At.reshapeH fun w3 hw3 => ⟨{ N := Try.f87.ntmps, sl := [(0, some (.x ve)), (5, some (.s (.c (.p 2 b 0)))), (6, some (.i k)), (7, some (.s (.c (.p 3 be 0)))), (16, some (.x ve)), (17, some (.i E.length)), (18, some (.i k))], gl := [], hp := [(5, .row vt 3 1 (lt.map encI)), (3, .box be 107 (encE e)), (2, .box b 133 [.x ve, .o 0 vF, .o 1 vO, .x nilV, .x nilV]), (1, .row vO 22 1 ((cellsX (vs.set e.f.toNat v7)).set e.t.toNat [.o 5 vt])), (0, .row vF 3 1 ((List.replicate E.length (0 : Int)).map encI))], S := blkOf vt ++ (be :: (b :: (blkOf vO ++ (blkOf vF ++ [])))), ws := w3 },
      Le.of rfl rfl ⟨rfl, rfl, rfl, rfl, rfl, rfl, rfl, trivial⟩, Holds.cast (fun o ho => ?_) ?_ (fun c hc => by simpa [St.blks, LO.blks] using hc) rfl, ⟨⟨_, _, rfl⟩, ⟨_, _, rfl⟩, trivial⟩, ⟨(nopI _).okH, fun c hc => by simp at hc; rcases hc with rfl | rfl | rfl | rfl | rfl <;> first | exact ⟨_, _, _, rfl⟩ | trivial, focus_ok rfl, (nopI _).okH, trivial⟩, ?_⟩
    · obtain ⟨_, hfam3, _⟩ := key w3 hw3
      simp only [List.mem_cons, List.not_mem_nil, or_false] at ho
      rcases ho with rfl | rfl | rfl | rfl | rfl
      · exact (hfam3.row _ _ _ hvt (by rw [List.getElem?_map, hlt2]; rfl)).1
      · exact hw3.box (id := 3) rfl
      · exact hw3.box (id := 2) rfl
      · exact row_focus (row_unfocus (hw3.row (id := 1) rfl)) hvt
      · exact hw3.row (id := 0) rfl
    · obtain ⟨_, hfam3, hdis3⟩ := key w3 hw3
      have hnd := hw3.nodup
      have hnd' : (blkOf v7 ++ (be :: (b :: (blkOf vO ++ (blkOf vF ++ []))))).Nodup := by simpa [St.blks, LO.blks] using hnd
      show (blkOf vt ++ (be :: (b :: (blkOf vO ++ (blkOf vF ++ []))))).Nodup
      rw [List.nodup_append] at hnd' ⊢
      exact ⟨LO.nodup (o := .row vt 3 1 []), hnd'.2.1, fun x hx y hy e' => hdis3 _ _ hvt x hx (e' ▸ hy)⟩
    obtain ⟨hx3, hfam3, hdis3⟩ := key w3 hw3
    have hge3 : ∀ c ∈ blkOf vt, w.heap.size ≤ c := fun c hc => (hfam3.lt hvt c hc).2
    have hS3 : ∀ c ∈ blkOf vt ++ (be :: (b :: (blkOf vO ++ (blkOf vF ++ [])))), w.heap.size ≤ c := fun c hc => (List.mem_append.1 hc).elim (hge3 c) (fun q => hS1 c (List.mem_append.2 (.inr q)))
    clear hw3 key
    generalize vs.set e.f.toNat v7 = vs1 at *
    generalize O.set e.f.toNat (lf ++ [2 * (k : Int)]) = O1 at *
    repeat refine At.seq ?_
    refine At.joinN (fun v8 : Value => { N := Try.f87.ntmps, sl := [(0, some (.x ve)), (5, some (.s (.c (.p 2 b 0)))), (6, some (.i k)), (7, some (.s (.c (.p 3 be 0)))), (16, some (.x ve)), (17, some (.i ((E.length : Int)))), (18, some (.i k))], gl := [], hp := [(5, .row v8 3 1 ((lt ++ [2 * (k : Int) + 1]).map encI)), (3, .box be 107 (encE e)), (2, .box b 133 [.x ve, .o 0 vF, .o 1 vO, .x nilV, .x nilV]), (1, .row vO 22 1 ((cellsX vs1).set e.t.toNat [.o 5 v8])), (0, .row vF 3 1 ((List.replicate E.length (0 : Int)).map encI))], S := blkOf vt ++ (be :: (b :: (blkOf vO ++ (blkOf vF ++ [])))), ws := w3 }) (fun v8 : Value => True) ?_ ?_
    · have happ : lt.map encI ++ [[CV.i (2 * (k : Int) + 1)]] = (lt ++ [2 * (k : Int) + 1]).map encI := by rw [List.map_append]; rfl
      repeat refine At.seq ?_
      refine At.planG tab_ok mixed [(3, .box be 107 (encE e)), (2, .box b 133 [.x ve, .o 0 vF, .o 1 vO, .x nilV, .x nilV])] (.take 0 (.take 1 (.take 2 (.take 3 (.take 4 (.take 5 (.take 6 (.take 7 (.take 8 (.take 9 (.take 10 (.take 11 (.take 14 (.take 15 (.take 16 (.br 12 (.br 13 (.br 17 (.br 18 (.br 19 (.br 20 (.done) (.nob)) (.nob)) (.nob)) (.nob)) (.br 17 (.br 13 (.br 18 (.br 19 (.br 20 (.done) (.nob)) (.nob)) (.nob)) (.nob)) (.nob))) (.br 17 (.br 12 (.br 13 (.br 18 (.br 19 (.br 20 (.done) (.nob)) (.nob)) (.nob)) (.nob)) (.nob)) (.nob)))))))))))))))))) (by kernel_rfl) (by kernel_rfl) ⟨rfl, rfl, trivial⟩ ?_
      conv => whnf
      refine ⟨⟨by omega, by omega⟩, ?_⟩
      conv => whnf
      refine ⟨⟨by omega, by omega⟩, ?_⟩
      conv => whnf
      refine ⟨?_, ?_⟩
      · conv => whnf
        refine ⟨rfl, ?_⟩
        conv => whnf
        refine ⟨by omega, ?_⟩
        conv => whnf
        refine ⟨by simp only [List.length_set, cellsX, List.length_map]; omega, ?_⟩
        conv => whnf
        refine ⟨⟨⟨rfl, rfl, trivial⟩, fun w' hw => hw.fr⟩, ?_⟩
        conv => whnf
        refine ⟨?_, ⟨?_, trivial⟩⟩
        · conv => whnf
          refine ⟨[.o 5 vt], ⟨rfl, rfl, by omega, focus_get hkt⟩, ?_⟩
          conv => whnf
          refine ⟨⟨⟨rfl, rfl, trivial⟩, fun w' hw => hw.fr⟩, ?_⟩
          conv => whnf
          refine ⟨?_, trivial⟩
          conv => whnf
          intro u1
          conv => whnf
          refine ⟨⟨⟨rfl, rfl, trivial⟩, fun w' hw => hw.fr⟩, ?_⟩
          conv => whnf
          refine ⟨?_, trivial⟩
          conv => whnf
          refine ⟨rfl, ?_⟩
          conv => whnf
          refine ⟨⟨rfl, by show (_ + 1) * 8 ≤ _; omega⟩, ?_⟩
          conv => whnf
          intro v7
          conv => whnf
          refine ⟨⟨⟨rfl, rfl, trivial⟩, fun w' hw => hw.fr⟩, ?_⟩
          conv => whnf
          refine ⟨?_, trivial⟩
          conv => whnf
          refine ⟨rfl, ?_⟩
          conv => whnf
          refine ⟨by omega, ?_⟩
          conv => whnf
          refine ⟨by simp only [List.length_set, cellsX, List.length_map]; omega, ?_⟩
          conv => whnf
          refine ⟨⟨⟨rfl, rfl, trivial⟩, fun w' hw => hw.fr⟩, ?_⟩
          conv => whnf
          refine ⟨?_, trivial⟩
          conv => whnf
          refine ⟨[.o 5 vt], ⟨rfl, rfl, by omega, focus_get hkt⟩, ?_⟩
          conv => whnf
          refine ⟨⟨⟨rfl, rfl, trivial⟩, fun w' hw => hw.fr⟩, ?_⟩
          conv => whnf
          rw [List.set_set]
          refine At.meet fun w' hw => ⟨v7, trivial, Le.of rfl rfl ⟨rfl, rfl, rfl, rfl, rfl, rfl, rfl, trivial⟩, hw.keep [5, 3, 2, 1, 0] (by rw [← happ]; rfl) rfl rfl, ⟨⟨_, _, rfl⟩, ⟨_, _, rfl⟩, trivial⟩, ⟨(nopI _).okH, fun c hc => by simp at hc; rcases hc with rfl | rfl | rfl | rfl | rfl <;> first | exact ⟨_, _, _, rfl⟩ | exact ⟨_, _, rfl⟩ | trivial, focus_ok rfl, (nopI _).okH, trivial⟩⟩
        · conv => whnf
          intro u1
          conv => whnf
          refine ⟨⟨⟨rfl, rfl, trivial⟩, fun w' hw => hw.fr⟩, ?_⟩
          conv => whnf
          refine ⟨?_, trivial⟩
          conv => whnf
          refine ⟨[.o 5 vt], ⟨rfl, rfl, by omega, focus_get hkt⟩, ?_⟩
          conv => whnf
          refine ⟨⟨⟨rfl, rfl, trivial⟩, fun w' hw => hw.fr⟩, ?_⟩
          conv => whnf
          refine ⟨?_, trivial⟩
          conv => whnf
          refine ⟨rfl, ?_⟩
          conv => whnf
          refine ⟨⟨rfl, by show (_ + 1) * 8 ≤ _; omega⟩, ?_⟩
          conv => whnf
          intro v7
          conv => whnf
          refine ⟨⟨⟨rfl, rfl, trivial⟩, fun w' hw => hw.fr⟩, ?_⟩
          conv => whnf
          refine ⟨?_, trivial⟩
          conv => whnf
          refine ⟨rfl, ?_⟩
          conv => whnf
          refine ⟨by omega, ?_⟩
          conv => whnf
          refine ⟨by simp only [List.length_set, cellsX, List.length_map]; omega, ?_⟩
          conv => whnf
          refine ⟨⟨⟨rfl, rfl, trivial⟩, fun w' hw => hw.fr⟩, ?_⟩
          conv => whnf
          refine ⟨?_, trivial⟩
          conv => whnf
          refine ⟨[.o 5 vt], ⟨rfl, rfl, by omega, focus_get hkt⟩, ?_⟩
          conv => whnf
          refine ⟨⟨⟨rfl, rfl, trivial⟩, fun w' hw => hw.fr⟩, ?_⟩
          conv => whnf
          rw [List.set_set]
          refine At.meet fun w' hw => ⟨v7, trivial, Le.of rfl rfl ⟨rfl, rfl, rfl, rfl, rfl, rfl, rfl, trivial⟩, hw.keep [5, 3, 2, 1, 0] (by rw [← happ]; rfl) rfl rfl, ⟨⟨_, _, rfl⟩, ⟨_, _, rfl⟩, trivial⟩, ⟨(nopI _).okH, fun c hc => by simp at hc; rcases hc with rfl | rfl | rfl | rfl | rfl <;> first | exact ⟨_, _, _, rfl⟩ | exact ⟨_, _, rfl⟩ | trivial, focus_ok rfl, (nopI _).okH, trivial⟩⟩
      · refine ⟨?_, trivial⟩
        conv => whnf
        intro u1
        conv => whnf
        refine ⟨⟨⟨rfl, rfl, trivial⟩, fun w' hw => hw.fr⟩, ?_⟩
        conv => whnf
        refine ⟨?_, trivial⟩
        conv => whnf
        refine ⟨rfl, ?_⟩
        conv => whnf
        refine ⟨by omega, ?_⟩
        conv => whnf
        refine ⟨by simp only [List.length_set, cellsX, List.length_map]; omega, ?_⟩
        conv => whnf
        refine ⟨⟨⟨rfl, rfl, trivial⟩, fun w' hw => hw.fr⟩, ?_⟩
        conv => whnf
        refine ⟨?_, trivial⟩
        conv => whnf
        refine ⟨[.o 5 vt], ⟨rfl, rfl, by omega, focus_get hkt⟩, ?_⟩
        conv => whnf
        refine ⟨⟨⟨rfl, rfl, trivial⟩, fun w' hw => hw.fr⟩, ?_⟩
        conv => whnf
        refine ⟨?_, trivial⟩
        conv => whnf
        refine ⟨rfl, ?_⟩
        conv => whnf
        refine ⟨⟨rfl, by show (_ + 1) * 8 ≤ _; omega⟩, ?_⟩
        conv => whnf
        intro v7
        conv => whnf
        refine ⟨⟨⟨rfl, rfl, trivial⟩, fun w' hw => hw.fr⟩, ?_⟩
        conv => whnf
        refine ⟨?_, trivial⟩
        conv => whnf
        refine ⟨rfl, ?_⟩
        conv => whnf
        refine ⟨by omega, ?_⟩
        conv => whnf
        refine ⟨by simp only [List.length_set, cellsX, List.length_map]; omega, ?_⟩
        conv => whnf
        refine ⟨⟨⟨rfl, rfl, trivial⟩, fun w' hw => hw.fr⟩, ?_⟩
        conv => whnf
        refine ⟨?_, trivial⟩
        conv => whnf
        refine ⟨[.o 5 vt], ⟨rfl, rfl, by omega, focus_get hkt⟩, ?_⟩
        conv => whnf
        refine ⟨⟨⟨rfl, rfl, trivial⟩, fun w' hw => hw.fr⟩, ?_⟩
        conv => whnf
        rw [List.set_set]
        refine At.meet fun w' hw => ⟨v7, trivial, Le.of rfl rfl ⟨rfl, rfl, rfl, rfl, rfl, rfl, rfl, trivial⟩, hw.keep [5, 3, 2, 1, 0] (by rw [← happ]; rfl) rfl rfl, ⟨⟨_, _, rfl⟩, ⟨_, _, rfl⟩, trivial⟩, ⟨(nopI _).okH, fun c hc => by simp at hc; rcases hc with rfl | rfl | rfl | rfl | rfl <;> first | exact ⟨_, _, _, rfl⟩ | exact ⟨_, _, rfl⟩ | trivial, focus_ok rfl, (nopI _).okH, trivial⟩⟩
    intro v8 _
    have happ2 : (O1.map (fun l => l.map encI)).set e.t.toNat ((lt ++ [2 * (k : Int) + 1]).map encI) = (O1.set e.t.toNat (lt ++ [2 * (k : Int) + 1])).map (fun l => l.map encI) := by rw [List.map_set]
    repeat refine At.seq ?_
    refine At.region tab_ok ?_
    conv => whnf
    refine ⟨⟨by omega, by omega⟩, ?_⟩
    conv => whnf
    refine At.nextH fun w' hw => ⟨(k + 1, vs1.set e.t.toNat v8, w', O1.set e.t.toNat (lt ++ [2 * (k : Int) + 1])), ⟨by simp only; omega, Fr.over1 hx3 hw.fr hS3, ?_, fun j u hu c hc => ?_, hnext⟩, by simp only; omega, Le.of rfl rfl ⟨rfl, rfl, rfl, rfl, rfl, trivial⟩, Holds.cast (fun o ho => ?_) ?_ (fun c hc => by simpa [St.blks, LO.blks] using hc) rfl, ⟨⟨_, _, rfl⟩, trivial⟩, ⟨fun c hc => by simp at hc; rcases hc with rfl | rfl | rfl | rfl | rfl <;> first | exact ⟨_, _, _, rfl⟩ | exact ⟨_, _, rfl⟩ | trivial, (cellsX_nop _).okH, (nopI _).okH, trivial⟩⟩
    · simp only
      rw [← happ2]
      refine hfam3.set hw.fr hvt (fun j u hj hu c hc hm => ?_) (hw.row (id := 5) rfl) (fun c hc => ?_) hx3.size
      · rcases List.mem_append.1 hm with hm | hm
        · exact hfam3.dis j _ u vt hj hu hvt c hc hm
        · exact hdis3 j u hu c hc hm
      · have hap3 := hw.apart (i := 5) (j := 3) rfl rfl (by decide)
        have hap2 := hw.apart (i := 5) (j := 2) rfl rfl (by decide)
        have hap1 := hw.apart (i := 5) (j := 1) rfl rfl (by decide)
        have hap0 := hw.apart (i := 5) (j := 0) rfl rfl (by decide)
        rcases hw.fresh (id := 5) rfl c hc with q | q
        · rcases List.mem_append.1 q with q | q
          · exact .inl q
          · exfalso
            simp only [List.mem_cons, List.mem_append, List.not_mem_nil, or_false] at q
            rcases q with rfl | rfl | q | q
            · exact hap3 c hc (by simp [LO.blks])
            · exact hap2 c hc (by simp [LO.blks])
            · exact hap1 c hc q
            · exact hap0 c hc q
        · exact .inr q
    · rcases get_set' hu with ⟨_, rfl⟩ | ⟨_, hu⟩
      · have hap2 := hw.apart (i := 5) (j := 2) rfl rfl (by decide)
        have hap1 := hw.apart (i := 5) (j := 1) rfl rfl (by decide)
        have hap0 := hw.apart (i := 5) (j := 0) rfl rfl (by decide)
        intro q
        simp only [List.mem_cons, List.mem_append, List.not_mem_nil, or_false] at q
        rcases q with rfl | q | q
        · exact hap2 c hc (by simp [LO.blks])
        · exact hap1 c hc q
        · exact hap0 c hc q
      · exact fun q => hdis3 j u hu c hc (List.mem_cons_of_mem _ q)
    · simp only [List.mem_cons, List.not_mem_nil, or_false] at ho
      rcases ho with rfl | rfl | rfl
      · exact hw.box (id := 2) rfl
      · exact row_unfocus (hw.row (id := 1) rfl)
      · exact hw.row (id := 0) rfl
    · have hnd := hw.nodup
      show (b :: (blkOf vO ++ (blkOf vF ++ []))).Nodup
      have hnd' : (blkOf v8 ++ (be :: (b :: (blkOf vO ++ (blkOf vF ++ []))))).Nodup := by simpa [St.blks, LO.blks] using hnd
      rw [List.nodup_append] at hnd'
      exact (List.nodup_cons.1 hnd'.2.1).2
  have hke : k = E.length := by have := of_decide_eq_false hc; omega
  subst hke
  repeat refine At.seq ?_
  refine At.region tab_ok ?_
  conv => whnf
  repeat refine At.seq ?_
  refine At.ret (At.doneB tab_ok hB _ rfl fun w' hw => ⟨b, vF, vO, O, rfl, hat.done hr, fun l hl => by have := hat.few l hl; omega, hw.box (id := 2) (cells := [.x ve, .o 0 vF, .o 1 vO, .x nilV, .x nilV]) rfl, hw.row (id := 0) rfl, fun c hc => hS0 c (by rcases List.mem_cons.1 hc with rfl | hc; exact List.mem_cons_self ..; simp [hc]), fun hc => hw.apart (i := 0) (j := 2) rfl rfl (by decide) b hc (by simp [LO.blks]), fun T hT => Fam.slOfS (enc := encI) (size := 1) (hl := fun _ => rfl) (xs := O) (hfam.frame hw.fr hdis) (hw.row (id := 1) rfl) (fun c hc => ⟨fun q => ?_, fun j u hu q => ?_⟩) (by have := hat.len; omega) (fun l hl => by have := hat.few l hl; omega), Fr.over1 hx1 hw.fr hS0⟩)
  · rcases hT c hc with q2 | q2
    · have := hS0 c (by simp [q]); omega
    · rcases List.mem_cons.1 q2 with rfl | q2
      · exact hw.apart (i := 1) (j := 2) rfl rfl (by decide) c q (by simp [LO.blks])
      · exact hw.apart (i := 1) (j := 0) rfl rfl (by decide) c q q2
  · rcases hT c hc with q2 | q2
    · have := (hfam.lt hu c q).2; omega
    · refine hdis j u hu c q ?_
      rcases List.mem_cons.1 q2 with rfl | q2
      · exact List.mem_cons_self ..
      · simp [q2]
end Go.Proofs.Ytjilbkioieicbaa

/- Walks: flow.Max. -/
namespace Go.Vc
theorem Holds.of_sub {st st' : St} {w : World} (h : Holds st w) (ho : ∀ o ∈ st'.hp, o.2.holds w) (hs : List.Sublist st'.blks st.blks) (h2 : st'.S = st.S) (h3 : st'.ws = st.ws) : Holds st' w :=
  ⟨ho, List.Sublist.nodup hs h.nodup, by rw [h2, h3]; exact h.fr, fun b hb => by rw [h2, h3]; exact h.own b (hs.subset hb)⟩
theorem Holds.of_mem {st st' : St} {w : World} (h : Holds st w) (ho : ∀ o ∈ st'.hp, o.2.holds w) (hn : st'.blks.Nodup) (hm : ∀ b ∈ st'.blks, b ∈ st.blks) (h2 : st'.S = st.S) (h3 : st'.ws = st.ws) : Holds st' w :=
  ⟨ho, hn, by rw [h2, h3]; exact h.fr, fun b hb => by rw [h2, h3]; exact h.own b (hm b hb)⟩
end Go.Vc
namespace Go.Proofs.Ytjilbkioieicbaa
open Go.Vc Rt
set_option linter.unusedVariables false
set_option linter.unusedSimpArgs false
def capSum : List Pl.Edge → Int
  | [] => 0
  | e :: E => e.c + capSum E
theorem net_le : ∀ {E : List Pl.Edge} {F : List Int} {v : Int}, Pl.Bnd E F → capsOk E → Pl.net E F v ≤ capSum E
  | [], F, v, _, _ => by simp [Pl.net, capSum]
  | e :: E, [], v, hb, hc => by
    have : ∀ E : List Pl.Edge, capsOk E → 0 ≤ capSum E := by
      intro E
      induction E with
      | nil => intro _; simp [capSum]
      | cons e E ih => intro h; have := (h e (by simp)).1; have := ih fun x hx => h x (by simp [hx]); simp only [capSum]; omega
    simp only [Pl.net]; exact this _ hc
  | e :: E, x :: F, v, hb, hc => by
    have h1 := hb 0 e x (by simp) (by simp)
    have h2 := (hc e (by simp)).1
    have ih := net_le (E := E) (F := F) (v := v) (fun i e' x' h3 h4 => hb (i + 1) e' x' (by simpa using h3) (by simpa using h4)) (fun y hy => hc y (by simp [hy]))
    simp only [Pl.net, capSum]
    split <;> split <;> omega
theorem capSum_le {E : List Pl.Edge} (hc : capsOk E) : 0 ≤ capSum E ∧ capSum E ≤ 1099511627776 * E.length := by
  induction E with
  | nil => simp [capSum]
  | cons e E ih =>
    have h1 := hc e (by simp)
    have h2 := ih fun x hx => hc x (by simp [hx])
    simp only [capSum, List.length_cons]; omega
theorem net_zero : ∀ (E : List Pl.Edge) (v : Int), Pl.net E (List.replicate E.length 0) v = 0
  | [], v => rfl
  | e :: E, v => by
    have := net_zero E v
    simp only [List.length_cons, List.replicate_succ, Pl.net, this]; split <;> split <;> omega
/-- What the flow is, as far as it goes. -/
structure FlowOk (E : List Pl.Edge) (n : Nat) (s t : Int) (F : List Int) (val : Int) : Prop where
  len : F.length = E.length
  bnd : Pl.Bnd E F
  net : ∀ v : Nat, v < n → (v : Int) ≠ s → (v : Int) ≠ t → Pl.net E F v = 0
  val : Pl.net E F s = val
theorem FlowOk.push {E : List Pl.Edge} {O : List (List Int)} {L X F' X' F : List Int} {n : Nat} {s t most val r : Int} (h : FlowOk E n s t F val) (hp : Pl.Pushed E O L t s most F X F' X' r) (hne : s ≠ t) : FlowOk E n s t F' (val + r) :=
  ⟨hp.len.trans h.len, hp.bnd, fun v hv h1 h2 => by rw [hp.net, if_neg h1, if_neg h2, h.net v hv h1 h2]; omega, by rw [hp.net, if_pos rfl, if_neg hne, h.val]; omega⟩
def cutL (L : List Int) : List Bool := L.map (fun x => decide (0 ≤ x))
theorem cutL_eq (L : List Int) : (fun v => decide (0 ≤ Pl.lv L v)) = Pl.cutF (cutL L) := by
  funext v
  unfold Pl.cutF cutL Pl.lv
  rw [List.getElem?_map]
  cases L[v.toNat]? with
  | none => rfl
  | some x => rfl
def boxN (b : Nat) (ve vF vO vL vX : Value) : LO := .box b 133 [.x ve, .o 1 vF, .x vO, .o 2 vL, .o 3 vX]
theorem boxN_ok {hp : List (Nat × LO)} {b : Nat} {ve vF vO vL vX : Value} (hF : ∃ a n c, vF = .slice a n c) (hL : ∃ a n c, vL = .slice a n c) (hX : ∃ a n c, vX = .slice a n c) : LOok hp (boxN b ve vF vO vL vX) := fun c hc => by
  simp at hc
  rcases hc with rfl | rfl | rfl | rfl | rfl
  · trivial
  · exact hF
  · trivial
  · exact hL
  · exact hX
theorem reach_call {st : St} {d : Option Nat} {K : St → Prop} {b : Nat} {ve vF vO vL vX : Value} {E : List Pl.Edge} {F L0 X : List Int} {O : List (List Int)} {n : Nat} {s : Int} (h0 : Vc.look st.hp 0 = some (boxN b ve vF vO vL vX)) (h1 : Vc.look st.hp 1 = some (.row vF 3 1 (F.map encI))) (h2 : Vc.look st.hp 2 = some (.row vL 3 1 (L0.map encI))) (h3 : Vc.look st.hp 3 = some (.row vX 3 1 (X.map encI)))
    (sE : SlOf edT st.S st.ws ve E) (sO : SlOf (slT intT) st.S st.ws vO O) (hA : Pl.Arcs E O n) (hn : n ≤ 600) (hs : 0 ≤ s ∧ s < n) (hEl : E.length ≤ 4000) (hl : F.length = E.length) (hbd : Pl.Bnd E F) (hcap : capsOk E) (hOl : ∀ l ∈ O, l.length ≤ 8000)
    (hk : ∀ vL' L, (∃ a n c, vL' = .slice a n c) → Pl.Reached E O F s L → L.length = n → lowL n L → hpSetK st.hp 2 (.row vL' 3 1 (L.map encI)) (fun hp1 => hpSetK hp1 0 (boxN b ve vF vO vL' vX) (fun hp => st.withHp hp (fun st' => goPut st' d (.tup []) K)))) : UCall Try.prog st 88 [ptr b, vI s] d K := by
  refine two_call (i1 := 2) (i2 := 0) b88 h2 h0 (by decide) (fun r o1' o2' => ∃ vL' L, r = .tup [] ∧ o1' = .row vL' 3 1 (L.map encI) ∧ o2' = boxN b ve vF vO vL' vX ∧ (∃ a n c, vL' = .slice a n c) ∧ (∃ a n c, vF = .slice a n c) ∧ (∃ a n c, vX = .slice a n c) ∧ Pl.Reached E O F s L ∧ L.length = n ∧ lowL n L) (fun w hw => ?_) ?_
  · have hbm : b ∈ st.blks := List.mem_flatMap.2 ⟨_, look_mem h0, by simp [boxN, LO.blks]⟩
    have aE := (hw.lift sE).avoid (S' := [b]) (fun c hc => .inl (by rw [List.mem_singleton.1 hc]; exact hbm))
    have aO := (hw.lift sO).avoid (S' := [b]) (fun c hc => .inl (by rw [List.mem_singleton.1 hc]; exact hbm))
    have aF : SlOf intT [b] w vF F := SlOf.of_row (enc := fun n => [.i n]) (hl := fun _ => rfl) (hw.row h1) (fun c hc hc2 => hw.apart h1 h0 (by decide) c hc (by simpa [boxN, LO.blks] using hc2)) (by omega)
    refine (reach_c E F O n s b ve vF vO vL vX w (hw.objs _ (look_mem h0)) aE aF aO hA hn hs hEl hl hbd hcap (fun l hl => by have := hOl l hl; omega)).mono ?_
    rintro e w' ⟨he, vL', L, hr, hlen, hlow, hbox, hrow, hfresh, hf⟩
    refine ⟨.tup [], _, _, he, ⟨vL', L, rfl, rfl, rfl, ownsAt_slice hrow.1, ownsAt_slice (hw.row h1).1, ownsAt_slice (hw.row h3).1, hr, hlen, hlow⟩, hrow, hbox, hf.mono fun c hc => .inl (List.mem_append.2 (.inr (by simpa [boxN, LO.blks] using hc))), fun c hc => .inr (hfresh c hc), fun c hc => hc⟩
  · rintro r o1' o2' w' ⟨vL', L, rfl, rfl, rfl, q1, q2, q3, q4, q5, q6⟩ hh1 hh2
    exact ⟨⟨stays_row, stays_box, ⟨rows_some hh1, (nopI _).ok⟩, boxN_ok q2 q1 q3, fun v hv => by cases hv⟩, hk vL' L q1 q4 q5 q6⟩
theorem push_call {st : St} {d : Option Nat} {K : St → Prop} {b : Nat} {ve vF vO vL vX : Value} {E : List Pl.Edge} {F L X : List Int} {O : List (List Int)} {n : Nat} {s t : Int} (h0 : Vc.look st.hp 0 = some (boxN b ve vF vO vL vX)) (h1 : Vc.look st.hp 1 = some (.row vF 3 1 (F.map encI))) (h2 : Vc.look st.hp 2 = some (.row vL 3 1 (L.map encI))) (h3 : Vc.look st.hp 3 = some (.row vX 3 1 (X.map encI)))
    (sE : SlOf edT st.S st.ws ve E) (sO : SlOf (slT intT) st.S st.ws vO O) (N : NetP E O n L t) (hs : 0 ≤ s ∧ s < n) (hl : F.length = E.length) (hXl : X.length = n) (hbd : Pl.Bnd E F) (hnx : Pl.NxOk O X) (hinv : Pl.Inv E O L t F X)
    (hk : ∀ r F' X', Pl.Pushed E O L t s 1152921504606846976 F X F' X' r → hpSetK st.hp 1 (.row vF 3 1 (F'.map encI)) (fun hp1 => hpSetK hp1 3 (.row vX 3 1 (X'.map encI)) (fun hp => st.withHp hp (fun st' => goPut st' d (.i r) K)))) : UCall Try.prog st 89 [ptr b, vI s, vI t, vI 1152921504606846976] d K := by
  refine two_call (i1 := 1) (i2 := 3) b89 h1 h3 (by decide) (fun r o1' o2' => ∃ r0 F' X', r = .i r0 ∧ o1' = .row vF 3 1 (F'.map encI) ∧ o2' = .row vX 3 1 (X'.map encI) ∧ Pl.Pushed E O L t s 1152921504606846976 F X F' X' r0) (fun w hw => ?_) ?_
  · have hsub : ∀ c ∈ b :: (blkOf vF ++ blkOf vX), c ∈ st.blks := fun c hc => by
      rcases List.mem_cons.1 hc with rfl | hc
      · exact List.mem_flatMap.2 ⟨_, look_mem h0, by simp [boxN, LO.blks]⟩
      · rcases List.mem_append.1 hc with hc | hc
        · exact List.mem_flatMap.2 ⟨_, look_mem h1, hc⟩
        · exact List.mem_flatMap.2 ⟨_, look_mem h3, hc⟩
    have a10 := hw.apart h1 h0 (by decide)
    have a30 := hw.apart h3 h0 (by decide)
    have a13 := hw.apart h1 h3 (by decide)
    have a20 := hw.apart h2 h0 (by decide)
    have a21 := hw.apart h2 h1 (by decide)
    have a23 := hw.apart h2 h3 (by decide)
    have nb : ∀ c, c ∈ (boxN b ve vF vO vL vX).blks ↔ c = b := fun c => by simp [boxN, LO.blks]
    refine (push_c N b ve vF vO vL vX (((n : Int) - Pl.lv L s).toNat + 1) s 1152921504606846976 F X w (by omega) hs (by omega) ⟨hw.objs _ (look_mem h0), hw.row h1, hw.row h3, ?_, (hw.lift sE).avoid (fun c hc => .inl (hsub c hc)), (hw.lift sO).avoid (fun c hc => .inl (hsub c hc)), SlOf.of_row (enc := fun n => [.i n]) (hl := fun _ => rfl) (hw.row h2) (fun c hc hc2 => ?_) (by have := N.Ll; have := N.n6; omega)⟩ hl hXl hbd hnx hinv).mono ?_
    · rw [List.nodup_cons, List.mem_append, List.nodup_append]
      exact ⟨fun hc => hc.elim (fun hc => a10 b hc ((nb b).2 rfl)) (fun hc => a30 b hc ((nb b).2 rfl)), LO.nodup (o := .row vF 3 1 []), LO.nodup (o := .row vX 3 1 []), fun x hx y hy e => a13 x hx (e ▸ hy)⟩
    · rcases List.mem_cons.1 hc2 with rfl | hc2
      · exact a20 c hc ((nb c).2 rfl)
      · rcases List.mem_append.1 hc2 with hc2 | hc2
        · exact a21 c hc hc2
        · exact a23 c hc hc2
    · rintro e w' ⟨r, F', X', he, hp, q1, q2, q3⟩
      exact ⟨.i r, _, _, he, ⟨r, F', X', rfl, rfl, rfl, hp⟩, q1, q2, q3, fun c hc => .inl hc, fun c hc => hc⟩
  · rintro r o1' o2' w' ⟨r0, F', X', rfl, rfl, rfl, hp⟩ hh1 hh2
    exact ⟨⟨stays_row, stays_row, ⟨rows_some hh1, (nopI _).ok⟩, ⟨rows_some hh2, (nopI _).ok⟩, trivial⟩, hk r0 F' X' hp⟩
theorem max_c (E : List Pl.Edge) (n : Nat) (s t : Int) (S : List Nat) (ve : Value) (w : World) (h : SlOf edT S w ve E) (R : RightF E n s t) :
    Calls Try.prog 60 #[ve, vI n, vI s, vI t] w (fun e w' => ∃ F c val vs, Pl.Max E n s t F (Pl.cutF c) ∧ c.length = n ∧ e = .returned (toRV (resSV [.row 3 1 (F.map encI), .p (.c (.i val)), .row 4 1 (c.map encBo), .p (.c (.i 0))] vs)).den ∧ resOk w.heap.size w' [.row 3 1 (F.map encI), .p (.c (.i val)), .row 4 1 (c.map encBo), .p (.c (.i 0))] vs ∧ Ext w w') := by
  replace h := h.avoid (S' := []) (fun b hb => by cases hb)
  have hn6 := R.n6
  have hn2 := R.n2
  have hlen := R.len
  have hs0 := R.s0
  have ht0 := R.t0
  have hcap : capsOk E := fun e he => (R.e e he).2.2
  have hB := capSum_le hcap
  refine calls_plainB [.x ve, .i n, .i s, .i t] Try.func60 rfl rfl (Nat.le_of_ble_eq_true rfl) rfl fun B hB0 => ?_
  repeat refine At.seq ?_
  refine At.region tab_ok ?_
  conv => whnf
  repeat refine At.seq ?_
  refine At.region tab_ok ?_
  conv => whnf
  refine ans_call b86 rfl (fun w' hw => rightF_c E n s t [] ve w' (h.fr hw.fr) R) ?_
  conv => whnf
  repeat refine At.seq ?_
  refine At.cond (t := false) rfl (fun hq => by cases hq) (fun hq => At.skip ?_)
  repeat refine At.seq ?_
  refine At.region tab_ok ?_
  conv => whnf
  refine .inl ⟨b87, fun hwf w0 hw0 => ?_⟩
  refine (openF_c E n [] ve w0 (h.fr hw0.fr) (by omega) hlen (fun e he => by have := R.e e he; omega)).mono ?_
  rintro e w1 ⟨b, vF, vO, O, rfl, hA, hOl, hbox, hrowF, hfr, hbn, hslO, hx⟩
  have hx1 : Ext w w1 := hw0.fr.trans hx
  have hS : ∀ c ∈ b :: (blkOf vF ++ []), w.heap.size ≤ c := fun c hc => Nat.le_trans hw0.fr.size (hfr c (by simpa using hc))
  have sE : SlOf edT (b :: (blkOf vF ++ [])) w1 ve E := (h.avoid (S' := b :: (blkOf vF ++ [])) (fun c hc => .inr (hS c hc))).ext hx1
  have sO : SlOf (slT intT) (b :: (blkOf vF ++ [])) w1 vO O := hslO _ (fun c hc => .inr (by simpa using hc))
  have hH : ∀ {N : Nat} {sl : List (Nat × Option RV)}, Holds { N := N, sl := sl, gl := [], hp := [(0, .box b 133 [.x ve, .o 1 vF, .x vO, .o 2 nilV, .o 3 nilV]), (1, .row vF 3 1 ((List.replicate E.length (0 : Int)).map encI)), (2, .row nilV 3 1 (([] : List Int).map encI)), (3, .row nilV 3 1 (([] : List Int).map encI))], S := b :: (blkOf vF ++ []), ws := w1 } w1 := fun {N sl} =>
    Holds.cast (fun o ho => by
      simp only [List.mem_cons, List.not_mem_nil, or_false] at ho
      rcases ho with rfl | rfl | rfl | rfl
      · exact hbox
      · exact hrowF
      · exact nil_holds
      · exact nil_holds) (by
      show (b :: (blkOf vF ++ [])).Nodup
      rw [List.append_nil, List.nodup_cons]
      exact ⟨hbn, LO.nodup (o := .row vF 3 1 [])⟩) (fun c hc => hc) rfl
  refine ⟨.s (.c (.p 0 b 0)), { N := _, sl := _, gl := [], hp := [(0, .box b 133 [.x ve, .o 1 vF, .x vO, .o 2 nilV, .o 3 nilV]), (1, .row vF 3 1 ((List.replicate E.length (0 : Int)).map encI)), (2, .row nilV 3 1 (([] : List Int).map encI)), (3, .row nilV 3 1 (([] : List Int).map encI))], S := b :: (blkOf vF ++ []), ws := w1 }, rfl, ⟨rfl, rfl, rfl, rfl⟩, WF.objs hH trivial ⟨fun c hc => by simp at hc; rcases hc with rfl | rfl | rfl | rfl | rfl <;> first | exact ⟨_, _, _, rfl⟩ | trivial, (nopI _).okH, (nopI _).okH, (nopI _).okH, trivial⟩, ⟨_, _, rfl⟩, hH, ?_⟩
  clear hH hrowF hbox
  conv => whnf
  have hzl : (List.replicate E.length (0 : Int)).length = E.length := by simp
  have hz : FlowOk E n s t (List.replicate E.length (0 : Int)) 0 := ⟨hzl, fun i e x h1 h2 => by
    rw [List.eq_of_mem_replicate (List.mem_of_getElem? h2)]; have := (hcap e (List.mem_of_getElem? h1)).1; omega, fun v _ _ _ => net_zero E v, net_zero E s⟩
  repeat refine At.seq ?_
  refine At.region tab_ok ?_
  conv => whnf
  repeat refine At.seq ?_
  refine At.region tab_ok ?_
  conv => whnf
  refine reach_call (X := []) (L0 := []) (F := List.replicate E.length (0 : Int)) rfl rfl rfl rfl sE sO hA (by omega) ⟨hs0.1, by omega⟩ hlen hzl hz.bnd hcap hOl ?_
  rintro vL0 L0 hsl0 hre0 hL0 hlow0
  conv => whnf
  repeat refine At.seq ?_
  refine At.block ?_
  refine At.loopH (fun p : (Value × List Int) × (Value × List Int) × List Int × Int => { N := Try.f60.ntmps, sl := [(1, some (.i ((n : Int)))), (2, some (.i s)), (3, some (.i t)), (12, some (.s (.c (.p 0 b 0)))), (13, some (.i p.2.2.2))], gl := [], hp := [(0, .box b 133 [.x ve, .o 1 vF, .x vO, .o 2 p.1.1, .o 3 p.2.1.1]), (1, .row vF 3 1 (p.2.2.1.map encI)), (2, .row p.1.1 3 1 (p.1.2.map encI)), (3, .row p.2.1.1 3 1 (p.2.1.2.map encI))], S := b :: (blkOf vF ++ []), ws := w1 }) (fun p : (Value × List Int) × (Value × List Int) × List Int × Int => Pl.Reached E O p.2.2.1 s p.1.2 ∧ p.1.2.length = n ∧ lowL n p.1.2 ∧ FlowOk E n s t p.2.2.1 p.2.2.2 ∧ 0 ≤ p.2.2.2) (fun p : (Value × List Int) × (Value × List Int) × List Int × Int => (capSum E - p.2.2.2).toNat)
    (fun w' hw => ⟨((vL0, L0), (nilV, []), List.replicate E.length (0 : Int), 0), ⟨hre0, hL0, hlow0, hz, Int.le_refl _⟩, Le.of rfl rfl ⟨rfl, rfl, rfl, rfl, rfl, trivial⟩, hw.keep [0, 1, 2, 3] rfl rfl rfl, ⟨⟨_, _, rfl⟩, trivial⟩, ⟨fun c hc => by simp at hc; rcases hc with rfl | rfl | rfl | rfl | rfl <;> first | exact ⟨_, _, _, rfl⟩ | exact ⟨_, _, rfl⟩ | trivial, (nopI _).okH, (nopI _).okH, (nopI _).okH, trivial⟩⟩) ?_
  rintro ⟨⟨vL, L⟩, ⟨vX, X⟩, F, val⟩ ⟨hre, hLl, hlow, hfl, hv0⟩
  simp only at hre hLl hlow hfl hv0 ⊢
  have hgt := lv_at (L := L) ht0.1 (by omega)
  have hvb := net_le (v := s) hfl.bnd hcap
  rw [hfl.val] at hvb
  repeat refine At.seq ?_
  refine At.region tab_ok ?_
  conv => whnf
  refine ⟨rfl, ?_⟩
  conv => whnf
  refine ⟨by omega, ?_⟩
  conv => whnf
  refine ⟨by rw [List.length_map]; omega, ?_⟩
  conv => whnf
  refine ⟨encI (Pl.lv L t), ⟨rfl, rfl, by omega, by rw [List.getElem?_map, hgt]; rfl⟩, ?_⟩
  conv => whnf
  repeat refine At.seq ?_
  refine At.cond rfl (fun hc => At.skip ?_) (fun hc => At.exit ?_)
  · have htr : 0 ≤ Pl.lv L t := of_decide_eq_true hc
    have N : NetP E O n L t := ⟨hA, by omega, hlen, hcap, fun l hl => by have := hOl l hl; omega, hLl, hlow, ⟨ht0.1, by omega⟩⟩
    have hrz : List.replicate (n : Int).toNat [CV.i 0] = (List.replicate n (0 : Int)).map encI := by simp [encI]
    have hnx0 : Pl.NxOk O (List.replicate n (0 : Int)) := fun v l x _ hx => by rw [List.eq_of_mem_replicate (List.mem_of_getElem? hx)]; omega
    have hin0 : Pl.Inv E O L t F (List.replicate n (0 : Int)) := fun v l j x a _ hx hj => by rw [List.eq_of_mem_replicate (List.mem_of_getElem? hx)] at hj; omega
    repeat refine At.seq ?_
    refine At.block ?_
    repeat refine At.seq ?_
    refine At.region tab_ok ?_
    conv => whnf
    refine ⟨⟨rfl, by omega, by show (n : Int) * 8 ≤ _; omega⟩, ?_⟩
    conv => whnf
    intro vX1
    conv => whnf
    rw [hrz]
    repeat refine At.seq ?_
    refine At.block ?_
    refine At.loopH (fun p : List Int × List Int × Int => { N := Try.f60.ntmps, sl := [(1, some (.i ((n : Int)))), (2, some (.i s)), (3, some (.i t)), (12, some (.s (.c (.p 0 b 0)))), (13, some (.i p.2.2))], gl := [], hp := [(0, .box b 133 [.x ve, .o 1 vF, .x vO, .o 2 vL, .o 3 vX1]), (1, .row vF 3 1 (p.2.1.map encI)), (2, .row vL 3 1 (L.map encI)), (3, .row vX1 3 1 (p.1.map encI))], S := b :: (blkOf vF ++ []), ws := w1 }) (fun p : List Int × List Int × Int => Pl.NxOk O p.1 ∧ Pl.Inv E O L t p.2.1 p.1 ∧ p.1.length = n ∧ FlowOk E n s t p.2.1 p.2.2 ∧ ((p.2.1 = F ∧ p.2.2 = val) ∨ val < p.2.2)) (fun p : List Int × List Int × Int => (capSum E - p.2.2).toNat)
      (fun w' hw => ⟨(List.replicate n (0 : Int), F, val), ⟨hnx0, hin0, by simp, hfl, .inl ⟨rfl, rfl⟩⟩, Le.of rfl rfl ⟨rfl, rfl, rfl, rfl, rfl, trivial⟩, hw.of_mem (fun o ho => ?_) ?_ (fun c hc => ?_) rfl rfl, ⟨⟨_, _, rfl⟩, trivial⟩, ⟨fun c hc => by simp at hc; rcases hc with rfl | rfl | rfl | rfl | rfl <;> first | exact ⟨_, _, _, rfl⟩ | exact ⟨_, _, rfl⟩ | trivial, (nopI _).okH, (nopI _).okH, (nopI _).okH, trivial⟩⟩) ?_
    · simp only [List.mem_cons, List.not_mem_nil, or_false] at ho
      rcases ho with rfl | rfl | rfl | rfl
      · exact hw.box (id := 0) (cells := [.x ve, .o 1 vF, .x vO, .o 2 vL, .o 4 vX1]) rfl
      · exact hw.row (id := 1) rfl
      · exact hw.row (id := 2) rfl
      · exact hw.row (id := 4) rfl
    · have a01 := hw.apart (i := 0) (j := 1) rfl rfl (by decide) b (by simp [LO.blks])
      have a02 := hw.apart (i := 0) (j := 2) rfl rfl (by decide) b (by simp [LO.blks])
      have a04 := hw.apart (i := 0) (j := 4) rfl rfl (by decide) b (by simp [LO.blks])
      have a12 := hw.apart (i := 1) (j := 2) rfl rfl (by decide)
      have a14 := hw.apart (i := 1) (j := 4) rfl rfl (by decide)
      have a24 := hw.apart (i := 2) (j := 4) rfl rfl (by decide)
      show (b :: (blkOf vF ++ (blkOf vL ++ (blkOf vX1 ++ [])))).Nodup
      rw [List.append_nil, List.nodup_cons, List.mem_append, List.mem_append, List.nodup_append, List.nodup_append]
      refine ⟨fun q => q.elim a01 (fun q => q.elim a02 a04), LO.nodup (o := .row vF 3 1 []), ⟨LO.nodup (o := .row vL 3 1 []), LO.nodup (o := .row vX1 3 1 []), fun x hx y hy e => a24 x hx (e ▸ hy)⟩, fun x hx y hy e => ?_⟩
      subst e
      exact (List.mem_append.1 hy).elim (a12 x hx) (a14 x hx)
    · replace hc : c ∈ b :: (blkOf vF ++ (blkOf vL ++ (blkOf vX1 ++ []))) := hc
      show c ∈ blkOf vX1 ++ (b :: (blkOf vF ++ (blkOf vL ++ (blkOf vX ++ []))))
      simp only [List.mem_append, List.mem_cons, List.not_mem_nil, or_false] at hc ⊢
      rcases hc with q | q | q | q
      · exact .inr (.inl q)
      · exact .inr (.inr (.inl q))
      · exact .inr (.inr (.inr (.inl q)))
      · exact .inl q
    rintro ⟨X2, F2, val2⟩ ⟨hnx, hinv, hX2, hfl2, hprog⟩
    simp only at hnx hinv hX2 hfl2 hprog ⊢
    have hvb2 := net_le (v := s) hfl2.bnd hcap
    rw [hfl2.val] at hvb2
    repeat refine At.seq ?_
    refine At.block ?_
    repeat refine At.seq ?_
    refine At.region tab_ok ?_
    conv => whnf
    refine push_call (E := E) (F := F2) (L := L) (X := X2) (O := O) rfl rfl rfl rfl sE sO N ⟨hs0.1, by omega⟩ hfl2.len hX2 hfl2.bnd hnx hinv ?_
    rintro r F3 X3 hp
    conv => whnf
    have hfl3 := hfl2.push hp R.ne
    have hvb3 := net_le (v := s) hfl3.bnd hcap
    rw [hfl3.val] at hvb3
    have hr0 := hp.r0
    have hv2 : 0 ≤ val2 := by rcases hprog with ⟨_, e⟩ | e <;> omega
    repeat refine At.seq ?_
    refine At.region tab_ok ?_
    conv => whnf
    repeat refine At.seq ?_
    refine At.cond rfl (fun hq => ?_) (fun hq => ?_)
    · have hz0 : r = 0 := of_decide_eq_true hq
      subst hz0
      have hlt : val < val2 := by
        rcases hprog with ⟨e1, e2⟩ | hlt
        · subst e1
          have := hre.push hA hp hs0.1 ht0.1 (by rw [hp.lenX, hX2, hA.len])
          omega
        · exact hlt
      obtain ⟨hFF, _, _⟩ := hp.zero rfl
      subst hFF
      refine At.exit ?_
      repeat refine At.seq ?_
      refine At.region tab_ok ?_
      conv => whnf
      refine reach_call (X := X3) (L0 := L) (F := F3) rfl rfl rfl rfl sE sO hA (by omega) ⟨hs0.1, by omega⟩ hlen hfl2.len hfl2.bnd hcap hOl ?_
      rintro vL2 L2 hsl2 hre2 hL2 hlow2
      conv => whnf
      refine At.nextH fun w' hw => ⟨((vL2, L2), (vX1, X3), F3, val2), ⟨hre2, hL2, hlow2, hfl2, hv2⟩, by simp only; omega, Le.of rfl rfl ⟨rfl, rfl, rfl, rfl, rfl, trivial⟩, hw.keep [0, 1, 2, 3] rfl rfl rfl, ⟨⟨_, _, rfl⟩, trivial⟩, ⟨fun c hc => by simp at hc; rcases hc with rfl | rfl | rfl | rfl | rfl <;> first | exact ⟨_, _, _, rfl⟩ | exact ⟨_, _, rfl⟩ | trivial, (nopI _).okH, (nopI _).okH, (nopI _).okH, trivial⟩⟩
    · have hz0 : r ≠ 0 := of_decide_eq_false hq
      refine At.skip ?_
      repeat refine At.seq ?_
      refine At.region tab_ok ?_
      conv => whnf
      refine ⟨⟨by omega, by omega⟩, ?_⟩
      conv => whnf
      refine At.nextH fun w' hw => ⟨(X3, F3, val2 + r), ⟨hp.nok, hp.inv, by simp only; rw [hp.lenX, hX2], hfl3, .inr (by rcases hprog with ⟨_, e⟩ | e <;> simp only <;> omega)⟩, by simp only; omega, Le.of rfl rfl ⟨rfl, rfl, rfl, rfl, rfl, trivial⟩, hw.keep [0, 1, 2, 3] rfl rfl rfl, ⟨⟨_, _, rfl⟩, trivial⟩, ⟨fun c hc => by simp at hc; rcases hc with rfl | rfl | rfl | rfl | rfl <;> first | exact ⟨_, _, _, rfl⟩ | exact ⟨_, _, rfl⟩ | trivial, (nopI _).okH, (nopI _).okH, (nopI _).okH, trivial⟩⟩
  have htl : Pl.lv L t < 0 := by have := of_decide_eq_false hc; omega
  have hmax := hre.max hA hfl.len hfl.bnd hfl.net htl
  rw [cutL_eq] at hmax
  have hcl : (cutL L).length = n := by simp [cutL, hLl]
  repeat refine At.seq ?_
  refine At.region tab_ok ?_
  conv => whnf
  repeat refine At.seq ?_
  refine At.region tab_ok ?_
  conv => whnf
  refine ⟨rfl, ?_⟩
  conv => whnf
  repeat refine At.seq ?_
  refine At.block ?_
  refine At.loopH (fun p : Nat × Value => { N := Try.f60.ntmps, sl := [(12, some (.s (.c (.p 0 b 0)))), (13, some (.i val)), (15, some (.s (.c (.o 5 p.2)))), (58, some (.s (.c (.o 2 vL)))), (59, some (.i ((L.length : Int)))), (60, some (.i p.1))], gl := [], hp := [(5, .row p.2 4 1 (((cutL L).take p.1).map encBo)), (0, .box b 133 [.x ve, .o 1 vF, .x vO, .o 2 vL, .o 3 vX]), (1, .row vF 3 1 (F.map encI)), (2, .row vL 3 1 (L.map encI)), (3, .row vX 3 1 (X.map encI))], S := b :: (blkOf vF ++ []), ws := w1 }) (fun p : Nat × Value => p.1 ≤ L.length) (fun p : Nat × Value => L.length - p.1)
    (fun w' hw => ⟨(0, nilV), Nat.zero_le _, Le.of rfl rfl ⟨rfl, rfl, rfl, rfl, congrArg (Value.int .i64) (by rw [List.length_map]), rfl, trivial⟩, hw.nil rfl rfl rfl, ⟨⟨_, _, rfl⟩, ⟨_, _, _, rfl⟩, ⟨_, _, _, rfl⟩, trivial⟩, ⟨(nopB _).okH, fun c hc => by simp at hc; rcases hc with rfl | rfl | rfl | rfl | rfl <;> first | exact ⟨_, _, _, rfl⟩ | exact ⟨_, _, rfl⟩ | trivial, (nopI _).okH, (nopI _).okH, (nopI _).okH, trivial⟩⟩) ?_
  rintro ⟨j, vc⟩ hj
  simp only at hj ⊢
  repeat refine At.seq ?_
  refine At.region tab_ok ?_
  conv => whnf
  repeat refine At.seq ?_
  refine At.cond rfl (fun hc => At.skip ?_) (fun hc => At.exit ?_)
  · have hlt : j < L.length := by have := of_decide_eq_true hc; (try simp only [List.length_map] at this); omega
    obtain ⟨x, hx⟩ : ∃ x, L[j]? = some x := ⟨_, List.getElem?_eq_getElem hlt⟩
    have hcj : (cutL L)[j]? = some (decide (0 ≤ x)) := by simp [cutL, hx]
    repeat refine At.seq ?_
    refine At.block ?_
    repeat refine At.seq ?_
    refine At.region tab_ok ?_
    conv => whnf
    refine ⟨rfl, ?_⟩
    conv => whnf
    refine ⟨by omega, ?_⟩
    conv => whnf
    refine ⟨by (try simp only [List.length_map]); omega, ?_⟩
    conv => whnf
    refine ⟨encI x, ⟨rfl, rfl, by omega, by rw [Int.toNat_natCast, List.getElem?_map, hx]; rfl⟩, ?_⟩
    conv => whnf
    repeat refine At.seq ?_
    refine At.region tab_ok ?_
    conv => whnf
    intro u1
    conv => whnf
    refine ⟨rfl, ?_⟩
    conv => whnf
    refine ⟨⟨rfl, by rw [List.length_map, List.length_take]; show (_ + 1) * 1 ≤ _; omega⟩, ?_⟩
    conv => whnf
    intro v7
    conv => whnf
    have hsn : ((cutL L).take j).map encBo ++ [[CV.b (decide (0 ≤ x))]] = ((cutL L).take (j + 1)).map encBo := by rw [take_snoc hcj, List.map_append]; rfl
    rw [hsn]
    repeat refine At.seq ?_
    refine At.region tab_ok ?_
    conv => whnf
    refine ⟨⟨by omega, by omega⟩, ?_⟩
    conv => whnf
    refine At.nextH fun w' hw => ⟨(j + 1, v7), by simp only; omega, by simp only; omega, Le.of rfl rfl ⟨rfl, rfl, rfl, rfl, rfl, rfl, trivial⟩, hw.keep [5, 0, 1, 2, 3] rfl rfl rfl, ⟨⟨_, _, rfl⟩, ⟨_, _, _, rfl⟩, ⟨_, _, _, rfl⟩, trivial⟩, ⟨(nopB _).okH, fun c hc => by simp at hc; rcases hc with rfl | rfl | rfl | rfl | rfl <;> first | exact ⟨_, _, _, rfl⟩ | exact ⟨_, _, rfl⟩ | trivial, (nopI _).okH, (nopI _).okH, (nopI _).okH, trivial⟩⟩
  have hje : j = L.length := by have := of_decide_eq_false hc; omega
  have hall : (cutL L).take j = cutL L := by rw [hje]; exact List.take_of_length_le (by simp [cutL])
  rw [hall]
  have hB := hB0
  repeat refine At.seq ?_
  refine At.region tab_ok ?_
  conv => whnf
  repeat refine At.seq ?_
  refine At.ret (At.doneB tab_ok hB _ rfl fun w' hw => ⟨F, cutL L, val, [vF, vc], hmax, hcl, rfl, ⟨hw.row (id := 1) rfl, fun c hc => hS c (by simp [hc]), fun u hu c hc => ?_, ⟨hw.row (id := 5) rfl, fun c hc => ?_, fun u hu => (by cases hu), rfl⟩⟩, Fr.over1 hx1 hw.fr hS⟩)
  · rw [List.mem_singleton.1 hu]
    exact hw.apart (i := 1) (j := 5) rfl rfl (by decide) c hc
  · rcases hw.fresh (id := 5) rfl c hc with q | q
    · exact hS c q
    · exact Nat.le_trans hx1.size q
end Go.Proofs.Ytjilbkioieicbaa

/- Walks: plan.Plan. -/
namespace Go.Vc
/-- A function that answers one of several results, and changes nothing. -/
def AnsE (P : Program) (f : FuncId) (args : List Value) (G : List RD → Prop) (w : World) : Prop :=
  Calls P f args.toArray w (fun e w' => ∃ rds vs, G rds ∧ e = .returned (toRV (resSV rds vs)).den ∧ resOk w.heap.size w' rds vs ∧ Ext w w')
theorem ansE_call {P : Program} {f : FuncId} {args : List Value} {G : List RD → Prop} {st : St} {d : Option Nat} {K : St → Prop} (hb : Body P f) (hr : ∀ rds, G rds → rdOk rds) (h : ∀ w, Holds st w → AnsE P f args G w)
    (hk : ∀ rds, G rds → bindR st rds (fun st' l => goPut st' d (toRV l) K)) : UCall P st f args d K :=
  .inl ⟨hb, fun hwf w hw => (h w hw).mono fun e w' ⟨rds, vs, hg, he, ho, hx⟩ => by
    have hfresh : ∀ (rds : List RD) (vs : List Value), resOk w.heap.size w' rds vs → ∀ u ∈ vs, ∀ b ∈ blkOf u, w.heap.size ≤ b := by
      intro rds
      induction rds with
      | nil => intro vs ho u hu; rw [show vs = [] from ho] at hu; cases hu
      | cons x r ih =>
        cases x with
        | p v => intro vs ho; exact ih vs ho
        | row E size L =>
          intro vs ho
          cases vs with
          | nil => exact ho.elim
          | cons v vs =>
            intro u hu
            rcases List.mem_cons.1 hu with rfl | hu
            · exact ho.2.1
            · exact ih vs ho.2.2.2 u hu
    obtain ⟨st', l, h1, h2, h3, h4, h5, h6, _⟩ := bindR_sound (hk rds hg) (hr rds hg) ho hwf (hw.ext hx) (fun u hu b hb hm => by
      have := hw.blk_lt b hm
      have := hfresh rds vs ho u hu b hb
      omega) hw.fr.size
    exact ⟨toRV l, st', by rw [he, toRV_den h6], h2, h3, toRV_ok h5, h4, h1⟩⟩
end Go.Vc
namespace Go.Proofs.Ytjilbkioieicbaa
open Go.Vc Rt
set_option linter.unusedVariables false
set_option linter.unusedSimpArgs false
def maxG (E : List Pl.Edge) (n : Nat) (s t : Int) (rds : List RD) : Prop := ∃ F c val, Pl.Max E n s t F (Pl.cutF c) ∧ c.length = n ∧ rds = [.row 3 1 (F.map encI), .p (.c (.i val)), .row 4 1 (c.map encBo), .p (.c (.i 0))]
theorem max_e (E : List Pl.Edge) (n : Nat) (s t : Int) (ve : Value) (w : World) (h : SlOf edT [] w ve E) (R : RightF E n s t) : AnsE Try.prog 60 [ve, vI n, vI s, vI t] (maxG E n s t) w :=
  (max_c E n s t [] ve w h R).mono fun e w' ⟨F, c, val, vs, h1, h2, h3, h4, h5⟩ => ⟨_, vs, ⟨F, c, val, h1, h2, rfl⟩, h3, h4, h5⟩
def PlanR (S : List Int) (M : List Pl.Meet) (W : List Pl.Want) (P : List Pl.Pass) (X : List Int) (c : List Bool) (er : Int) : Prop :=
  (Pl.rightB S M W = true ∧ Pl.checkE S M W P X c = 0 ∧ er = 0) ∨ (Pl.rightB S M W = false ∧ P = [] ∧ X = [] ∧ c = [] ∧ er = 1)
def planG (S : List Int) (M : List Pl.Meet) (W : List Pl.Want) (rds : List RD) : Prop := ∃ P X c er, PlanR S M W P X c er ∧ rds = [.row 38 4 (P.map encP), .row 3 1 (X.map encI), .row 4 1 (c.map encBo), .p (.c (.i er))]
theorem right_flow {S : List Int} {M : List Pl.Meet} {W : List Pl.Want} (R : Pl.Right S M W) {N : Nat} (hN : Pl.nodesN S M = N) : RightF (Pl.netE S M W) N 0 1 := by
  have p1 := R.p1
  have p2 := R.p2
  have pm := R.m
  have pw := R.w
  have hn := hN
  unfold Pl.nodesN at hn
  refine ⟨by omega, by omega, by rw [Pl.netE_len]; omega, by omega, by omega, by omega, fun e he => ?_⟩
  have q1 := Pl.netE_range R e he
  have q2 := netE_caps R e he
  rw [hN] at q1
  omega
theorem passK_step {k : Nat} {M : List Pl.Meet} {G : List Int} {m : Pl.Meet} (hm : M[k]? = some m) (hG : G.length = 4 * M.length) : ∃ f1 f2 f3 f4 H, G.drop (4 * k) = f1 :: f2 :: f3 :: f4 :: H ∧ G[4 * k + 2]? = some f3 ∧ G[4 * k + 3]? = some f4 ∧ H = G.drop (4 * (k + 1)) := by
  have hk := (List.getElem?_eq_some_iff.1 hm).1
  obtain ⟨f1, f2, f3, f4, H, e, _⟩ := Pl.four (F := G.drop (4 * k)) (k := M.length - k - 1) (by rw [List.length_drop]; omega)
  refine ⟨f1, f2, f3, f4, H, e, ?_, ?_, ?_⟩
  · have : (G.drop (4 * k))[2]? = some f3 := by rw [e]; rfl
    rwa [List.getElem?_drop] at this
  · have : (G.drop (4 * k))[3]? = some f4 := by rw [e]; rfl
    rwa [List.getElem?_drop] at this
  · have : (G.drop (4 * k)).drop 4 = H := by rw [e]; rfl
    rw [← this, List.drop_drop]; congr 1
theorem plan_e (St : List Int) (M : List Pl.Meet) (W : List Pl.Want) (T : List Nat) (v1 v2 v3 : Value) (w : World) (h1 : SlOf intT T w v1 St) (h2 : SlOf meT T w v2 M) (h3 : SlOf waT T w v3 W) :
    AnsE Try.prog 20 [v1, v2, v3] (planG St M W) w := by
  replace h1 := h1.avoid (S' := []) (fun b hb => by cases hb)
  replace h2 := h2.avoid (S' := []) (fun b hb => by cases hb)
  replace h3 := h3.avoid (S' := []) (fun b hb => by cases hb)
  have l1 := h1.len
  have l2 := h2.len
  have l3 := h3.len
  refine calls_plainB [.x v1, .x v2, .x v3] Try.func20 rfl rfl (Nat.le_of_ble_eq_true rfl) rfl fun B hB => ?_
  repeat refine At.seq ?_
  refine At.region tab_ok ?_
  conv => whnf
  repeat refine At.seq ?_
  refine At.region tab_ok ?_
  conv => whnf
  refine ans_call b19 rfl (fun w' hw => right_pc St M W [] v1 v2 v3 w' (h1.fr hw.fr) (h2.fr hw.fr) (h3.fr hw.fr)) ?_
  conv => whnf
  repeat refine At.seq ?_
  refine At.cond rfl (fun hq => ?_) (fun hq => ?_)
  · have hR : Pl.rightB St M W = false := by simpa using hq
    repeat refine At.seq ?_
    refine At.region tab_ok ?_
    conv => whnf
    repeat refine At.seq ?_
    refine At.ret (At.doneB tab_ok hB _ rfl fun w' hw => ⟨[.row 38 4 (([] : List Pl.Pass).map encP), .row 3 1 (([] : List Int).map encI), .row 4 1 (([] : List Bool).map encBo), .p (.c (.i 1))], [nilV, nilV, nilV], ⟨[], [], [], 1, .inr ⟨hR, rfl, rfl, rfl, rfl⟩, rfl⟩, rfl, ⟨nil_holds, fun b hb => by simp [blkOf, nilV] at hb, fun u hu b hb => by simp [blkOf, nilV] at hb, ⟨nil_holds, fun b hb => by simp [blkOf, nilV] at hb, fun u hu b hb => by simp [blkOf, nilV] at hb, ⟨nil_holds, fun b hb => by simp [blkOf, nilV] at hb, fun u hu => (by cases hu), rfl⟩⟩⟩, hw.fr⟩)
  have hR : Pl.rightB St M W = true := by simpa using hq
  have R := Pl.rightB_iff.1 hR
  have p2 := R.p2
  have pm := R.m
  have pw := R.w
  have hnl := Pl.netE_len St M W
  obtain ⟨N, hN⟩ : ∃ N : Nat, Pl.nodesN St M = N := ⟨(Pl.nodesN St M).toNat, by unfold Pl.nodesN; omega⟩
  refine At.skip ?_
  repeat refine At.seq ?_
  refine At.region tab_ok ?_
  conv => whnf
  refine ansR_call b59 (rdEP _ _) (fun w' hw => network_c St M W [] v1 v2 v3 w' (h1.fr hw.fr) (h2.fr hw.fr) (h3.fr hw.fr) hR) ?_
  intro ve
  conv => whnf
  rw [hN]
  repeat refine At.seq ?_
  refine At.region tab_ok ?_
  conv => whnf
  refine ansE_call b60 (fun rds hg => ?_) (fun w' hw => max_e (Pl.netE St M W) N 0 1 ve w' (SlOf.of_row (hl := fun _ => rfl) (enc := encE) (hw.row (id := 0) rfl) (fun _ _ hb => by cases hb) (by omega)) (right_flow R hN)) ?_
  · obtain ⟨F, c, val, _, _, rfl⟩ := hg
    exact ⟨nopI _, rfl, nopB _, rfl, trivial⟩
  rintro rds ⟨F, c, val, hmax, hcl, rfl⟩
  conv => whnf
  intro vF
  conv => whnf
  intro vc
  conv => whnf
  have hFl : F.length = St.length + (4 * M.length + W.length) := hmax.len.trans hnl
  have hFb : ∀ (i : Nat) x, F[i]? = some x → 0 ≤ x ∧ x ≤ 1099511627776 := fun i x hx => by
    have hi := (List.getElem?_eq_some_iff.1 hx).1
    have hE : (Pl.netE St M W)[i]? = some ((Pl.netE St M W)[i]'(by omega)) := List.getElem?_eq_getElem _
    have q1 := hmax.bnd i _ x hE hx
    have q2 := netE_caps R _ (List.mem_of_getElem? hE)
    omega
  have hok := Pl.plan_ok (c := c) hR (by omega) (by rw [show (Pl.nodesN St M).toNat = N by omega]; exact hmax)
  obtain ⟨Fm, hFm⟩ : ∃ Fm, (F.drop St.length).take (4 * M.length) = Fm := ⟨_, rfl⟩
  rw [hFm] at hok
  have hFml : Fm.length = 4 * M.length := by rw [← hFm, List.length_take, List.length_drop]; omega
  have hFmg : ∀ (i : Nat) x, i < 4 * M.length → Fm[i]? = some x → F[St.length + i]? = some x := fun i x hi hx => by
    rw [← hFm, List.getElem?_take_of_lt hi, List.getElem?_drop] at hx; exact hx
  repeat refine At.seq ?_
  refine At.region tab_ok ?_
  conv => whnf
  repeat refine At.seq ?_
  refine At.cond (t := false) rfl (fun hq => by cases hq) (fun hq => At.skip ?_)
  repeat refine At.seq ?_
  refine At.region tab_ok ?_
  conv => whnf
  repeat refine At.seq ?_
  refine At.region tab_ok ?_
  conv => whnf
  refine ⟨h2.sl, ?_⟩
  conv => whnf
  repeat refine At.seq ?_
  refine At.block ?_
  refine At.loopH (fun p : Nat × Value × List Pl.Pass => { N := Try.f20.ntmps, sl := [(0, some (.x v1)), (2, some (.x v3)), (12, some (.s (.c (.o 1 vF)))), (14, some (.s (.c (.o 2 vc)))), (16, some (.s (.c (.o 3 p.2.1)))), (44, some (.x v2)), (45, some (.i ((M.length : Int)))), (46, some (.i p.1))], gl := [], hp := [(3, .row p.2.1 38 4 (p.2.2.map encP)), (2, .row vc 4 1 (c.map encBo)), (1, .row vF 3 1 (F.map encI)), (0, .row ve 107 3 ((Pl.netE St M W).map encE))], S := [], ws := w }) (fun p : Nat × Value × List Pl.Pass => p.1 ≤ M.length ∧ p.2.2.length ≤ p.1 ∧ Pl.passK 0 M Fm = p.2.2 ++ Pl.passK p.1 (M.drop p.1) (Fm.drop (4 * p.1))) (fun p : Nat × Value × List Pl.Pass => M.length - p.1)
    (fun w' hw => ⟨(0, nilV, []), ⟨Nat.zero_le _, Nat.le_refl _, rfl⟩, Le.of rfl rfl ⟨rfl, rfl, rfl, rfl, rfl, rfl, congrArg (Value.int .i64) (by simp only [l2]), rfl, trivial⟩, hw.nil rfl rfl rfl, ⟨⟨_, _, _, rfl⟩, ⟨_, _, _, rfl⟩, ⟨_, _, _, rfl⟩, trivial⟩, ⟨(nopP _).okH, (nopB _).okH, (nopI _).okH, (nopE _).okH, trivial⟩⟩) ?_
  rintro ⟨k, vp, acc⟩ ⟨hk, hal, hpk⟩
  simp only at hk hal hpk ⊢
  repeat refine At.seq ?_
  refine At.region tab_ok ?_
  conv => whnf
  repeat refine At.seq ?_
  refine At.cond rfl (fun hc => At.skip ?_) (fun hc => At.exit ?_)
  · have hltm : k < M.length := by have := of_decide_eq_true hc; (try simp only [List.length_map] at this); omega
    obtain ⟨m, hm⟩ : ∃ x, M[k]? = some x := ⟨_, List.getElem?_eq_getElem hltm⟩
    obtain ⟨f1, f2, f3, f4, H, hd, hf3, hf4, hH⟩ := passK_step hm hFml
    have g3 := hFmg _ f3 (by omega) hf3
    have g4 := hFmg _ f4 (by omega) hf4
    have b3 := hFb _ f3 g3
    have b4 := hFb _ f4 g4
    rw [drop_cons' hm, hd] at hpk
    simp only [Pl.passK] at hpk
    rw [hH] at hpk
    repeat refine At.seq ?_
    refine At.block ?_
    repeat refine At.seq ?_
    refine At.region tab_ok ?_
    conv => whnf
    refine ⟨by omega, ?_⟩
    conv => whnf
    refine ⟨by omega, ?_⟩
    conv => whnf
    refine ⟨encM m, fun w' hw => h2.load (n := 4) hw.fr hm rfl, ?_⟩
    conv => whnf
    intro bm
    conv => whnf
    repeat refine At.seq ?_
    refine At.region tab_ok ?_
    conv => whnf
    refine ⟨h1.sl, ?_⟩
    conv => whnf
    rw [l1]
    conv => whnf
    refine ⟨⟨by omega, by omega⟩, ?_⟩
    conv => whnf
    refine ⟨⟨by omega, by omega⟩, ?_⟩
    conv => whnf
    refine ⟨⟨by omega, by omega⟩, ?_⟩
    conv => whnf
    repeat refine At.seq ?_
    refine At.draw tab_ok mixed (by kernel_rfl) ?_
    conv => whnf
    refine ⟨rfl, ?_⟩
    conv => whnf
    refine ⟨by omega, ?_⟩
    conv => whnf
    refine ⟨by rw [List.length_map]; omega, ?_⟩
    conv => whnf
    refine ⟨encI f3, ⟨rfl, rfl, by omega, by rw [show ((St.length : Int) + 4 * (k : Int) + 2).toNat = St.length + (4 * k + 2) by omega, List.getElem?_map, g3]; rfl⟩, ?_⟩
    conv => whnf
    refine ⟨⟨by omega, by omega⟩, ?_⟩
    conv => whnf
    refine ⟨rfl, ?_⟩
    conv => whnf
    refine ⟨by omega, ?_⟩
    conv => whnf
    refine ⟨by rw [List.length_map]; omega, ?_⟩
    conv => whnf
    refine ⟨encI f4, ⟨rfl, rfl, by omega, by rw [show ((St.length : Int) + 4 * (k : Int) + 2 + 1).toNat = St.length + (4 * k + 3) by omega, List.getElem?_map, g4]; rfl⟩, ?_⟩
    conv => whnf
    refine ⟨⟨by omega, by omega⟩, ?_⟩
    conv => whnf
    repeat refine At.seq ?_
    refine At.block ?_
    repeat refine At.seq ?_
    refine At.region tab_ok ?_
    conv => whnf
    repeat refine At.seq ?_
    refine At.cond rfl (fun hq => ?_) (fun hq => ?_)
    · have hpos : 0 < f3 - f4 := of_decide_eq_true hq
      rw [if_pos hpos] at hpk
      repeat refine At.seq ?_
      refine At.region tab_ok ?_
      conv => whnf
      intro u1
      conv => whnf
      refine ⟨rfl, ?_⟩
      conv => whnf
      refine ⟨⟨rfl, by rw [List.length_map]; show (_ + 1) * 32 ≤ _; omega⟩, ?_⟩
      conv => whnf
      intro v7
      conv => whnf
      have hsn : acc.map encP ++ [[CV.i (k : Int), CV.i m.a, CV.i m.b, CV.i (f3 - f4)]] = (acc ++ [(⟨k, m.a, m.b, f3 - f4⟩ : Pl.Pass)]).map encP := by rw [List.map_append]; rfl
      rw [hsn]
      repeat refine At.seq ?_
      refine At.region tab_ok ?_
      conv => whnf
      refine ⟨⟨by omega, by omega⟩, ?_⟩
      conv => whnf
      refine At.nextH fun w' hw => ⟨(k + 1, v7, acc ++ [⟨k, m.a, m.b, f3 - f4⟩]), ⟨by simp only; omega, by simp; omega, by rw [hpk]; simp⟩, by simp only; omega, Le.of rfl rfl ⟨rfl, rfl, rfl, rfl, rfl, rfl, rfl, rfl, trivial⟩, hw.keep [3, 2, 1, 0] rfl rfl rfl, ⟨⟨_, _, _, rfl⟩, ⟨_, _, _, rfl⟩, ⟨_, _, _, rfl⟩, trivial⟩, ⟨(nopP _).okH, (nopB _).okH, (nopI _).okH, (nopE _).okH, trivial⟩⟩
    · have hpos : ¬ 0 < f3 - f4 := of_decide_eq_false hq
      rw [if_neg hpos] at hpk
      repeat refine At.seq ?_
      refine At.region tab_ok ?_
      conv => whnf
      repeat refine At.seq ?_
      refine At.cond rfl (fun hq => ?_) (fun hq => ?_)
      · have hneg : f3 - f4 < 0 := of_decide_eq_true hq
        rw [if_pos hneg] at hpk
        repeat refine At.seq ?_
        refine At.region tab_ok ?_
        conv => whnf
        refine ⟨⟨by omega, by omega⟩, ?_⟩
        conv => whnf
        intro u1
        conv => whnf
        refine ⟨rfl, ?_⟩
        conv => whnf
        refine ⟨⟨rfl, by rw [List.length_map]; show (_ + 1) * 32 ≤ _; omega⟩, ?_⟩
        conv => whnf
        intro v7
        conv => whnf
        have hsn : acc.map encP ++ [[CV.i (k : Int), CV.i m.b, CV.i m.a, CV.i (0 - (f3 - f4))]] = (acc ++ [(⟨k, m.b, m.a, -(f3 - f4)⟩ : Pl.Pass)]).map encP := by
          rw [List.map_append, Int.zero_sub]; rfl
        rw [hsn]
        repeat refine At.seq ?_
        refine At.region tab_ok ?_
        conv => whnf
        refine ⟨⟨by omega, by omega⟩, ?_⟩
        conv => whnf
        refine At.nextH fun w' hw => ⟨(k + 1, v7, acc ++ [⟨k, m.b, m.a, -(f3 - f4)⟩]), ⟨by simp only; omega, by simp; omega, by rw [hpk]; simp⟩, by simp only; omega, Le.of rfl rfl ⟨rfl, rfl, rfl, rfl, rfl, rfl, rfl, rfl, trivial⟩, hw.keep [3, 2, 1, 0] rfl rfl rfl, ⟨⟨_, _, _, rfl⟩, ⟨_, _, _, rfl⟩, ⟨_, _, _, rfl⟩, trivial⟩, ⟨(nopP _).okH, (nopB _).okH, (nopI _).okH, (nopE _).okH, trivial⟩⟩
      · have hneg : ¬ f3 - f4 < 0 := of_decide_eq_false hq
        rw [if_neg hneg] at hpk
        refine At.skip ?_
        repeat refine At.seq ?_
        refine At.region tab_ok ?_
        conv => whnf
        refine ⟨⟨by omega, by omega⟩, ?_⟩
        conv => whnf
        refine At.nextH fun w' hw => ⟨(k + 1, vp, acc), ⟨by simp only; omega, by simp only; omega, hpk⟩, by simp only; omega, Le.of rfl rfl ⟨rfl, rfl, rfl, rfl, rfl, rfl, rfl, rfl, trivial⟩, hw.keep [3, 2, 1, 0] rfl rfl rfl, ⟨⟨_, _, _, rfl⟩, ⟨_, _, _, rfl⟩, ⟨_, _, _, rfl⟩, trivial⟩, ⟨(nopP _).okH, (nopB _).okH, (nopI _).okH, (nopE _).okH, trivial⟩⟩
  have hke : k = M.length := by have := of_decide_eq_false hc; omega
  have hacc : acc = Pl.passK 0 M Fm := by
    rw [hpk, hke, List.drop_length, List.drop_of_length_le (by omega)]; simp [Pl.passK]
  subst hacc
  have hml : (F.map encI).length = F.length := List.length_map ..
  have hFd : F.drop (St.length + 4 * M.length) = (F.take ((F.map encI).length : Int).toNat).drop (((F.map encI).length : Int) - (W.length : Int)).toNat := by
    rw [Int.toNat_natCast, hml, List.take_length]; congr 1; omega
  repeat refine At.seq ?_
  refine At.region tab_ok ?_
  conv => whnf
  refine ⟨rfl, ?_⟩
  conv => whnf
  refine ⟨h3.sl, ?_⟩
  conv => whnf
  rw [l3]
  conv => whnf
  refine ⟨⟨by omega, by omega⟩, ?_⟩
  conv => whnf
  refine ⟨rfl, ?_⟩
  conv => whnf
  refine ⟨by omega, ?_⟩
  conv => whnf
  refine ⟨by omega, ?_⟩
  conv => whnf
  refine ⟨by left; exact Int.le_refl _, ?_⟩
  conv => whnf
  refine ansR_call b61 (rdI (F.drop (St.length + 4 * M.length))) (fun w' hw => ?_) ?_
  · rw [hFd]
    have := SlOf.part (SlOf.of_row (hl := fun _ => rfl) (S := []) (enc := fun n => [.i n]) (hw.row (id := 1) rfl) (fun _ _ hb => by cases hb) (by omega)) (lo := ((F.map encI).length : Int) - (W.length : Int)) (hi := ((F.map encI).length : Int)) (by omega) (by omega) (by omega)
    exact cloneI_c _ [] _ w' this (by simp; omega)
  intro vm
  conv => whnf
  repeat refine At.seq ?_
  refine At.ret (At.doneB tab_ok hB _ rfl fun w' hw => ⟨[.row 38 4 ((Pl.passK 0 M Fm).map encP), .row 3 1 ((F.drop (St.length + 4 * M.length)).map encI), .row 4 1 (c.map encBo), .p (.c (.i 0))], [vp, vm, vc], ⟨_, _, _, _, .inl ⟨hR, hok, rfl⟩, rfl⟩, rfl, ?_, hw.fr⟩)
  refine ⟨hw.row (id := 3) rfl, fun b hb => (hw.fresh (id := 3) rfl b hb).elim (fun h => (by cases h)) (fun h => h), fun u hu b hb => ?_, ⟨hw.row (id := 4) rfl, fun b hb => (hw.fresh (id := 4) rfl b hb).elim (fun h => (by cases h)) (fun h => h), fun u hu b hb => ?_, ⟨hw.row (id := 2) rfl, fun b hb => (hw.fresh (id := 2) rfl b hb).elim (fun h => (by cases h)) (fun h => h), fun u hu => (by cases hu), rfl⟩⟩⟩
  · simp only [List.mem_cons, List.not_mem_nil, or_false] at hu
    rcases hu with rfl | rfl
    · exact hw.apart (i := 3) (j := 4) rfl rfl (by decide) b hb
    · exact hw.apart (i := 3) (j := 2) rfl rfl (by decide) b hb
  · rw [List.mem_singleton.1 hu]
    exact hw.apart (i := 4) (j := 2) rfl rfl (by decide) b hb
end Go.Proofs.Ytjilbkioieicbaa

/- Walks: the law's small functions: sums, limits, comparing. -/
namespace Go.Proofs.Ytjilbkioieicbaa
open Go.Vc Rt
set_option linter.unusedVariables false
set_option linter.unusedSimpArgs false
theorem sameI30_c (xs ys : List Int) (S S' : List Nat) (v u : Value) (w : World) (h : SlOf intT S w v xs) (h' : SlOf intT S' w u ys) : Ans Try.prog 54 [v, u] (.b (decide (xs = ys))) w := by
  replace h := h.avoid (S' := []) (fun b hb => by cases hb)
  replace h' := h'.avoid (S' := []) (fun b hb => by cases hb)
  have hsm := h.small
  have hsm' := h'.small
  have hl := h.len
  have hl' := h'.len
  refine calls_plainB [.x v, .x u] Try.func54 rfl rfl (Nat.le_of_ble_eq_true rfl) rfl fun B hB => ?_
  repeat refine At.seq ?_
  refine At.region tab_ok ?_
  conv => whnf
  repeat refine At.seq ?_
  refine At.region tab_ok ?_
  conv => whnf
  refine ⟨h.sl, ?_⟩
  conv => whnf
  refine ⟨h'.sl, ?_⟩
  conv => whnf
  repeat refine At.seq ?_
  refine At.cond rfl (fun hq => ?_) (fun hq => ?_)
  · repeat refine At.seq ?_
    refine At.region tab_ok ?_
    conv => whnf
    repeat refine At.seq ?_
    refine At.ret (At.doneB tab_ok hB _ rfl fun w' hw => ⟨?_, hw.fr⟩)
    have hne : xs ≠ ys := fun e => by subst e; rw [hl, hl'] at hq; simp at hq
    simp [hne, RV.den, SV.den, CV.den, ofConst]
  · have hll : xs.length = ys.length := by rw [hl, hl'] at hq; simp at hq; omega
    refine At.skip ?_
    repeat refine At.seq ?_
    refine At.region tab_ok ?_
    conv => whnf
    repeat refine At.seq ?_
    refine At.block ?_
    refine At.loopF (fun k : Nat => { N := Try.f54.ntmps, sl := [(0, some (.x v)), (1, some (.x u)), (5, some (.i k))], gl := [], hp := [], S := [], ws := w }) (fun k => k ≤ xs.length ∧ ∀ j, j < k → xs[j]? = ys[j]?) (fun k => xs.length - k)
      (fun w' hw => ⟨0, ⟨Nat.zero_le _, fun j hj => by omega⟩, Le.of rfl rfl ⟨rfl, rfl, rfl, trivial⟩, WF.plain rfl, hw.same rfl rfl rfl⟩) ?_
    intro k ⟨hk, hall⟩
    repeat refine At.seq ?_
    refine At.region tab_ok ?_
    conv => whnf
    refine ⟨h.sl, ?_⟩
    conv => whnf
    repeat refine At.seq ?_
    refine At.cond rfl (fun hc => At.skip ?_) (fun hc => At.exit ?_)
    · have hlt : k < xs.length := by have := of_decide_eq_true hc; omega
      obtain ⟨x, hx⟩ : ∃ x, xs[k]? = some x := ⟨_, List.getElem?_eq_getElem hlt⟩
      obtain ⟨y, hy⟩ : ∃ y, ys[k]? = some y := ⟨_, List.getElem?_eq_getElem (by omega)⟩
      repeat refine At.seq ?_
      refine At.block ?_
      repeat refine At.seq ?_
      refine At.draw tab_ok mixed (by kernel_rfl) ?_
      conv => whnf
      refine ⟨by omega, ?_⟩
      conv => whnf
      refine ⟨by omega, ?_⟩
      conv => whnf
      refine ⟨encI x, fun w' hw => h.load (n := 1) hw.fr hx rfl, ?_⟩
      conv => whnf
      refine ⟨by omega, ?_⟩
      conv => whnf
      refine ⟨by omega, ?_⟩
      conv => whnf
      refine ⟨encI y, fun w' hw => h'.load (n := 1) hw.fr hy rfl, ?_⟩
      conv => whnf
      repeat refine At.seq ?_
      refine At.cond rfl (fun hq => ?_) (fun hq => ?_)
      · repeat refine At.seq ?_
        refine At.region tab_ok ?_
        conv => whnf
        repeat refine At.seq ?_
        refine At.ret (At.doneB tab_ok hB _ rfl fun w' hw => ⟨?_, hw.fr⟩)
        have hxy : x ≠ y := fun e => by subst e; simp at hq
        have hne : xs ≠ ys := fun e => by subst e; rw [hx] at hy; exact hxy (Option.some.inj hy)
        simp [hne, RV.den, SV.den, CV.den, ofConst]
      · have hxy : x = y := by simpa using hq
        subst hxy
        refine At.skip ?_
        repeat refine At.seq ?_
        refine At.region tab_ok ?_
        conv => whnf
        refine ⟨⟨by omega, by omega⟩, ?_⟩
        conv => whnf
        refine At.next fun w' hw => ⟨k + 1, ⟨by omega, fun j hj => ?_⟩, by omega, Le.of rfl rfl ⟨rfl, rfl, rfl, trivial⟩, WF.plain rfl, hw.keep [] rfl rfl rfl⟩
        rcases Nat.lt_or_ge j k with hj' | hj'
        · exact hall j hj'
        · obtain rfl : j = k := by omega
          rw [hx, hy]
    · have hge : k = xs.length := by have := of_decide_eq_false hc; omega
      subst hge
      repeat refine At.seq ?_
      refine At.region tab_ok ?_
      conv => whnf
      repeat refine At.seq ?_
      refine At.ret (At.doneB tab_ok hB _ rfl fun w' hw => ⟨?_, hw.fr⟩)
      have he : xs = ys := List.ext_getElem? fun j => by
        rcases Nat.lt_or_ge j xs.length with hj | hj
        · exact hall j hj
        · rw [List.getElem?_eq_none hj, List.getElem?_eq_none (by omega)]
      simp [he, RV.den, SV.den, CV.den, ofConst]
theorem sameP30_c (xs ys : List Pl.Pass) (S S' : List Nat) (v u : Value) (w : World) (h : SlOf paT S w v xs) (h' : SlOf paT S' w u ys) : Ans Try.prog 53 [v, u] (.b (decide (xs = ys))) w := by
  replace h := h.avoid (S' := []) (fun b hb => by cases hb)
  replace h' := h'.avoid (S' := []) (fun b hb => by cases hb)
  have hsm := h.small
  have hsm' := h'.small
  have hl := h.len
  have hl' := h'.len
  refine calls_plainB [.x v, .x u] Try.func53 rfl rfl (Nat.le_of_ble_eq_true rfl) rfl fun B hB => ?_
  repeat refine At.seq ?_
  refine At.region tab_ok ?_
  conv => whnf
  repeat refine At.seq ?_
  refine At.region tab_ok ?_
  conv => whnf
  refine ⟨h.sl, ?_⟩
  conv => whnf
  refine ⟨h'.sl, ?_⟩
  conv => whnf
  repeat refine At.seq ?_
  refine At.cond rfl (fun hq => ?_) (fun hq => ?_)
  · repeat refine At.seq ?_
    refine At.region tab_ok ?_
    conv => whnf
    repeat refine At.seq ?_
    refine At.ret (At.doneB tab_ok hB _ rfl fun w' hw => ⟨?_, hw.fr⟩)
    have hne : xs ≠ ys := fun e => by subst e; rw [hl, hl'] at hq; simp at hq
    simp [hne, RV.den, SV.den, CV.den, ofConst]
  · have hll : xs.length = ys.length := by rw [hl, hl'] at hq; simp at hq; omega
    refine At.skip ?_
    repeat refine At.seq ?_
    refine At.region tab_ok ?_
    conv => whnf
    repeat refine At.seq ?_
    refine At.block ?_
    refine At.loopF (fun k : Nat => { N := Try.f53.ntmps, sl := [(0, some (.x v)), (1, some (.x u)), (5, some (.i k))], gl := [], hp := [], S := [], ws := w }) (fun k => k ≤ xs.length ∧ ∀ j, j < k → xs[j]? = ys[j]?) (fun k => xs.length - k)
      (fun w' hw => ⟨0, ⟨Nat.zero_le _, fun j hj => by omega⟩, Le.of rfl rfl ⟨rfl, rfl, rfl, trivial⟩, WF.plain rfl, hw.same rfl rfl rfl⟩) ?_
    intro k ⟨hk, hall⟩
    repeat refine At.seq ?_
    refine At.region tab_ok ?_
    conv => whnf
    refine ⟨h.sl, ?_⟩
    conv => whnf
    repeat refine At.seq ?_
    refine At.cond rfl (fun hc => At.skip ?_) (fun hc => At.exit ?_)
    · have hlt : k < xs.length := by have := of_decide_eq_true hc; omega
      obtain ⟨x, hx⟩ : ∃ x, xs[k]? = some x := ⟨_, List.getElem?_eq_getElem hlt⟩
      obtain ⟨y, hy⟩ : ∃ y, ys[k]? = some y := ⟨_, List.getElem?_eq_getElem (by omega)⟩
      repeat refine At.seq ?_
      refine At.block ?_
      repeat refine At.seq ?_
      refine At.draw tab_ok mixed (by kernel_rfl) ?_
      conv => whnf
      refine ⟨by omega, ?_⟩
      conv => whnf
      refine ⟨by omega, ?_⟩
      conv => whnf
      refine ⟨encP x, fun w' hw => h.load (n := 4) hw.fr hx rfl, ?_⟩
      conv => whnf
      refine ⟨by omega, ?_⟩
      conv => whnf
      refine ⟨by omega, ?_⟩
      conv => whnf
      refine ⟨encP y, fun w' hw => h'.load (n := 4) hw.fr hy rfl, ?_⟩
      conv => whnf
      repeat refine At.seq ?_
      refine At.cond rfl (fun hq => ?_) (fun hq => ?_)
      · repeat refine At.seq ?_
        refine At.region tab_ok ?_
        conv => whnf
        repeat refine At.seq ?_
        refine At.ret (At.doneB tab_ok hB _ rfl fun w' hw => ⟨?_, hw.fr⟩)
        have hxy : x ≠ y := fun e => by subst e; simp at hq
        have hne : xs ≠ ys := fun e => by subst e; rw [hx] at hy; exact hxy (Option.some.inj hy)
        simp [hne, RV.den, SV.den, CV.den, ofConst]
      · have hxy : x = y := by simp at hq; obtain ⟨x1, x2, x3, x4⟩ := x; obtain ⟨y1, y2, y3, y4⟩ := y; simp_all
        subst hxy
        refine At.skip ?_
        repeat refine At.seq ?_
        refine At.region tab_ok ?_
        conv => whnf
        refine ⟨⟨by omega, by omega⟩, ?_⟩
        conv => whnf
        refine At.next fun w' hw => ⟨k + 1, ⟨by omega, fun j hj => ?_⟩, by omega, Le.of rfl rfl ⟨rfl, rfl, rfl, trivial⟩, WF.plain rfl, hw.keep [] rfl rfl rfl⟩
        rcases Nat.lt_or_ge j k with hj' | hj'
        · exact hall j hj'
        · obtain rfl : j = k := by omega
          rw [hx, hy]
    · have hge : k = xs.length := by have := of_decide_eq_false hc; omega
      subst hge
      repeat refine At.seq ?_
      refine At.region tab_ok ?_
      conv => whnf
      repeat refine At.seq ?_
      refine At.ret (At.doneB tab_ok hB _ rfl fun w' hw => ⟨?_, hw.fr⟩)
      have he : xs = ys := List.ext_getElem? fun j => by
        rcases Nat.lt_or_ge j xs.length with hj | hj
        · exact hall j hj
        · rw [List.getElem?_eq_none hj, List.getElem?_eq_none (by omega)]
      simp [he, RV.den, SV.den, CV.den, ofConst]
theorem sum30_c (l : List Int) (S : List Nat) (v : Value) (w : World) (h : SlOf intT S w v l) (hl : l.length ≤ 1000) (hb : ∀ x ∈ l, 0 ≤ x ∧ x ≤ 1099511627776) : Ans Try.prog 23 [v] (.i (Pl.sumI l)) w := by
  replace h := h.avoid (S' := []) (fun b hb => by cases hb)
  have l1 := h.len
  refine calls_plainB [.x v] Try.func23 rfl rfl (Nat.le_of_ble_eq_true rfl) rfl fun B hB => ?_
  repeat refine At.seq ?_
  refine At.region tab_ok ?_
  conv => whnf
  repeat refine At.seq ?_
  refine At.region tab_ok ?_
  conv => whnf
  repeat refine At.seq ?_
  refine At.region tab_ok ?_
  conv => whnf
  repeat refine At.seq ?_
  refine At.block ?_
  refine At.loopH (fun k : Nat => { N := Try.f23.ntmps, sl := [(0, some (.x v)), (3, some (.i (Pl.sumI (l.take k)))), (4, some (.i k))], gl := [], hp := [], S := [], ws := w }) (fun k : Nat => k ≤ l.length) (fun k : Nat => l.length - k)
    (fun w' hw => ⟨0, Nat.zero_le _, Le.of rfl rfl ⟨rfl, rfl, rfl, trivial⟩, hw.same rfl rfl rfl, trivial, trivial⟩) ?_
  intro k hk
  have hs := sumI_bound (l := l.take k) (B := 1099511627776) fun x hx => hb x (List.mem_of_mem_take hx)
  rw [List.length_take] at hs
  repeat refine At.seq ?_
  refine At.region tab_ok ?_
  conv => whnf
  refine ⟨h.sl, ?_⟩
  conv => whnf
  repeat refine At.seq ?_
  refine At.cond rfl (fun hc => At.skip ?_) (fun hc => At.exit ?_)
  · have hlt : k < l.length := by have := of_decide_eq_true hc; (try simp only [List.length_map] at this); omega
    obtain ⟨x, hx⟩ : ∃ x, l[k]? = some x := ⟨_, List.getElem?_eq_getElem hlt⟩
    have hbx := hb x (List.mem_of_getElem? hx)
    repeat refine At.seq ?_
    refine At.block ?_
    repeat refine At.seq ?_
    refine At.region tab_ok ?_
    conv => whnf
    refine ⟨by omega, ?_⟩
    conv => whnf
    refine ⟨by omega, ?_⟩
    conv => whnf
    refine ⟨encI x, fun w' hw => h.load (n := 1) hw.fr hx rfl, ?_⟩
    conv => whnf
    refine ⟨⟨by omega, by omega⟩, ?_⟩
    conv => whnf
    repeat refine At.seq ?_
    refine At.region tab_ok ?_
    conv => whnf
    refine ⟨⟨by omega, by omega⟩, ?_⟩
    conv => whnf
    refine At.nextH fun w' hw => ⟨k + 1, by omega, by omega, Le.of rfl rfl ⟨rfl, congrArg (Value.int .i64) (by rw [sumI_take hx]), rfl, trivial⟩, hw.keep [] rfl rfl rfl, trivial, trivial⟩
  · have hke : k = l.length := by have := of_decide_eq_false hc; omega
    subst hke
    repeat refine At.seq ?_
    refine At.region tab_ok ?_
    conv => whnf
    repeat refine At.seq ?_
    refine At.ret (At.doneB tab_ok hB _ rfl fun w' hw => ⟨?_, hw.fr⟩)
    rw [List.take_length]
theorem dec_le (a b : Nat) : decide ((a : Int) ≤ (b : Int)) = decide (a ≤ b) := by rw [Bool.eq_iff_iff]; simp
def few3 (a b c : Nat) : Bool := decide (a ≤ 6) && decide (b ≤ 8) && decide (c ≤ 8)
theorem few3_c (St : List Int) (M : List Pl.Meet) (W : List Pl.Want) (v1 v2 v3 : Value) (w : World) (h1 : SlOf intT [] w v1 St) (h2 : SlOf meT [] w v2 M) (h3 : SlOf waT [] w v3 W) : Ans Try.prog 51 [v1, v2, v3] (.b (few3 St.length M.length W.length)) w := by
  have l1 := h1.len
  have l2 := h2.len
  have l3 := h3.len
  refine calls_plainB [.x v1, .x v2, .x v3] Try.func51 rfl rfl (Nat.le_of_ble_eq_true rfl) rfl fun B hB => ?_
  repeat refine At.seq ?_
  refine At.region tab_ok ?_
  conv => whnf
  repeat refine At.seq ?_
  refine At.region tab_ok ?_
  conv => whnf
  refine ⟨h1.sl, ?_⟩
  conv => whnf
  refine ⟨by simp only [gimp]; intro _; exact h2.sl, ?_⟩
  conv => whnf
  refine ⟨by simp only [gimp]; intro _; exact h3.sl, ?_⟩
  conv => whnf
  repeat refine At.seq ?_
  refine At.ret (At.doneB tab_ok hB _ rfl fun w' hw => ⟨?_, hw.fr⟩)
  have : few3 St.length M.length W.length = (bif bif decide (slen v1 ≤ 6) then decide (slen v2 ≤ 8) else false then decide (slen v3 ≤ 8) else false) := by
    rw [l1, l2, l3]
    simp only [band, few3]
    have e1 : decide ((St.length : Int) ≤ 6) = decide (St.length ≤ 6) := dec_le St.length 6
    have e2 : decide ((M.length : Int) ≤ 8) = decide (M.length ≤ 8) := dec_le M.length 8
    have e3 : decide ((W.length : Int) ≤ 8) = decide (W.length ≤ 8) := dec_le W.length 8
    rw [← e1, ← e2, ← e3]
  rw [this]
def few6 (a b c d e f : Nat) : Bool := few3 a b c && decide (d ≤ 8) && decide (e ≤ 8) && decide (f ≤ 40)
theorem few6_c (St : List Int) (M : List Pl.Meet) (W : List Pl.Want) (P : List Pl.Pass) (X : List Int) (c : List Bool) (v1 v2 v3 v4 v5 v6 : Value) (w : World) (h1 : SlOf intT [] w v1 St) (h2 : SlOf meT [] w v2 M) (h3 : SlOf waT [] w v3 W) (h4 : SlOf paT [] w v4 P) (h5 : SlOf intT [] w v5 X) (h6 : SlOf boolT [] w v6 c) :
    Ans Try.prog 18 [v1, v2, v3, v4, v5, v6] (.b (few6 St.length M.length W.length P.length X.length c.length)) w := by
  have l4 := h4.len
  have l5 := h5.len
  have l6 := h6.len
  refine calls_plainB [.x v1, .x v2, .x v3, .x v4, .x v5, .x v6] Try.func18 rfl rfl (Nat.le_of_ble_eq_true rfl) rfl fun B hB => ?_
  repeat refine At.seq ?_
  refine At.region tab_ok ?_
  conv => whnf
  repeat refine At.seq ?_
  refine At.region tab_ok ?_
  conv => whnf
  refine ans_call b51 rfl (fun w' hw => few3_c St M W v1 v2 v3 w' (h1.fr hw.fr) (h2.fr hw.fr) (h3.fr hw.fr)) ?_
  conv => whnf
  refine ⟨by simp only [gimp]; intro _; exact h4.sl, ?_⟩
  conv => whnf
  refine ⟨by simp only [gimp]; intro _; exact h5.sl, ?_⟩
  conv => whnf
  refine ⟨by simp only [gimp]; intro _; exact h6.sl, ?_⟩
  conv => whnf
  repeat refine At.seq ?_
  refine At.ret (At.doneB tab_ok hB _ rfl fun w' hw => ⟨?_, hw.fr⟩)
  have : few6 St.length M.length W.length P.length X.length c.length = (bif bif bif few3 St.length M.length W.length then decide (slen v4 ≤ 8) else false then decide (slen v5 ≤ 8) else false then decide (slen v6 ≤ 40) else false) := by
    rw [l4, l5, l6]
    simp only [band, few6]
    have e1 : decide ((P.length : Int) ≤ 8) = decide (P.length ≤ 8) := dec_le P.length 8
    have e2 : decide ((X.length : Int) ≤ 8) = decide (X.length ≤ 8) := dec_le X.length 8
    have e3 : decide ((c.length : Int) ≤ 40) = decide (c.length ≤ 40) := dec_le c.length 40
    rw [← e1, ← e2, ← e3]
  rw [this]
end Go.Proofs.Ytjilbkioieicbaa

/- Walks: the law's examples (small of layer 30). -/
namespace Pl
set_option linter.unusedVariables false
set_option linter.unusedSimpArgs false
def exS : List Int := [10, 0]
def exM : List Meet := [⟨3, 0, 1, 4⟩]
theorem one_met {W : List Want} {w : Want} {X : List Int} (hW : W = [w]) (h : metB W X = true) : ∃ x, X = [x] ∧ 0 ≤ x ∧ x ≤ w.n := by
  subst hW
  match X, h with
  | [x], h => simp only [metB, Bool.and_eq_true, decide_eq_true_eq] at h; exact ⟨x, rfl, h.1.1, h.1.2⟩
  | [], h => simp [metB] at h
  | _ :: _ :: _, h => simp [metB] at h
theorem one_pass {P : List Pass} (h : formP exM (-1) P = true) : P = [] ∨ ∃ n, (1 ≤ n ∧ n ≤ 4) ∧ (P = [⟨0, 0, 1, n⟩] ∨ P = [⟨0, 1, 0, n⟩]) := by
  match P, h with
  | [], _ => exact .inl rfl
  | x :: r, h =>
    right
    simp only [formP, Bool.and_eq_true, decide_eq_true_eq] at h
    obtain ⟨⟨h1, h2⟩, h3⟩ := h
    have hl : (exM.length : Int) = 1 := rfl
    have hm : x.meet = 0 := by omega
    have hr : r = [] := by
      match r, h3 with
      | [], _ => rfl
      | y :: q, h3 =>
        simp only [formP, Bool.and_eq_true, decide_eq_true_eq] at h3
        omega
    subst hr
    obtain ⟨me, fr, to, n⟩ := x
    simp only at hm h2
    subst hm
    simp only [passB, exM, Int.toNat_zero, List.getElem?_cons_zero, Bool.and_eq_true, decide_eq_true_eq] at h2
    refine ⟨n, by omega, ?_⟩
    have : (fr = 0 ∧ to = 1) ∨ (fr = 1 ∧ to = 0) := by omega
    rcases this with ⟨rfl, rfl⟩ | ⟨rfl, rfl⟩
    · exact .inl rfl
    · exact .inr rfl
theorem ex_right1 : rightB exS exM [⟨1, 5, 6⟩] = true := by decide
theorem ex_right2 : rightB exS exM [⟨1, 2, 6⟩] = true := by decide
theorem ex_right3 : rightB exS exM [⟨0, 3, 8⟩, ⟨1, 3, 9⟩] = true := by decide
theorem ex_run1 : runAll exS exM [⟨1, 5, 6⟩] [⟨0, 0, 1, 4⟩] [4] = (0, [6, 0]) := by decide
theorem ex_run3 : runAll exS exM [⟨0, 3, 8⟩, ⟨1, 3, 9⟩] [⟨0, 0, 1, 4⟩] [6, 4] = (0, [0, 0]) := by decide
theorem ex1 {P : List Pass} {X : List Int} {c : List Bool} (h : checkE exS exM [⟨1, 5, 6⟩] P X c = 0) : P = [⟨0, 0, 1, 4⟩] ∧ X = [4] := by
  have hb := best h ex_run1
  obtain ⟨r, hr⟩ := check_run h
  obtain ⟨_, hf, hk⟩ := runAll_ok hr
  simp only [formedB, Bool.and_eq_true] at hf
  obtain ⟨x, rfl, hx0, hx6⟩ := one_met rfl hf.1
  simp only [sumI] at hb
  have hd : dues exM [⟨1, 5, 6⟩] [x] = [⟨1, 1, 6, x⟩] := rfl
  rw [hd] at hk
  simp only at hx6
  have hx : x = 4 ∨ x = 5 ∨ x = 6 := by omega
  rcases one_pass hf.2 with rfl | ⟨n, hn, rfl | rfl⟩
  · rcases hx with rfl | rfl | rfl <;> exact absurd (hk.symm.trans (rfl : _ = none)) (by simp)
  · have hn4 : n = 1 ∨ n = 2 ∨ n = 3 ∨ n = 4 := by omega
    rcases hx with rfl | rfl | rfl <;> rcases hn4 with rfl | rfl | rfl | rfl <;> first | exact ⟨rfl, rfl⟩ | exact absurd (hk.symm.trans (rfl : _ = none)) (by simp)
  · have hn4 : n = 1 ∨ n = 2 ∨ n = 3 ∨ n = 4 := by omega
    rcases hx with rfl | rfl | rfl <;> rcases hn4 with rfl | rfl | rfl | rfl <;> exact absurd (hk.symm.trans (rfl : _ = none)) (by simp)
theorem ex2 {P : List Pass} {X : List Int} {c : List Bool} (h : checkE exS exM [⟨1, 2, 6⟩] P X c = 0) : X = [0] := by
  obtain ⟨r, hr⟩ := check_run h
  obtain ⟨_, hf, hk⟩ := runAll_ok hr
  simp only [formedB, Bool.and_eq_true] at hf
  obtain ⟨x, rfl, hx0, hx6⟩ := one_met rfl hf.1
  have hd : dues exM [⟨1, 2, 6⟩] [x] = [⟨0, 1, 6, x⟩] := rfl
  rw [hd] at hk
  simp only at hx6
  have hx : x = 0 ∨ x = 1 ∨ x = 2 ∨ x = 3 ∨ x = 4 ∨ x = 5 ∨ x = 6 := by omega
  rcases hx with rfl | rfl | rfl | rfl | rfl | rfl | rfl <;> first | rfl | exact absurd (hk.symm.trans (rfl : _ = none)) (by simp)
theorem ex3 {P : List Pass} {X : List Int} {c : List Bool} (h : checkE exS exM [⟨0, 3, 8⟩, ⟨1, 3, 9⟩] P X c = 0) : sumI X = 10 := by
  have hb := best h ex_run3
  obtain ⟨r, hr⟩ := check_run h
  obtain ⟨h1, h2, h3⟩ := run_left hr
  have := sumI_nonneg h3
  simp only [sumI, exS] at hb h2
  omega
end Pl
namespace Go.Proofs.Ytjilbkioieicbaa
open Go.Vc Rt
set_option linter.unusedVariables false
set_option linter.unusedSimpArgs false
theorem planG_rd {S : List Int} {M : List Pl.Meet} {W : List Pl.Want} : ∀ rds, planG S M W rds → rdOk rds := fun rds ⟨P, X, c, er, _, e⟩ => by
  subst e; exact ⟨nopP _, nopI _, nopB _, rfl, trivial⟩
theorem slW {w : World} {v : Value} {E : Nat} (xs : List Pl.Want) (h : (LO.row v E 3 (xs.map encW)).holds w) (hl : xs.length ≤ 1000000) : SlOf waT [] w v xs := SlOf.of_row h (fun _ _ hb => by cases hb) (by omega)
theorem slM {w : World} {v : Value} {E : Nat} (xs : List Pl.Meet) (h : (LO.row v E 4 (xs.map encM)).holds w) (hl : xs.length ≤ 1000000) : SlOf meT [] w v xs := SlOf.of_row h (fun _ _ hb => by cases hb) (by omega)
theorem slP {w : World} {v : Value} {E : Nat} (xs : List Pl.Pass) (h : (LO.row v E 4 (xs.map encP)).holds w) (hl : xs.length ≤ 1000000) : SlOf paT [] w v xs := SlOf.of_row h (fun _ _ hb => by cases hb) (by omega)
theorem slN {w : World} {v : Value} {E : Nat} (xs : List Int) (h : (LO.row v E 1 (xs.map encI)).holds w) (hl : xs.length ≤ 1000000) : SlOf intT [] w v xs := SlOf.of_row (enc := fun n => [.i n]) h (fun _ _ hb => by cases hb) (by omega)
theorem slB {w : World} {v : Value} {E : Nat} (xs : List Bool) (h : (LO.row v E 1 (xs.map encBo)).holds w) (hl : xs.length ≤ 1000000) : SlOf boolT [] w v xs := SlOf.of_row (enc := fun b => [.b b]) h (fun _ _ hb => by cases hb) (by omega)
theorem plan_ok1 {P : List Pl.Pass} {X : List Int} {c : List Bool} {er : Int} {S : List Int} {M : List Pl.Meet} {W : List Pl.Want} (h : PlanR S M W P X c er) (hr : Pl.rightB S M W = true) : Pl.checkE S M W P X c = 0 ∧ er = 0 := by
  rcases h with ⟨_, h1, h2⟩ | ⟨h1, _⟩
  · exact ⟨h1, h2⟩
  · rw [hr] at h1; cases h1
theorem check_cut {P : List Pl.Pass} {X : List Int} {c : List Bool} {S : List Int} {M : List Pl.Meet} {W : List Pl.Want} (h : Pl.checkE S M W P X c = 0) : (c.length : Int) = Pl.nodesN S M := by
  unfold Pl.checkE at h
  split at h
  · split at h
    · rename_i hc; exact hc.1
    · simp at h
  · rename_i h1; exact (h1 h).elim
theorem check_met {P : List Pl.Pass} {X : List Int} {c : List Bool} {S : List Int} {M : List Pl.Meet} {W : List Pl.Want} (h : Pl.checkE S M W P X c = 0) : X.length = W.length ∧ ∀ x ∈ X, 0 ≤ x ∧ x ≤ 1099511627776 := by
  obtain ⟨r, hr⟩ := Pl.check_run h
  obtain ⟨hR, hf, _⟩ := Pl.runAll_ok hr
  have R := Pl.rightB_iff.1 hR
  simp only [Pl.formedB, Bool.and_eq_true] at hf
  have hl := (Pl.metB_iff.1 hf.1).1
  refine ⟨hl, fun x hx => ?_⟩
  obtain ⟨i, hi, e⟩ := List.getElem_of_mem hx
  obtain ⟨y, hy⟩ : ∃ y, W[i]? = some y := ⟨_, List.getElem?_eq_getElem (by omega)⟩
  have a1 := (Pl.metB_iff.1 hf.1).2 i y x hy (by rw [List.getElem?_eq_getElem hi, e])
  have a2 := (R.want y (List.mem_of_getElem? hy)).2.2
  unfold Pl.maxC at a2
  omega
theorem small30_c (w : World) : Ans Try.prog 17 [] (.b true) w := by
  refine calls_plainB [] Try.func17 rfl rfl (Nat.le_of_ble_eq_true rfl) rfl fun B hB => ?_
  repeat refine At.seq ?_
  refine At.region tab_ok ?_
  conv => whnf
  repeat refine At.seq ?_
  refine At.region tab_ok ?_
  conv => whnf
  intro v1
  conv => whnf
  repeat refine At.seq ?_
  refine At.region tab_ok ?_
  conv => whnf
  intro v2
  conv => whnf
  repeat refine At.seq ?_
  refine At.region tab_ok ?_
  conv => whnf
  intro v3
  conv => whnf
  repeat refine At.seq ?_
  refine At.region tab_ok ?_
  conv => whnf
  refine ansE_call b20 planG_rd (fun w' hw => plan_e Pl.exS Pl.exM [⟨1, 5, 6⟩] [] v1 v2 v3 w' (slN _ (hw.row (id := 0) rfl) (by simp [Pl.exS])) (slM _ (hw.row (id := 1) rfl) (by simp [Pl.exM])) (slW _ (hw.row (id := 2) rfl) (by simp))) ?_
  rintro rds ⟨P1, X1, c1, er1, hp1, rfl⟩
  obtain ⟨hch, rfl⟩ := plan_ok1 hp1 Pl.ex_right1
  obtain ⟨rfl, rfl⟩ := Pl.ex1 hch
  conv => whnf
  intro vp
  conv => whnf
  intro vx
  conv => whnf
  intro vc
  conv => whnf
  have hc1 := check_cut hch
  have hcl1 : c1.length ≤ 1000000 := by
    have : Pl.nodesN Pl.exS Pl.exM = 6 := rfl
    omega
  repeat refine At.seq ?_
  refine At.region tab_ok ?_
  conv => whnf
  intro v4
  conv => whnf
  refine ansE_call b20 planG_rd (fun w' hw => plan_e Pl.exS Pl.exM [⟨1, 2, 6⟩] [] v1 v2 v4 w' (slN _ (hw.row (id := 0) rfl) (by simp [Pl.exS])) (slM _ (hw.row (id := 1) rfl) (by simp [Pl.exM])) (slW _ (hw.row (id := 6) rfl) (by simp))) ?_
  rintro rds ⟨P2, X2, c2, er2, hp2, rfl⟩
  obtain ⟨hch2, rfl⟩ := plan_ok1 hp2 Pl.ex_right2
  obtain rfl := Pl.ex2 hch2
  conv => whnf
  intro vp2
  conv => whnf
  intro vx2
  conv => whnf
  intro vc2
  conv => whnf
  repeat refine At.seq ?_
  refine At.region tab_ok ?_
  conv => whnf
  intro v5
  conv => whnf
  refine ansE_call b20 planG_rd (fun w' hw => plan_e Pl.exS Pl.exM [⟨0, 3, 8⟩, ⟨1, 3, 9⟩] [] v1 v2 v5 w' (slN _ (hw.row (id := 0) rfl) (by simp [Pl.exS])) (slM _ (hw.row (id := 1) rfl) (by simp [Pl.exM])) (slW _ (hw.row (id := 10) rfl) (by simp))) ?_
  rintro rds ⟨P3, X3, c3, er3, hp3, rfl⟩
  obtain ⟨hch3, rfl⟩ := plan_ok1 hp3 Pl.ex_right3
  have hs3 := Pl.ex3 hch3
  have hm3 := check_met hch3
  conv => whnf
  intro vp3
  conv => whnf
  intro vx3
  conv => whnf
  intro vc3
  conv => whnf
  repeat refine At.seq ?_
  refine At.region tab_ok ?_
  conv => whnf
  refine ansR_call b22 (rdIP [6, 0] 0) (fun w' hw => by
    have := run_c Pl.exS Pl.exM [⟨1, 5, 6⟩] [⟨0, 0, 1, 4⟩] [4] [] v1 v2 v3 vp vx w' (slN _ (hw.row (id := 0) rfl) (by simp [Pl.exS])) (slM _ (hw.row (id := 1) rfl) (by simp [Pl.exM])) (slW _ (hw.row (id := 2) rfl) (by simp)) (slP _ (hw.row (id := 3) rfl) (by simp)) (slN _ (hw.row (id := 4) rfl) (by simp)) (by simp [Pl.exM])
    rw [Pl.ex_run1] at this
    exact this) ?_
  intro vl
  conv => whnf
  repeat refine At.seq ?_
  refine At.regionG tab_ok ?_
  conv => whnf
  intro u1
  conv => whnf
  refine ans_call b53 (r := .b true) rfl (fun w' hw => by
    have := sameP30_c [⟨0, 0, 1, 4⟩] [⟨0, 0, 1, 4⟩] [] [] vp u1 w' (slP _ (hw.row (id := 3) rfl) (by simp)) (slP _ (hw.row (id := 15) rfl) (by simp))
    rw [decide_eq_true rfl] at this
    exact this) ?_
  conv => whnf
  intro u2
  conv => whnf
  refine ans_call b54 (r := .b true) rfl (fun w' hw => by
    have := sameI30_c [4] [4] [] [] vx u2 w' (slN _ (hw.row (id := 4) rfl) (by simp)) (slN _ (hw.row (id := 16) rfl) (by simp))
    rw [decide_eq_true rfl] at this
    exact this) ?_
  conv => whnf
  refine ans_call b21 (r := .i 0) rfl (fun w' hw => by
    have := check_c Pl.exS Pl.exM [⟨1, 5, 6⟩] [⟨0, 0, 1, 4⟩] [4] c1 [] v1 v2 v3 vp vx vc w' (slN _ (hw.row (id := 0) rfl) (by simp [Pl.exS])) (slM _ (hw.row (id := 1) rfl) (by simp [Pl.exM])) (slW _ (hw.row (id := 2) rfl) (by simp)) (slP _ (hw.row (id := 3) rfl) (by simp)) (slN _ (hw.row (id := 4) rfl) (by simp)) (slB _ (hw.row (id := 5) rfl) hcl1) (by simp [Pl.exM])
    rw [hch] at this
    exact this) ?_
  conv => whnf
  repeat refine At.seq ?_
  refine At.regionG tab_ok ?_
  conv => whnf
  intro u3
  conv => whnf
  refine ans_call b54 (r := .b true) rfl (fun w' hw => by
    have := sameI30_c [0] [0] [] [] vx2 u3 w' (slN _ (hw.row (id := 8) rfl) (by simp)) (slN _ (hw.row (id := 17) rfl) (by simp))
    rw [decide_eq_true rfl] at this
    exact this) ?_
  conv => whnf
  refine ans_call b23 rfl (fun w' hw => sum30_c X3 [] vx3 w' (slN _ (hw.row (id := 12) rfl) (by rw [hm3.1]; simp)) (by rw [hm3.1]; simp) hm3.2) ?_
  rw [hs3]
  conv => whnf
  intro u4
  conv => whnf
  refine ans_call b54 (r := .b true) rfl (fun w' hw => by
    have := sameI30_c [6, 0] [6, 0] [] [] vl u4 w' (slN _ (hw.row (id := 14) rfl) (by simp)) (slN _ (hw.row (id := 18) rfl) (by simp))
    rw [decide_eq_true rfl] at this
    exact this) ?_
  conv => whnf
  repeat refine At.seq ?_
  refine At.ret (At.doneB tab_ok hB _ rfl fun w' hw => ⟨rfl, hw.fr⟩)
end Go.Proofs.Ytjilbkioieicbaa

/- Openers of the plan's arguments. -/
namespace Go.Proofs.Ytjilbkioieicbaa
open Go.Vc Rt
set_option linter.unusedVariables false
set_option linter.unusedSimpArgs false
theorem u5 : Try.prog.underlying 5 = some (.int .u8) := by kernel_rfl
theorem u22 : Try.prog.underlying 22 = some (.slice 3) := by kernel_rfl
theorem u23 : Try.prog.underlying 23 = some (.slice 42) := by kernel_rfl
theorem u24 : Try.prog.underlying 24 = some (.slice 40) := by kernel_rfl
theorem u25 : Try.prog.underlying 25 = some (.slice 38) := by kernel_rfl
theorem u26 : Try.prog.underlying 26 = some (.slice 4) := by kernel_rfl
theorem c4 : Try.prog.cellsOf 4 = 1 := by kernel_rfl
instance : Inhabited Pl.Meet := ⟨⟨0, 0, 0, 0⟩⟩
instance : Inhabited Pl.Want := ⟨⟨0, 0, 0⟩⟩
instance : Inhabited Pl.Pass := ⟨⟨0, 0, 0, 0⟩⟩
theorem u42 : Try.prog.underlying 42 = some (.struct (Try.prog.fieldsOf 42)) := by kernel_rfl
theorem f42 : (Try.prog.fieldsOf 42).toList.map (fun f => (f.type, f.offset)) = [3, 3, 3, 3].zipIdx := by kernel_rfl
theorem c42 : Try.prog.cellsOf 42 = 4 := by kernel_rfl
theorem u40 : Try.prog.underlying 40 = some (.struct (Try.prog.fieldsOf 40)) := by kernel_rfl
theorem f40 : (Try.prog.fieldsOf 40).toList.map (fun f => (f.type, f.offset)) = [3, 3, 3].zipIdx := by kernel_rfl
theorem c40 : Try.prog.cellsOf 40 = 3 := by kernel_rfl
theorem u38 : Try.prog.underlying 38 = some (.struct (Try.prog.fieldsOf 38)) := by kernel_rfl
theorem f38 : (Try.prog.fieldsOf 38).toList.map (fun f => (f.type, f.offset)) = [3, 3, 3, 3].zipIdx := by kernel_rfl
theorem c38 : Try.prog.cellsOf 38 = 4 := by kernel_rfl
section
variable {H : Type} {enc : TypeId × Value → H} {w : World} {spare : Nat → Bool} {held : Bool}
theorem int30_open {fuel : Nat} {cs : List Value} {x : DataW H × List MemPlace} (h : DataW.trod enc Try.prog w 0 spare held fuel 3 cs = some x) : ∃ (n : Int) (l : List CV), intT.rel [] w n l ∧ dens l = cs := by
  obtain ⟨n, q, _⟩ := DataW.trod_int u3 h
  subst q
  exact ⟨n, _, rfl, rfl⟩
theorem bool30_open {fuel : Nat} {cs : List Value} {x : DataW H × List MemPlace} (h : DataW.trod enc Try.prog w 0 spare held fuel 4 cs = some x) : ∃ (n : Bool) (l : List CV), boolT.rel [] w n l ∧ dens l = cs := by
  obtain ⟨n, q, _⟩ := DataW.trod_bool u4 h
  subst q
  exact ⟨n, _, rfl, rfl⟩
theorem meet30_open {fuel : Nat} {cs : List Value} {x : DataW H × List MemPlace} (h : DataW.trod enc Try.prog w 0 spare held fuel 42 cs = some x) : ∃ (s : Pl.Meet) (l : List CV), meT.rel [] w s l ∧ dens l = cs := by
  obtain ⟨hl, hg⟩ := struct_open u42 f42 (fun u hu => by simp at hu; subst hu; exact c3) c42 h
  match cs, hl with
  | [a, b, c, d], _ =>
    obtain ⟨_, _, _, e0, t0⟩ := hg 0 3 rfl
    obtain ⟨_, _, _, e1, t1⟩ := hg 1 3 rfl
    obtain ⟨_, _, _, e2, t2⟩ := hg 2 3 rfl
    obtain ⟨_, _, _, e3, t3⟩ := hg 3 3 rfl
    obtain ⟨n0, q0, _⟩ := DataW.trod_int u3 t0
    obtain ⟨n1, q1, _⟩ := DataW.trod_int u3 t1
    obtain ⟨n2, q2, _⟩ := DataW.trod_int u3 t2
    obtain ⟨n3, q3, _⟩ := DataW.trod_int u3 t3
    simp at e0 e1 e2 e3 q0 q1 q2 q3
    subst e0 e1 e2 e3 q0 q1 q2 q3
    exact ⟨⟨n0, n1, n2, n3⟩, _, rfl, rfl⟩
theorem want30_open {fuel : Nat} {cs : List Value} {x : DataW H × List MemPlace} (h : DataW.trod enc Try.prog w 0 spare held fuel 40 cs = some x) : ∃ (s : Pl.Want) (l : List CV), waT.rel [] w s l ∧ dens l = cs := by
  obtain ⟨hl, hg⟩ := struct_open u40 f40 (fun u hu => by simp at hu; subst hu; exact c3) c40 h
  match cs, hl with
  | [a, b, c], _ =>
    obtain ⟨_, _, _, e0, t0⟩ := hg 0 3 rfl
    obtain ⟨_, _, _, e1, t1⟩ := hg 1 3 rfl
    obtain ⟨_, _, _, e2, t2⟩ := hg 2 3 rfl
    obtain ⟨n0, q0, _⟩ := DataW.trod_int u3 t0
    obtain ⟨n1, q1, _⟩ := DataW.trod_int u3 t1
    obtain ⟨n2, q2, _⟩ := DataW.trod_int u3 t2
    simp at e0 e1 e2 q0 q1 q2
    subst e0 e1 e2 q0 q1 q2
    exact ⟨⟨n0, n1, n2⟩, _, rfl, rfl⟩
theorem pass30_open {fuel : Nat} {cs : List Value} {x : DataW H × List MemPlace} (h : DataW.trod enc Try.prog w 0 spare held fuel 38 cs = some x) : ∃ (s : Pl.Pass) (l : List CV), paT.rel [] w s l ∧ dens l = cs := by
  obtain ⟨hl, hg⟩ := struct_open u38 f38 (fun u hu => by simp at hu; subst hu; exact c3) c38 h
  match cs, hl with
  | [a, b, c, d], _ =>
    obtain ⟨_, _, _, e0, t0⟩ := hg 0 3 rfl
    obtain ⟨_, _, _, e1, t1⟩ := hg 1 3 rfl
    obtain ⟨_, _, _, e2, t2⟩ := hg 2 3 rfl
    obtain ⟨_, _, _, e3, t3⟩ := hg 3 3 rfl
    obtain ⟨n0, q0, _⟩ := DataW.trod_int u3 t0
    obtain ⟨n1, q1, _⟩ := DataW.trod_int u3 t1
    obtain ⟨n2, q2, _⟩ := DataW.trod_int u3 t2
    obtain ⟨n3, q3, _⟩ := DataW.trod_int u3 t3
    simp at e0 e1 e2 e3 q0 q1 q2 q3
    subst e0 e1 e2 e3 q0 q1 q2 q3
    exact ⟨⟨n0, n1, n2, n3⟩, _, rfl, rfl⟩
theorem ints30_open {v : Value} {d : DataW H} {ps : List MemPlace} (hs : ∃ a n c, v = .slice a n c) (h : DataW.Trod enc Try.prog w 0 spare held 22 v d ps) : ∃ l, SlOf intT [] w v l := by
  obtain ⟨a, n, c, rfl⟩ := hs
  obtain ⟨fuel, hf⟩ := h
  obtain ⟨v, xs, e, hv⟩ := slOf_open (T := intT) u22 c3 (by decide) (fun cs n x h => int30_open h) hf
  simp [Value.cells] at e
  subst e
  exact ⟨xs, hv⟩
theorem meets30_open {v : Value} {d : DataW H} {ps : List MemPlace} (hs : ∃ a n c, v = .slice a n c) (h : DataW.Trod enc Try.prog w 0 spare held 23 v d ps) : ∃ l, SlOf meT [] w v l := by
  obtain ⟨a, n, c, rfl⟩ := hs
  obtain ⟨fuel, hf⟩ := h
  obtain ⟨v, xs, e, hv⟩ := slOf_open (T := meT) u23 c42 (by decide) (fun cs n x h => meet30_open h) hf
  simp [Value.cells] at e
  subst e
  exact ⟨xs, hv⟩
theorem wants30_open {v : Value} {d : DataW H} {ps : List MemPlace} (hs : ∃ a n c, v = .slice a n c) (h : DataW.Trod enc Try.prog w 0 spare held 24 v d ps) : ∃ l, SlOf waT [] w v l := by
  obtain ⟨a, n, c, rfl⟩ := hs
  obtain ⟨fuel, hf⟩ := h
  obtain ⟨v, xs, e, hv⟩ := slOf_open (T := waT) u24 c40 (by decide) (fun cs n x h => want30_open h) hf
  simp [Value.cells] at e
  subst e
  exact ⟨xs, hv⟩
theorem passes30_open {v : Value} {d : DataW H} {ps : List MemPlace} (hs : ∃ a n c, v = .slice a n c) (h : DataW.Trod enc Try.prog w 0 spare held 25 v d ps) : ∃ l, SlOf paT [] w v l := by
  obtain ⟨a, n, c, rfl⟩ := hs
  obtain ⟨fuel, hf⟩ := h
  obtain ⟨v, xs, e, hv⟩ := slOf_open (T := paT) u25 c38 (by decide) (fun cs n x h => pass30_open h) hf
  simp [Value.cells] at e
  subst e
  exact ⟨xs, hv⟩
theorem bools30_open {v : Value} {d : DataW H} {ps : List MemPlace} (hs : ∃ a n c, v = .slice a n c) (h : DataW.Trod enc Try.prog w 0 spare held 26 v d ps) : ∃ l, SlOf boolT [] w v l := by
  obtain ⟨a, n, c, rfl⟩ := hs
  obtain ⟨fuel, hf⟩ := h
  obtain ⟨v, xs, e, hv⟩ := slOf_open (T := boolT) u26 c4 (by decide) (fun cs n x h => bool30_open h) hf
  simp [Value.cells] at e
  subst e
  exact ⟨xs, hv⟩
end
end Go.Proofs.Ytjilbkioieicbaa
