/- Texts that the law uses: N0 N1 N2 N3 N4 N5 N6 N7 N8 N9. -/
import Derived.Test.YtjilbkioieicbaaMC
import Derived.Test.YtjilbkioieicbaaMP
import Derived.WalkKit
import Derived.Lib.Mul64
import Derived.Laws.Bits64b
import Derived.Test.YtjilbkioieicbaaVcFam
import Derived.Test.YtjilbkioieicbaaVcGuard
/- Walk: math/bits.Mul, after the library's own proof (Mul64). -/
namespace Go.Proofs.Ytjilbkioieicbaa
open Go.Vc Go.Lib Go.RowKit
set_option linter.unusedVariables false
set_option linter.unusedSimpArgs false
theorem maskN (a : Nat) (ha : a < 18446744073709551616) : bits .and .u64 (a : Int) 4294967295 = ((a % 4294967296 : Nat) : Int) := by
  have h := bits_and_u64_nat a 4294967295 ha (by omega)
  have e : a &&& 4294967295 = a % 4294967296 := Nat.and_two_pow_sub_one_eq_mod a 32
  rw [e] at h
  exact h
theorem divN (a : Nat) : (a : Int) / 4294967296 = ((a / 4294967296 : Nat) : Int) := by omega
theorem mulN (a b : Nat) : (a : Int) * (b : Int) = ((a * b : Nat) : Int) := (Int.natCast_mul a b).symm
theorem addN (a b : Nat) : (a : Int) + (b : Int) = ((a + b : Nat) : Int) := (Int.natCast_add a b).symm
theorem wrapN (a : Nat) (ha : a < 18446744073709551616) : IntKind.u64.wrap (a : Int) = (a : Int) := by rw [IntKind.wrap_u64]; omega
theorem wrapM (a : Nat) : IntKind.u64.wrap (a : Int) = ((a % 18446744073709551616 : Nat) : Int) := by rw [IntKind.wrap_u64]; omega
set_option maxHeartbeats 1000000 in
theorem mul64_c (x y : Nat) (hx : x < 18446744073709551616) (hy : y < 18446744073709551616) (w : World) :
    Calls Try.prog 159 #[.int .u64 x, .int .u64 y] w fun e w' => e = .returned (.tuple #[.int .u64 ((x * y / 18446744073709551616 : Nat) : Int), .int .u64 ((x * y % 18446744073709551616 : Nat) : Int)]) ∧ w' = w := by
  obtain ⟨bd, bt, bw, hhi⟩ := Lib.mul64_hi x y hx hy
  have ba := Lib.half_mul_le (a := x / 4294967296) (b := y / 4294967296) (by omega) (by omega)
  have bb := Lib.half_mul_le (a := x / 4294967296) (b := y % 4294967296) (by omega) (by omega)
  have bc := Lib.half_mul_le (a := x % 4294967296) (b := y / 4294967296) (by omega) (by omega)
  have ba' : x / 4294967296 * (y / 4294967296) < 18446744073709551616 := by omega
  have bb' : x / 4294967296 * (y % 4294967296) < 18446744073709551616 := by omega
  have bc' : x % 4294967296 * (y / 4294967296) < 18446744073709551616 := by omega
  have bh1 : x / 4294967296 * (y / 4294967296) + (x / 4294967296 * (y % 4294967296) + x % 4294967296 * (y % 4294967296) / 4294967296) / 4294967296 < 18446744073709551616 := by omega
  have bh : x / 4294967296 * (y / 4294967296) + (x / 4294967296 * (y % 4294967296) + x % 4294967296 * (y % 4294967296) / 4294967296) / 4294967296 + ((x / 4294967296 * (y % 4294967296) + x % 4294967296 * (y % 4294967296) / 4294967296) % 4294967296 + x % 4294967296 * (y / 4294967296)) / 4294967296 < 18446744073709551616 := by omega
  go_enter Try.func159, Try.ntmps159
  go_wp2
  simp only [maskN x hx, maskN y hy, divN, mulN, addN, wrapN _ bd, wrapN _ bb', wrapN _ bt, maskN _ bt, wrapN _ bc', wrapN _ bw, wrapN _ ba', wrapN _ bh1, wrapN _ bh, wrapM (x * y)]
  rw [hhi]
  go_ret2
  exact ⟨rfl, rfl⟩
/-- math/bits.Mul where the first number is 1. -/
theorem mul_c (y : Int) (h0 : 0 ≤ y) (h1 : y < 9223372036854775808) (w : World) : Ans Try.prog 141 [.int .u64 1, .int .u64 y] (.tup [.c (.x (.int .u64 0)), .c (.x (.int .u64 y))]) w := by
  obtain ⟨n, rfl⟩ : ∃ n : Nat, y = n := ⟨y.toNat, by omega⟩
  have key : ∀ w', Ans Try.prog 159 [.int .u64 1, .int .u64 n] (.tup [.c (.x (.int .u64 0)), .c (.x (.int .u64 n))]) w' := fun w' => by
    refine (mul64_c 1 n (by omega) (by omega) w').mono fun e w2 ⟨he, hw⟩ => ?_
    subst hw
    refine ⟨?_, Fr.refl _ _⟩
    rw [he, Nat.one_mul, Nat.div_eq_of_lt (by omega), Nat.mod_eq_of_lt (by omega)]
    rfl
  refine calls_plainB [.x (.int .u64 1), .x (.int .u64 n)] Try.func141 rfl rfl (Nat.le_of_ble_eq_true rfl) rfl fun B hB => ?_
  repeat refine At.seq ?_
  refine At.region tab_ok ?_
  conv => whnf
  repeat refine At.seq ?_
  refine At.cond (t := false) rfl (fun hq => by cases hq) (fun hq => At.skip ?_)
  repeat refine At.seq ?_
  refine At.region tab_ok ?_
  conv => whnf
  refine ans_call b159 rfl (fun w' _ => key w') ?_
  conv => whnf
  repeat refine At.seq ?_
  refine At.region tab_ok ?_
  conv => whnf
  repeat refine At.seq ?_
  refine At.ret (At.doneB tab_ok hB _ rfl fun w' hw => ⟨rfl, hw.fr⟩)
end Go.Proofs.Ytjilbkioieicbaa

/- Walks: plan: what is valid. -/
namespace Go.Proofs.Ytjilbkioieicbaa
open Go.Vc Rt
set_option linter.unusedVariables false
set_option linter.unusedSimpArgs false
def encE (e : Pl.Edge) : List CV := [.i e.f, .i e.t, .i e.c]
def encM (m : Pl.Meet) : List CV := [.i m.day, .i m.a, .i m.b, .i m.cap]
def encW (w : Pl.Want) : List CV := [.i w.key, .i w.day, .i w.n]
def encP (p : Pl.Pass) : List CV := [.i p.meet, .i p.fr, .i p.to, .i p.n]
def encBo (b : Bool) : List CV := [.b b]
def edT : Ty Pl.Edge := flat 3 encE (fun _ => rfl)
def meT : Ty Pl.Meet := flat 4 encM (fun _ => rfl)
def waT : Ty Pl.Want := flat 3 encW (fun _ => rfl)
def paT : Ty Pl.Pass := flat 4 encP (fun _ => rfl)
theorem nopE (xs : List Pl.Edge) : NoP (xs.map encE) := NoP.map (fun _ => rfl) xs
theorem nopM (xs : List Pl.Meet) : NoP (xs.map encM) := NoP.map (fun _ => rfl) xs
theorem nopW (xs : List Pl.Want) : NoP (xs.map encW) := NoP.map (fun _ => rfl) xs
theorem nopP (xs : List Pl.Pass) : NoP (xs.map encP) := NoP.map (fun _ => rfl) xs
theorem nopB (xs : List Bool) : NoP (xs.map encBo) := NoP.map (fun _ => rfl) xs
def vM (m : Pl.Meet) : Value := .agg #[.int .i64 m.day, .int .i64 m.a, .int .i64 m.b, .int .i64 m.cap]
def vE (e : Pl.Edge) : Value := .agg #[.int .i64 e.f, .int .i64 e.t, .int .i64 e.c]
def withinB (n most : Int) : Bool := decide (0 ≤ n ∧ n ≤ most)
theorem within30_c (n most : Int) (w : World) : Ans Try.prog 55 [vI n, vI most] (.b (withinB n most)) w := by
  refine calls_plainB [.i n, .i most] Try.func55 rfl rfl (Nat.le_of_ble_eq_true rfl) rfl fun B hB => ?_
  repeat refine At.seq ?_
  refine At.region tab_ok ?_
  conv => whnf
  repeat refine At.seq ?_
  refine At.region tab_ok ?_
  conv => whnf
  repeat refine At.seq ?_
  refine At.ret (At.doneB tab_ok hB _ rfl fun w' hw => ⟨?_, hw.fr⟩)
  have : withinB n most = (bif decide (0 ≤ n) then decide (n ≤ most) else false) := by unfold withinB; rw [band, Bool.decide_and]
  rw [this]
theorem right1_c (a b : Pl.Meet) (w : World) : Ans Try.prog 57 [vM a, vM b] (.i (cmpI a.day b.day)) w := by
  refine calls_plainB [.s (.agg (encM a)), .s (.agg (encM b))] Try.func57 rfl rfl (Nat.le_of_ble_eq_true rfl) rfl fun B hB => ?_
  repeat refine At.seq ?_
  refine At.region tab_ok ?_
  conv => whnf
  intro b1
  conv => whnf
  intro b2
  conv => whnf
  repeat refine At.seq ?_
  refine At.region tab_ok ?_
  conv => whnf
  refine ans_call b58 rfl (fun w _ => compare_c a.day b.day w) ?_
  conv => whnf
  repeat refine At.seq ?_
  refine At.ret (At.doneB tab_ok hB _ rfl fun w' hw => ⟨rfl, hw.fr⟩)
theorem sorted_iff : ∀ {M : List Pl.Meet}, Pl.sortedB M = true ↔ ∀ (i : Nat) a b, M[i]? = some a → M[i + 1]? = some b → a.day ≤ b.day
  | [] => by simp [Pl.sortedB]
  | [x] => by simp [Pl.sortedB]
  | x :: y :: r => by
    simp only [Pl.sortedB, Bool.and_eq_true, decide_eq_true_eq, sorted_iff (M := y :: r)]
    constructor
    · rintro ⟨h1, h2⟩ i a b ha hb
      cases i with
      | zero => simp at ha hb; subst ha hb; exact h1
      | succ i => exact h2 i a b (by simpa using ha) (by simpa using hb)
    · intro h
      exact ⟨h 0 x y (by simp) (by simp), fun i a b ha hb => h (i + 1) a b (by simpa using ha) (by simpa using hb)⟩
theorem sorted_c (M : List Pl.Meet) (S : List Nat) (v : Value) (w : World) (h : SlOf meT S w v M) : Ans Try.prog 56 [v, .func (.func 57) #[] #[]] (.b (Pl.sortedB M)) w := by
  replace h := h.avoid (S' := []) (fun b hb => by cases hb)
  have hsm := h.small
  have hl := h.len
  refine calls_plainB [.x v, .x (.func (.func 57) #[] #[])] Try.func56 rfl rfl (Nat.le_of_ble_eq_true rfl) rfl fun B hB => ?_
  repeat refine At.seq ?_
  refine At.region tab_ok ?_
  conv => whnf
  repeat refine At.seq ?_
  refine At.region tab_ok ?_
  conv => whnf
  refine ⟨h.sl, ?_⟩
  conv => whnf
  refine ⟨⟨by omega, by omega⟩, ?_⟩
  conv => whnf
  repeat refine At.seq ?_
  refine At.block ?_
  refine At.loopH (fun k : Nat => { N := Try.f56.ntmps, sl := [(0, some (.x v)), (1, some (.x ((.func (.func 57) #[] #[])))), (5, some (.i ((k : Int) - 1)))], gl := [], hp := [], S := [], ws := w }) (fun k : Nat => k ≤ M.length ∧ ∀ (i : Nat) a b, M[i]? = some a → M[i + 1]? = some b → k ≤ i + 1 → a.day ≤ b.day) (fun k : Nat => k)
    (fun w' hw => ⟨M.length, ⟨Nat.le_refl _, fun i a b _ hb hk => by have := (List.getElem?_eq_some_iff.1 hb).1; omega⟩, Le.of rfl rfl ⟨rfl, rfl, congrArg (Value.int .i64) (by simp only [hl]), trivial⟩, hw.same rfl rfl rfl, trivial, trivial⟩) ?_
  rintro k ⟨hk, hall⟩
  repeat refine At.seq ?_
  refine At.region tab_ok ?_
  conv => whnf
  repeat refine At.seq ?_
  refine At.cond rfl (fun hc => At.skip ?_) (fun hc => At.exit ?_)
  · have hk2 : 2 ≤ k := by have := of_decide_eq_true hc; omega
    obtain ⟨x, hx⟩ : ∃ x, M[k - 1]? = some x := ⟨_, List.getElem?_eq_getElem (by omega)⟩
    obtain ⟨y, hy⟩ : ∃ y, M[k - 2]? = some y := ⟨_, List.getElem?_eq_getElem (by omega)⟩
    repeat refine At.seq ?_
    refine At.block ?_
    repeat refine At.seq ?_
    refine At.draw tab_ok mixed (by kernel_rfl) ?_
    conv => whnf
    refine ⟨by omega, ?_⟩
    conv => whnf
    refine ⟨by omega, ?_⟩
    conv => whnf
    refine ⟨encM x, fun w' hw => h.loadI (n := 4) hw.fr (by omega) (by rw [show ((k : Int) - 1).toNat = k - 1 by omega]; exact hx) rfl, ?_⟩
    conv => whnf
    refine ⟨⟨by omega, by omega⟩, ?_⟩
    conv => whnf
    refine ⟨by omega, ?_⟩
    conv => whnf
    refine ⟨by omega, ?_⟩
    conv => whnf
    refine ⟨encM y, fun w' hw => h.loadI (n := 4) hw.fr (by omega) (by rw [show ((k : Int) - 1 - 1).toNat = k - 2 by omega]; exact hy) rfl, ?_⟩
    conv => whnf
    refine ⟨.i (cmpI x.day y.day), ans_quiet b57 (fun w' hw => right1_c x y w'), ?_⟩
    conv => whnf
    repeat refine At.seq ?_
    refine At.cond rfl (fun hq => ?_) (fun hq => ?_)
    · repeat refine At.seq ?_
      refine At.region tab_ok ?_
      conv => whnf
      repeat refine At.seq ?_
      refine At.ret (At.doneB tab_ok hB _ rfl fun w' hw => ⟨?_, hw.fr⟩)
      have : Pl.sortedB M = false := by
        refine Bool.eq_false_iff.2 fun hs => ?_
        have := sorted_iff.1 hs (k - 2) y x hy (by rw [show k - 2 + 1 = k - 1 by omega]; exact hx)
        have hq := of_decide_eq_true hq
        unfold cmpI at hq
        split at hq
        · omega
        · split at hq <;> omega
      rw [this]
    · refine At.skip ?_
      repeat refine At.seq ?_
      refine At.region tab_ok ?_
      conv => whnf
      refine ⟨⟨by omega, by omega⟩, ?_⟩
      conv => whnf
      refine At.nextH fun w' hw => ⟨k - 1, ⟨by omega, fun i a b ha hb hi => ?_⟩, by omega, Le.of rfl rfl ⟨rfl, rfl, congrArg (Value.int .i64) (by omega), trivial⟩, hw.keep [] rfl rfl rfl, trivial, trivial⟩
      by_cases he : k ≤ i + 1
      · exact hall i a b ha hb he
      · have e1 : i = k - 2 := by omega
        subst e1
        rw [hy] at ha; cases ha
        rw [show k - 2 + 1 = k - 1 by omega, hx] at hb; cases hb
        have hq := of_decide_eq_false hq
        unfold cmpI at hq
        split at hq
        · omega
        · omega
  · have hk1 : k ≤ 1 := by have := of_decide_eq_false hc; omega
    repeat refine At.seq ?_
    refine At.region tab_ok ?_
    conv => whnf
    repeat refine At.seq ?_
    refine At.ret (At.doneB tab_ok hB _ rfl fun w' hw => ⟨?_, hw.fr⟩)
    rw [sorted_iff.2 fun i a b ha hb => hall i a b ha hb (by omega)]
end Go.Proofs.Ytjilbkioieicbaa

/- Walks: plan.Right. -/
namespace Go.Proofs.Ytjilbkioieicbaa
open Go.Vc Rt
set_option linter.unusedVariables false
set_option linter.unusedSimpArgs false
theorem drop_cons' {α : Type} {xs : List α} {k : Nat} {x : α} (h : xs[k]? = some x) : xs.drop k = x :: xs.drop (k + 1) := by
  obtain ⟨h1, h2⟩ := List.getElem?_eq_some_iff.1 h
  rw [List.drop_eq_getElem_cons h1, h2]
theorem not_all {α : Type} {p : α → Bool} {xs : List α} {k : Nat} {x : α} (h : xs[k]? = some x) (hp : p x = false) : xs.all p = false := by
  rw [List.all_eq_false]
  exact ⟨x, List.mem_of_getElem? h, by simp [hp]⟩
theorem right_pc (S : List Int) (M : List Pl.Meet) (W : List Pl.Want) (T : List Nat) (v1 v2 v3 : Value) (w : World) (h1 : SlOf intT T w v1 S) (h2 : SlOf meT T w v2 M) (h3 : SlOf waT T w v3 W) :
    Ans Try.prog 19 [v1, v2, v3] (.b (Pl.rightB S M W)) w := by
  replace h1 := h1.avoid (S' := []) (fun b hb => by cases hb)
  replace h2 := h2.avoid (S' := []) (fun b hb => by cases hb)
  replace h3 := h3.avoid (S' := []) (fun b hb => by cases hb)
  have l1 := h1.len
  have l2 := h2.len
  have l3 := h3.len
  have m1 := h1.small
  have m2 := h2.small
  have m3 := h3.small
  refine calls_plainB [.x v1, .x v2, .x v3] Try.func19 rfl rfl (Nat.le_of_ble_eq_true rfl) rfl fun B hB => ?_
  repeat refine At.seq ?_
  refine At.region tab_ok ?_
  conv => whnf
  repeat refine At.seq ?_
  refine At.region tab_ok ?_
  conv => whnf
  refine ⟨h1.sl, ?_⟩
  conv => whnf
  repeat refine At.seq ?_
  refine At.region tab_ok ?_
  conv => whnf
  refine ⟨by simp only [gimp]; intro _; exact h2.sl, ?_⟩
  conv => whnf
  refine ⟨by simp only [gimp]; intro _; exact h3.sl, ?_⟩
  conv => whnf
  repeat refine At.seq ?_
  refine At.cond rfl (fun hq => ?_) (fun hq => ?_)
  · repeat refine At.seq ?_
    refine At.region tab_ok ?_
    conv => whnf
    repeat refine At.seq ?_
    refine At.ret (At.doneB tab_ok hB _ rfl fun w' hw => ⟨?_, hw.fr⟩)
    simp only [bor, l1, l2, l3, Bool.or_eq_true, decide_eq_true_eq] at hq
    have : ¬ (1 ≤ S.length ∧ S.length ≤ 60 ∧ M.length ≤ 200 ∧ W.length ≤ 200) := by omega
    simp only [Pl.rightB, decide_eq_false this, Bool.false_and]
  simp only [bor, l1, l2, l3, Bool.or_eq_false_iff, decide_eq_false_iff_not] at hq
  have hsz : 1 ≤ S.length ∧ S.length ≤ 60 ∧ M.length ≤ 200 ∧ W.length ≤ 200 := by omega
  refine At.skip ?_
  repeat refine At.seq ?_
  refine At.region tab_ok ?_
  conv => whnf
  refine ⟨h1.sl, ?_⟩
  conv => whnf
  repeat refine At.seq ?_
  refine At.block ?_
  refine At.loopH (fun p : Nat × Int => { N := Try.f19.ntmps, sl := [(0, some (.x v1)), (1, some (.x v2)), (2, some (.x v3)), (7, some (.i ((S.length : Int)))), (8, some (.i p.2)), (31, some (.x v1)), (32, some (.i ((S.length : Int)))), (33, some (.i p.1))], gl := [], hp := [], S := [], ws := w }) (fun p : Nat × Int => p.1 ≤ S.length ∧ (0 ≤ p.2 ∧ p.2 ≤ Pl.maxC) ∧ Pl.stockB S Pl.maxC = Pl.stockB (S.drop p.1) p.2) (fun p : Nat × Int => S.length - p.1)
    (fun w' hw => ⟨(0, Pl.maxC), ⟨Nat.zero_le _, by decide, rfl⟩, Le.of rfl rfl ⟨rfl, rfl, rfl, congrArg (Value.int .i64) (by simp only [l1]), rfl, rfl, congrArg (Value.int .i64) (by simp only [l1]), rfl, trivial⟩, hw.same rfl rfl rfl, trivial, trivial⟩) ?_
  rintro ⟨k, rest⟩ ⟨hk, hrest, hst⟩
  simp only at hk hrest hst ⊢
  unfold Pl.maxC at hrest
  repeat refine At.seq ?_
  refine At.region tab_ok ?_
  conv => whnf
  repeat refine At.seq ?_
  refine At.cond rfl (fun hc => At.skip ?_) (fun hc => At.exit ?_)
  · have hlt : k < S.length := by have := of_decide_eq_true hc; (try simp only [List.length_map] at this); omega
    obtain ⟨x, hx⟩ : ∃ x, S[k]? = some x := ⟨_, List.getElem?_eq_getElem hlt⟩
    rw [drop_cons' hx] at hst
    simp only [Pl.stockB] at hst
    repeat refine At.seq ?_
    refine At.block ?_
    repeat refine At.seq ?_
    refine At.region tab_ok ?_
    conv => whnf
    refine ⟨by omega, ?_⟩
    conv => whnf
    refine ⟨by omega, ?_⟩
    conv => whnf
    refine ⟨encI x, fun w' hw => h1.load (n := 1) hw.fr hx rfl, ?_⟩
    conv => whnf
    repeat refine At.seq ?_
    refine At.region tab_ok ?_
    conv => whnf
    refine ans_call b55 rfl (fun w' hw => within30_c x rest w') ?_
    conv => whnf
    repeat refine At.seq ?_
    refine At.cond rfl (fun hq => ?_) (fun hq => ?_)
    · repeat refine At.seq ?_
      refine At.region tab_ok ?_
      conv => whnf
      repeat refine At.seq ?_
      refine At.ret (At.doneB tab_ok hB _ rfl fun w' hw => ⟨?_, hw.fr⟩)
      have hno : decide (0 ≤ x ∧ x ≤ rest) = false := (show withinB x rest = false by simpa using hq)
      rw [hno, Bool.false_and] at hst
      simp only [Pl.rightB, hst, Bool.and_false, Bool.false_and]
    · have hyes : 0 ≤ x ∧ x ≤ rest := by simpa [withinB] using hq
      rw [decide_eq_true hyes, Bool.true_and] at hst
      refine At.skip ?_
      repeat refine At.seq ?_
      refine At.region tab_ok ?_
      conv => whnf
      refine ⟨⟨by omega, by omega⟩, ?_⟩
      conv => whnf
      repeat refine At.seq ?_
      refine At.region tab_ok ?_
      conv => whnf
      refine ⟨⟨by omega, by omega⟩, ?_⟩
      conv => whnf
      refine At.nextH fun w' hw => ⟨(k + 1, rest - x), ⟨by simp only; omega, by simp only [Pl.maxC]; omega, hst⟩, by simp only; omega, Le.of rfl rfl ⟨rfl, rfl, rfl, rfl, rfl, rfl, rfl, rfl, trivial⟩, hw.keep [] rfl rfl rfl, trivial, trivial⟩
  have hke : k = S.length := by have := of_decide_eq_false hc; omega
  rw [hke, List.drop_length] at hst
  simp only [Pl.stockB] at hst
  clear hrest hc hk
  repeat refine At.seq ?_
  refine At.region tab_ok ?_
  conv => whnf
  refine ⟨h2.sl, ?_⟩
  conv => whnf
  repeat refine At.seq ?_
  refine At.block ?_
  refine At.loopH (fun j : Nat => { N := Try.f19.ntmps, sl := [(0, some (.x v1)), (1, some (.x v2)), (2, some (.x v3)), (7, some (.i ((S.length : Int)))), (45, some (.x v2)), (46, some (.i ((M.length : Int)))), (47, some (.i j))], gl := [], hp := [], S := [], ws := w }) (fun j : Nat => j ≤ M.length ∧ M.all (Pl.meetB S.length) = (M.drop j).all (Pl.meetB S.length)) (fun j : Nat => M.length - j)
    (fun w' hw => ⟨0, ⟨Nat.zero_le _, rfl⟩, Le.of rfl rfl ⟨rfl, rfl, rfl, rfl, rfl, congrArg (Value.int .i64) (by simp only [l2]), rfl, trivial⟩, hw.keep [] rfl rfl rfl, trivial, trivial⟩) ?_
  rintro j ⟨hk, hall⟩
  repeat refine At.seq ?_
  refine At.region tab_ok ?_
  conv => whnf
  repeat refine At.seq ?_
  refine At.cond rfl (fun hc => At.skip ?_) (fun hc => At.exit ?_)
  · have hlt : j < M.length := by have := of_decide_eq_true hc; (try simp only [List.length_map] at this); omega
    obtain ⟨x, hx⟩ : ∃ x, M[j]? = some x := ⟨_, List.getElem?_eq_getElem hlt⟩
    rw [drop_cons' hx, List.all_cons] at hall
    repeat refine At.seq ?_
    refine At.block ?_
    repeat refine At.seq ?_
    refine At.region tab_ok ?_
    conv => whnf
    refine ⟨by omega, ?_⟩
    conv => whnf
    refine ⟨by omega, ?_⟩
    conv => whnf
    refine ⟨encM x, fun w' hw => h2.load (n := 4) hw.fr hx rfl, ?_⟩
    conv => whnf
    intro b1
    conv => whnf
    repeat refine At.seq ?_
    refine At.region tab_ok ?_
    conv => whnf
    refine ans_call b55 (r := .b (withinB x.day 1048576)) rfl (fun w' hw => within30_c _ _ w') ?_
    conv => whnf
    refine ⟨by simp only [gimp]; intro _; exact ⟨by omega, by omega⟩, ?_⟩
    conv => whnf
    refine ⟨.b (withinB x.a (S.length - 1)), by simp only [gimp]; intro _; exact ans_quiet b55 (fun w' hw => within30_c _ _ w'), ?_⟩
    conv => whnf
    refine ⟨by simp only [gimp]; intro _; exact ⟨by omega, by omega⟩, ?_⟩
    conv => whnf
    refine ⟨.b (withinB x.b (S.length - 1)), by simp only [gimp]; intro _; exact ans_quiet b55 (fun w' hw => within30_c _ _ w'), ?_⟩
    conv => whnf
    refine ⟨.b (withinB x.cap 1099511627776), by simp only [gimp]; intro _; exact ans_quiet b55 (fun w' hw => within30_c _ _ w'), ?_⟩
    conv => whnf
    have hm : (bif bif bif bif !withinB x.day 1048576 then true else !withinB x.a (S.length - 1) then true else !withinB x.b (S.length - 1) then true else decide (x.a = x.b) then true else !withinB x.cap 1099511627776) = !Pl.meetB S.length x := by
      simp only [bor, Pl.meetB, Bool.not_and, Bool.not_not, withinB, Pl.maxC]
      rfl
    repeat refine At.seq ?_
    refine At.cond rfl (fun hq => ?_) (fun hq => ?_)
    · repeat refine At.seq ?_
      refine At.region tab_ok ?_
      conv => whnf
      repeat refine At.seq ?_
      refine At.ret (At.doneB tab_ok hB _ rfl fun w' hw => ⟨?_, hw.fr⟩)
      have hq : (!Pl.meetB S.length x) = true := hm.symm.trans hq
      have hno : Pl.meetB S.length x = false := by simpa using hq
      rw [hno, Bool.false_and] at hall
      simp only [Pl.rightB, hall, Bool.and_false, Bool.false_and]
    · have hq : (!Pl.meetB S.length x) = false := hm.symm.trans hq
      have hyes : Pl.meetB S.length x = true := by simpa using hq
      rw [hyes, Bool.true_and] at hall
      refine At.skip ?_
      repeat refine At.seq ?_
      refine At.region tab_ok ?_
      conv => whnf
      refine ⟨⟨by omega, by omega⟩, ?_⟩
      conv => whnf
      refine At.nextH fun w' hw => ⟨j + 1, ⟨by omega, hall⟩, by omega, Le.of rfl rfl ⟨rfl, rfl, rfl, rfl, rfl, rfl, rfl, trivial⟩, hw.keep [] rfl rfl rfl, trivial, trivial⟩
  have hke : j = M.length := by have := of_decide_eq_false hc; omega
  rw [hke, List.drop_length, List.all_nil] at hall
  clear hc hk
  repeat refine At.seq ?_
  refine At.region tab_ok ?_
  conv => whnf
  refine ⟨h3.sl, ?_⟩
  conv => whnf
  repeat refine At.seq ?_
  refine At.block ?_
  refine At.loopH (fun i : Nat => { N := Try.f19.ntmps, sl := [(0, some (.x v1)), (1, some (.x v2)), (2, some (.x v3)), (7, some (.i ((S.length : Int)))), (85, some (.x v3)), (86, some (.i ((W.length : Int)))), (87, some (.i i))], gl := [], hp := [], S := [], ws := w }) (fun i : Nat => i ≤ W.length ∧ W.all (Pl.wantB S.length) = (W.drop i).all (Pl.wantB S.length)) (fun i : Nat => W.length - i)
    (fun w' hw => ⟨0, ⟨Nat.zero_le _, rfl⟩, Le.of rfl rfl ⟨rfl, rfl, rfl, rfl, rfl, congrArg (Value.int .i64) (by simp only [l3]), rfl, trivial⟩, hw.keep [] rfl rfl rfl, trivial, trivial⟩) ?_
  rintro i ⟨hk, hall2⟩
  repeat refine At.seq ?_
  refine At.region tab_ok ?_
  conv => whnf
  repeat refine At.seq ?_
  refine At.cond rfl (fun hc => At.skip ?_) (fun hc => At.exit ?_)
  · have hlt : i < W.length := by have := of_decide_eq_true hc; (try simp only [List.length_map] at this); omega
    obtain ⟨x, hx⟩ : ∃ x, W[i]? = some x := ⟨_, List.getElem?_eq_getElem hlt⟩
    rw [drop_cons' hx, List.all_cons] at hall2
    repeat refine At.seq ?_
    refine At.block ?_
    repeat refine At.seq ?_
    refine At.region tab_ok ?_
    conv => whnf
    refine ⟨by omega, ?_⟩
    conv => whnf
    refine ⟨by omega, ?_⟩
    conv => whnf
    refine ⟨encW x, fun w' hw => h3.load (n := 3) hw.fr hx rfl, ?_⟩
    conv => whnf
    intro b1
    conv => whnf
    repeat refine At.seq ?_
    refine At.region tab_ok ?_
    conv => whnf
    refine ans_call b55 (r := .b (withinB x.day 1048576)) rfl (fun w' hw => within30_c _ _ w') ?_
    conv => whnf
    refine ⟨by simp only [gimp]; intro _; exact ⟨by omega, by omega⟩, ?_⟩
    conv => whnf
    refine ⟨.b (withinB x.key (S.length - 1)), by simp only [gimp]; intro _; exact ans_quiet b55 (fun w' hw => within30_c _ _ w'), ?_⟩
    conv => whnf
    refine ⟨.b (withinB x.n 1099511627776), by simp only [gimp]; intro _; exact ans_quiet b55 (fun w' hw => within30_c _ _ w'), ?_⟩
    conv => whnf
    have hm : (bif bif !withinB x.day 1048576 then true else !withinB x.key (S.length - 1) then true else !withinB x.n 1099511627776) = !Pl.wantB S.length x := by
      simp only [bor, Pl.wantB, Bool.not_and, Bool.not_not, withinB, Pl.maxC]
      rfl
    repeat refine At.seq ?_
    refine At.cond rfl (fun hq => ?_) (fun hq => ?_)
    · repeat refine At.seq ?_
      refine At.region tab_ok ?_
      conv => whnf
      repeat refine At.seq ?_
      refine At.ret (At.doneB tab_ok hB _ rfl fun w' hw => ⟨?_, hw.fr⟩)
      have hq : (!Pl.wantB S.length x) = true := hm.symm.trans hq
      have hno : Pl.wantB S.length x = false := by simpa using hq
      rw [hno, Bool.false_and] at hall2
      simp only [Pl.rightB, hall2, Bool.and_false, Bool.false_and]
    · have hq : (!Pl.wantB S.length x) = false := hm.symm.trans hq
      have hyes : Pl.wantB S.length x = true := by simpa using hq
      rw [hyes, Bool.true_and] at hall2
      refine At.skip ?_
      repeat refine At.seq ?_
      refine At.region tab_ok ?_
      conv => whnf
      refine ⟨⟨by omega, by omega⟩, ?_⟩
      conv => whnf
      refine At.nextH fun w' hw => ⟨i + 1, ⟨by omega, hall2⟩, by omega, Le.of rfl rfl ⟨rfl, rfl, rfl, rfl, rfl, rfl, rfl, trivial⟩, hw.keep [] rfl rfl rfl, trivial, trivial⟩
  have hke : i = W.length := by have := of_decide_eq_false hc; omega
  rw [hke, List.drop_length, List.all_nil] at hall2
  clear hc hk
  repeat refine At.seq ?_
  refine At.region tab_ok ?_
  conv => whnf
  refine ans_call b56 rfl (fun w' hw => sorted_c M [] v2 w' (h2.fr hw.fr)) ?_
  conv => whnf
  repeat refine At.seq ?_
  refine At.ret (At.doneB tab_ok hB _ rfl fun w' hw => ⟨?_, hw.fr⟩)
  simp only [Pl.rightB, hst, hall, hall2, decide_eq_true hsz, Bool.true_and]
end Go.Proofs.Ytjilbkioieicbaa

/- Walks: plan.schedule. -/
namespace Go.Proofs.Ytjilbkioieicbaa
open Go.Vc Rt
set_option linter.unusedVariables false
set_option linter.unusedSimpArgs false
theorem sched1_c (m : Pl.Meet) (d : Int) (w : World) : Ans Try.prog 91 [vM m, vI d] (.i (cmpI m.day d)) w := by
  refine calls_plainB [.s (.agg (encM m)), .i d] Try.func91 rfl rfl (Nat.le_of_ble_eq_true rfl) rfl fun B hB => ?_
  repeat refine At.seq ?_
  refine At.region tab_ok ?_
  conv => whnf
  intro b1
  conv => whnf
  repeat refine At.seq ?_
  refine At.region tab_ok ?_
  conv => whnf
  refine ans_call b58 rfl (fun w _ => compare_c m.day d w) ?_
  conv => whnf
  repeat refine At.seq ?_
  refine At.ret (At.doneB tab_ok hB _ rfl fun w' hw => ⟨rfl, hw.fr⟩)
def foundM (M : List Pl.Meet) (d : Int) : Bool := match M[Pl.upto M d]? with
  | some x => decide (cmpI x.day (d + 1) = 0)
  | none => false
theorem cmp_lt {a b : Int} : cmpI a b < 0 ↔ a < b := by unfold cmpI; split <;> (try split) <;> omega
theorem searchM_c (M : List Pl.Meet) (d : Int) (S : List Nat) (v : Value) (w : World) (h : SlOf meT S w v M) (hs : Pl.sortedB M = true) (hM : M.length ≤ 1000000) :
    Ans Try.prog 90 [v, vI (d + 1), .func (.func 91) #[] #[]] (.tup [.c (.i (Pl.upto M d)), .c (.b (foundM M d))]) w := by
  replace h := h.avoid (S' := []) (fun b hb => by cases hb)
  have hl := h.len
  have hup := Pl.upto_le M d
  refine calls_plainB [.x v, .i (d + 1), .x (.func (.func 91) #[] #[])] Try.func90 rfl rfl (Nat.le_of_ble_eq_true rfl) rfl fun B hB => ?_
  repeat refine At.seq ?_
  refine At.region tab_ok ?_
  conv => whnf
  repeat refine At.seq ?_
  refine At.region tab_ok ?_
  conv => whnf
  refine ⟨h.sl, ?_⟩
  conv => whnf
  repeat refine At.seq ?_
  refine At.region tab_ok ?_
  conv => whnf
  repeat refine At.seq ?_
  refine At.block ?_
  refine At.loopH (fun p : Nat × Nat => { N := Try.f90.ntmps, sl := [(0, some (.x v)), (1, some (.i (d + 1))), (2, some (.x ((.func (.func 91) #[] #[])))), (8, some (.i ((M.length : Int)))), (9, some (.i p.1)), (10, some (.i p.2))], gl := [], hp := [], S := [], ws := w }) (fun p : Nat × Nat => p.1 ≤ Pl.upto M d ∧ Pl.upto M d ≤ p.2 ∧ p.2 ≤ M.length) (fun p : Nat × Nat => p.2 - p.1)
    (fun w' hw => ⟨(0, M.length), ⟨Nat.zero_le _, hup, Nat.le_refl _⟩, Le.of rfl rfl ⟨rfl, rfl, rfl, congrArg (Value.int .i64) (by simp only [hl]), rfl, congrArg (Value.int .i64) (by simp only [hl]), trivial⟩, hw.same rfl rfl rfl, trivial, trivial⟩) ?_
  rintro ⟨i, j⟩ ⟨h1, h2, h3⟩
  simp only at h1 h2 h3 ⊢
  repeat refine At.seq ?_
  refine At.region tab_ok ?_
  conv => whnf
  repeat refine At.seq ?_
  refine At.cond rfl (fun hc => At.skip ?_) (fun hc => At.exit ?_)
  · have hlt : i < j := by have := of_decide_eq_true hc; omega
    have hh : ((i : Int) + j) / 2 = ((i + j) / 2 : Nat) := by omega
    obtain ⟨x, hx⟩ : ∃ x, M[(i + j) / 2]? = some x := ⟨_, List.getElem?_eq_getElem (by omega)⟩
    have hxs := Pl.upto_sorted hs (d := d) hx
    repeat refine At.seq ?_
    refine At.block ?_
    repeat refine At.seq ?_
    refine At.region tab_ok ?_
    conv => whnf
    refine ⟨⟨by omega, by omega⟩, ?_⟩
    conv => whnf
    refine ⟨by omega, ?_⟩
    conv => whnf
    refine ⟨⟨by omega, by omega⟩, ?_⟩
    conv => whnf
    refine ⟨rfl, ?_⟩
    conv => whnf
    refine ⟨by omega, ?_⟩
    conv => whnf
    refine ⟨⟨by omega, by omega⟩, ?_⟩
    conv => whnf
    repeat refine At.seq ?_
    refine At.region tab_ok ?_
    conv => whnf
    refine ⟨by omega, ?_⟩
    conv => whnf
    refine ⟨by omega, ?_⟩
    conv => whnf
    refine ⟨encM x, fun w' hw => h.loadI (n := 4) hw.fr (by omega) (by rw [hh, Int.toNat_natCast]; exact hx) rfl, ?_⟩
    conv => whnf
    refine ans_call b91 rfl (fun w' hw => sched1_c x (d + 1) w') ?_
    conv => whnf
    repeat refine At.seq ?_
    refine At.cond rfl (fun hq => ?_) (fun hq => ?_)
    · have hxm : x.day < d + 1 := cmp_lt.1 (of_decide_eq_true hq)
      repeat refine At.seq ?_
      refine At.region tab_ok ?_
      conv => whnf
      refine ⟨⟨by omega, by omega⟩, ?_⟩
      conv => whnf
      refine At.nextH fun w' hw => ⟨((i + j) / 2 + 1, j), ⟨by simp only; omega, h2, h3⟩, by simp only; omega, Le.of rfl rfl ⟨rfl, rfl, rfl, rfl, congrArg (Value.int .i64) (by simp only; omega), rfl, trivial⟩, hw.keep [] rfl rfl rfl, trivial, trivial⟩
    · have hxm : ¬ x.day < d + 1 := fun h => of_decide_eq_false hq (cmp_lt.2 h)
      repeat refine At.seq ?_
      refine At.region tab_ok ?_
      conv => whnf
      refine At.nextH fun w' hw => ⟨(i, (i + j) / 2), ⟨h1, by simp only; omega, by simp only; omega⟩, by simp only; omega, Le.of rfl rfl ⟨rfl, rfl, rfl, rfl, rfl, congrArg (Value.int .i64) (by simp only; omega), trivial⟩, hw.keep [] rfl rfl rfl, trivial, trivial⟩
  · have hge : j ≤ i := by have := of_decide_eq_false hc; omega
    have hi : i = Pl.upto M d := by omega
    subst hi
    obtain ⟨x, hx⟩ : ∃ x, Pl.upto M d < M.length → M[Pl.upto M d]? = some x := by
      rcases Nat.lt_or_ge (Pl.upto M d) M.length with h' | h'
      · exact ⟨_, fun _ => List.getElem?_eq_getElem h'⟩
      · exact ⟨⟨0, 0, 0, 0⟩, fun h => by omega⟩
    repeat refine At.seq ?_
    refine At.region tab_ok ?_
    conv => whnf
    refine ⟨by simp only [gimp]; intro h1; omega, ?_⟩
    conv => whnf
    refine ⟨by simp only [gimp]; intro h1; have := of_decide_eq_true h1; omega, ?_⟩
    conv => whnf
    refine ⟨encM x, by simp only [gimp]; intro h1 w' hw; have := of_decide_eq_true h1; exact h.load (n := 4) hw.fr (hx (by omega)) rfl, ?_⟩
    conv => whnf
    refine ⟨.i (cmpI x.day (d + 1)), by simp only [gimp]; intro h1; exact ans_quiet b91 (fun w' hw => sched1_c x (d + 1) w'), ?_⟩
    conv => whnf
    repeat refine At.seq ?_
    refine At.ret (At.doneB tab_ok hB _ rfl fun w' hw => ⟨?_, hw.fr⟩)
    have ht : foundM M d = (bif decide ((Pl.upto M d : Int) < M.length) then decide (cmpI x.day (d + 1) = 0) else false) := by
      unfold foundM
      rw [band]
      rcases Nat.lt_or_ge (Pl.upto M d) M.length with h' | h'
      · rw [hx h', decide_eq_true (by omega), Bool.true_and]
      · rw [List.getElem?_eq_none h', decide_eq_false (by omega), Bool.false_and]
    rw [ht]
/-- The wants that come after k meetings. -/
def idxW (M : List Pl.Meet) (k : Nat) : Nat → List Pl.Want → List Int
  | _, [] => []
  | o, w :: W => (if Pl.upto M w.day = k then [(o : Int)] else []) ++ idxW M k (o + 1) W
theorem idxW_append (M : List Pl.Meet) (k : Nat) : ∀ (A : List Pl.Want) (o : Nat) (B : List Pl.Want), idxW M k o (A ++ B) = idxW M k o A ++ idxW M k (o + A.length) B
  | [], o, B => by simp [idxW]
  | w :: A, o, B => by simp only [List.cons_append, idxW, idxW_append M k A (o + 1) B, List.length_cons, List.append_assoc, show o + 1 + A.length = o + (A.length + 1) by omega]
theorem idxW_len (M : List Pl.Meet) (k : Nat) : ∀ (W : List Pl.Want) (o : Nat), (idxW M k o W).length ≤ W.length
  | [], o => by simp [idxW]
  | w :: W, o => by have := idxW_len M k W (o + 1); simp only [idxW, List.length_append, List.length_cons]; split <;> simp <;> omega
def sched (M : List Pl.Meet) (W : List Pl.Want) : List (List Int) := (List.range (M.length + 1)).map (fun k => idxW M k 0 W)
theorem sched_len (M : List Pl.Meet) (W : List Pl.Want) : (sched M W).length = M.length + 1 := by simp [sched]
theorem sched_get {M : List Pl.Meet} {W : List Pl.Want} {k : Nat} (hk : k < M.length + 1) : (sched M W)[k]? = some (idxW M k 0 W) := by simp [sched, hk]
theorem sched_step {M : List Pl.Meet} {W : List Pl.Want} {n : Nat} {x : Pl.Want} (hx : W[n]? = some x) :
    ((sched M (W.take n)).map (fun l => l.map encI)).set (Pl.upto M x.day) ((idxW M (Pl.upto M x.day) 0 (W.take n)).map encI ++ [encI n]) = (sched M (W.take (n + 1))).map (fun l => l.map encI) := by
  have hn := (List.getElem?_eq_some_iff.1 hx).1
  have hstep : ∀ k, idxW M k 0 (W.take (n + 1)) = idxW M k 0 (W.take n) ++ (if Pl.upto M x.day = k then [(n : Int)] else []) := fun k => by
    rw [List.take_add_one, hx, idxW_append]
    simp only [Option.toList_some, idxW, List.append_nil, Nat.zero_add, List.length_take, Nat.min_eq_left (Nat.le_of_lt hn)]
  apply List.ext_getElem?
  intro k
  by_cases hk : k < M.length + 1
  · rw [List.getElem?_map, sched_get hk, hstep k]
    by_cases e : Pl.upto M x.day = k
    · subst e
      rw [List.getElem?_set]
      simp [sched_len, hk]
    · rw [List.getElem?_set_ne e, List.getElem?_map, sched_get hk]
      simp [e]
  · rw [List.getElem?_eq_none (by simp [sched_len]; omega), List.getElem?_eq_none (by simp [sched_len]; omega)]
theorem sched_nil (M : List Pl.Meet) : (sched M []).map (fun l => l.map encI) = List.replicate (M.length + 1) [] := by
  apply List.ext_getElem?
  intro k
  by_cases hk : k < M.length + 1
  · rw [List.getElem?_map, sched_get hk]; simp [idxW, hk]
  · rw [List.getElem?_eq_none (by simp [sched_len]; omega), List.getElem?_eq_none (by simp; omega)]
end Go.Proofs.Ytjilbkioieicbaa

/- Walks: plan.schedule: its loop. -/
namespace Go.Proofs.Ytjilbkioieicbaa
open Go.Vc Rt
set_option linter.unusedVariables false
set_option linter.unusedSimpArgs false
theorem schedule_c (M : List Pl.Meet) (W : List Pl.Want) (S : List Nat) (v1 v2 : Value) (w : World) (h1 : SlOf meT S w v1 M) (h2 : SlOf waT S w v2 W) (hs : Pl.sortedB M = true) (hM : M.length ≤ 1000) (hW : W.length ≤ 1000) (hd : ∀ x ∈ W, 0 ≤ x.day ∧ x.day ≤ 1048576) :
    AnsD Try.prog 64 [v1, v2] (slT intT) (sched M W) w := by
  replace h1 := h1.avoid (S' := []) (fun b hb => by cases hb)
  replace h2 := h2.avoid (S' := []) (fun b hb => by cases hb)
  have l1 := h1.len
  have l2 := h2.len
  refine calls_plainB [.x v1, .x v2] Try.func64 rfl rfl (Nat.le_of_ble_eq_true rfl) rfl fun B hB => ?_
  repeat refine At.seq ?_
  refine At.region tab_ok ?_
  conv => whnf
  repeat refine At.seq ?_
  refine At.region tab_ok ?_
  conv => whnf
  refine ⟨h1.sl, ?_⟩
  conv => whnf
  refine ⟨⟨by omega, by omega⟩, ?_⟩
  conv => whnf
  refine ⟨⟨rfl, by omega, by show (slen v1 + 1) * 24 ≤ _; omega⟩, ?_⟩
  conv => whnf
  intro vo
  conv => whnf
  repeat refine At.seq ?_
  refine At.region tab_ok ?_
  conv => whnf
  refine ⟨h2.sl, ?_⟩
  conv => whnf
  repeat refine At.seq ?_
  refine At.block ?_
  have hrep : List.replicate (slen v1 + 1).toNat [CV.x (Value.slice none 0 0)] = cellsX (List.replicate (M.length + 1) (.slice none 0 0)) := by
    simp only [cellsX, List.map_replicate, l1]; rfl
  rw [hrep]
  refine At.loopH (fun p : Nat × List Value × World => { N := Try.f64.ntmps, sl := [(0, some (.x v1)), (1, some (.x v2)), (5, some (.s (.c (.o 0 vo)))), (14, some (.x v2)), (15, some (.i ((W.length : Int)))), (16, some (.i p.1))], gl := [], hp := [(0, .row vo 22 1 (cellsX p.2.1))], S := blkOf vo, ws := p.2.2 }) (fun p : Nat × List Value × World => p.1 ≤ W.length ∧ Ext w p.2.2 ∧ (∀ b ∈ blkOf vo, w.heap.size ≤ b) ∧ Fam 3 1 w.heap.size p.2.2 p.2.1 ((sched M (W.take p.1)).map (fun l => l.map encI)) ∧ (∀ (j : Nat) u, p.2.1[j]? = some u → ∀ b ∈ blkOf u, b ∉ blkOf vo)) (fun p : Nat × List Value × World => W.length - p.1)
    (fun w' hw => ⟨(0, List.replicate (M.length + 1) (.slice none 0 0), w'), ⟨Nat.zero_le _, hw.fr, fun b hb => (hw.fresh (id := 0) rfl b hb).elim (fun h => by cases h) id, by rw [List.take_zero, sched_nil]; exact Fam.nils _, fun j u hu b hb => by rw [List.eq_of_mem_replicate (List.mem_of_getElem? hu)] at hb; simp [blkOf] at hb⟩, Le.of rfl rfl ⟨rfl, rfl, rfl, rfl, congrArg (Value.int .i64) (by simp only [l2]), rfl, trivial⟩, hw.again (List.Sublist.refl _) (fun b hb => by simpa [St.blks, LO.blks] using hb) rfl, ⟨⟨_, _, _, rfl⟩, trivial⟩, ⟨(cellsX_nop _).okH, trivial⟩⟩) ?_
  rintro ⟨n, vs, w1⟩ ⟨hn, hx1, hvo, hfam, hdis⟩
  simp only at hn hx1 hvo hfam hdis ⊢
  have lift : ∀ {α : Type} {T : Ty α} {v : Value} {xs : List α}, SlOf T [] w v xs → SlOf T (blkOf vo) w1 v xs := fun h => (h.avoid (S' := blkOf vo) (fun b hb => .inr (hvo b hb))).ext hx1
  repeat refine At.seq ?_
  refine At.region tab_ok ?_
  conv => whnf
  repeat refine At.seq ?_
  refine At.cond rfl (fun hc => At.skip ?_) (fun hc => At.exit ?_)
  · have hlt : n < W.length := by have := of_decide_eq_true hc; (try simp only [List.length_map] at this); omega
    obtain ⟨x, hx⟩ : ∃ x, W[n]? = some x := ⟨_, List.getElem?_eq_getElem hlt⟩
    have hxd := hd x (List.mem_of_getElem? hx)
    have hku := Pl.upto_le M x.day
    obtain ⟨vk, Lk, hvk, hLk, hrow, hge⟩ := hfam.get (k := Pl.upto M x.day) (by simp [sched_len]; omega)
    have hkl := (List.getElem?_eq_some_iff.1 hvk).1
    have hLe : Lk = (idxW M (Pl.upto M x.day) 0 (W.take n)).map encI := by
      rw [List.getElem?_map, sched_get (by omega)] at hLk
      simp at hLk; exact hLk.symm
    have hLl := idxW_len M (Pl.upto M x.day) (W.take n) 0
    rw [List.length_take] at hLl
    repeat refine At.seq ?_
    refine At.block ?_
    repeat refine At.seq ?_
    refine At.region tab_ok ?_
    conv => whnf
    have h2w := lift h2
    refine ⟨by omega, ?_⟩
    conv => whnf
    refine ⟨by omega, ?_⟩
    conv => whnf
    refine ⟨encW x, fun w' hw => h2w.load (n := 3) hw.fr hx rfl, ?_⟩
    conv => whnf
    intro b7
    conv => whnf
    repeat refine At.seq ?_
    refine At.region tab_ok ?_
    conv => whnf
    refine ⟨⟨by omega, by omega⟩, ?_⟩
    conv => whnf
    refine ans_call b90 rfl (fun w' hw => searchM_c M x.day (blkOf vo) v1 w' ((lift h1).fr hw.fr) hs (by omega)) ?_
    conv => whnf
    repeat refine At.seq ?_
    refine At.reshapeH fun w2 hw2 => ⟨{ N := Try.f64.ntmps, sl := [(0, some (.x v1)), (1, some (.x v2)), (5, some (.s (.c (.o 0 vo)))), (6, some (.i n)), (8, some (.i (Pl.upto M x.day))), (14, some (.x v2)), (15, some (.i W.length)), (16, some (.i n))], gl := [], hp := [(5, .row vk 3 1 Lk), (0, .row vo 22 1 ((cellsX vs).set (Pl.upto M x.day) [.o 5 vk]))], S := blkOf vk ++ blkOf vo, ws := w2 },
      Le.of rfl rfl ⟨rfl, rfl, rfl, rfl, rfl, rfl, rfl, rfl, trivial⟩, Holds.cast (fun o ho => ?_) ?_ (fun b hb => by simpa [St.blks, LO.blks] using hb) rfl, ⟨⟨_, _, _, rfl⟩, trivial⟩, ⟨hLe ▸ (nopI _).okH, focus_ok rfl, trivial⟩, ?_⟩
    · simp only [List.mem_cons, List.not_mem_nil, or_false] at ho
      rcases ho with rfl | rfl
      · exact LO.frame hw2.fr hrow (hdis _ _ hvk)
      · exact row_focus (hw2.row (id := 0) rfl) hvk
    · show (blkOf vk ++ (blkOf vo ++ [])).Nodup
      rw [List.append_nil, List.nodup_append]
      exact ⟨LO.nodup (o := .row vk 3 1 Lk), LO.nodup (o := .row vo 3 1 Lk), fun a ha b hb e => hdis _ _ hvk a ha (e ▸ hb)⟩
    refine At.region tab_ok ?_
    conv => whnf
    refine ⟨rfl, ?_⟩
    conv => whnf
    refine ⟨by omega, ?_⟩
    conv => whnf
    refine ⟨by simp only [List.length_set, cellsX, List.length_map]; omega, ?_⟩
    conv => whnf
    refine ⟨[.o 5 vk], ⟨rfl, rfl, by omega, by rw [Int.toNat_natCast]; exact focus_get hkl⟩, ?_⟩
    conv => whnf
    intro u1
    conv => whnf
    refine ⟨rfl, ?_⟩
    conv => whnf
    refine ⟨⟨rfl, by subst hLe; simp; omega⟩, ?_⟩
    conv => whnf
    intro vk2
    conv => whnf
    refine ⟨rfl, ?_⟩
    conv => whnf
    refine ⟨by omega, ?_⟩
    conv => whnf
    refine ⟨by simp only [List.length_set, cellsX, List.length_map]; omega, ?_⟩
    conv => whnf
    refine ⟨[.o 5 vk], ⟨rfl, rfl, by omega, by rw [Int.toNat_natCast]; exact focus_get hkl⟩, ?_⟩
    conv => whnf
    rw [Int.toNat_natCast, List.set_set]
    repeat refine At.seq ?_
    refine At.region tab_ok ?_
    conv => whnf
    refine ⟨⟨by omega, by omega⟩, ?_⟩
    conv => whnf
    have hx2 : Ext w w2 := Fr.over1 hx1 hw2.fr hvo
    refine At.nextH fun w' hw => ⟨(n + 1, vs.set (Pl.upto M x.day) vk2, w'), ?_, by simp only; omega, Le.of rfl rfl ⟨rfl, rfl, rfl, rfl, rfl, rfl, trivial⟩, Holds.cast (fun o ho => by simp only [List.mem_singleton] at ho; subst ho; exact row_unfocus (hw.row (id := 0) rfl)) (by show (blkOf vo ++ []).Nodup; rw [List.append_nil]; exact LO.nodup (o := .row vo 3 1 Lk)) (fun b hb => by simpa [St.blks, LO.blks] using hb) rfl, ⟨⟨_, _, _, rfl⟩, trivial⟩, ⟨(cellsX_nop _).okH, trivial⟩⟩
    have hap := hw.apart (i := 5) (j := 0) rfl rfl (by decide)
    refine ⟨by simp only; omega, Fr.over1 hx2 hw.fr (fun b hb => (List.mem_append.1 hb).elim (hge b) (hvo b)), hvo, ?_, fun j u hu b hb => ?_⟩
    · simp only
      rw [← sched_step hx, ← hLe]
      refine (hfam.frame hw2.fr hdis).set hw.fr hvk (fun j u hj hu b hb hm => ?_) (hw.row (id := 5) rfl) (fun b hb => ?_) hx2.size
      · rcases List.mem_append.1 hm with hm | hm
        · exact hfam.dis j _ u vk hj hu hvk b hb hm
        · exact hdis j u hu b hb hm
      · rcases hw.fresh (id := 5) rfl b hb with h | h
        · rcases List.mem_append.1 h with h | h
          · exact .inl h
          · exact (hap b hb h).elim
        · exact .inr h
    · rcases get_set' hu with ⟨_, rfl⟩ | ⟨_, hu⟩
      · exact hap b hb
      · exact hdis j u hu b hb
  · have hn2 : n = W.length := by have := of_decide_eq_false hc; omega
    subst hn2
    rw [List.take_length] at hfam
    repeat refine At.seq ?_
    refine At.region tab_ok ?_
    conv => whnf
    repeat refine At.seq ?_
    refine At.ret (At.doneB tab_ok hB _ rfl fun w' hw => ⟨vo, rfl, fun S' hS' => Fam.slOf (enc := encI) (size := 1) (hl := fun _ => rfl) (xs := sched M W) (hfam.frame hw.fr hdis) (hw.row (id := 0) rfl) hvo hS' (by rw [sched_len]; omega) (fun l hl => ?_), Fr.over1 hx1 hw.fr hvo⟩)
    obtain ⟨k, _, rfl⟩ := List.mem_map.1 hl
    have := idxW_len M k W 0
    omega
end Go.Proofs.Ytjilbkioieicbaa

/- Walks: plan.total, slices.Clone of numbers, plan.formed. -/
namespace Go.Proofs.Ytjilbkioieicbaa
open Go.Vc Rt
set_option linter.unusedVariables false
set_option linter.unusedSimpArgs false
theorem sumI_bound {l : List Int} {B : Int} (h : ∀ x ∈ l, 0 ≤ x ∧ x ≤ B) : 0 ≤ Pl.sumI l ∧ Pl.sumI l ≤ B * l.length := by
  induction l with
  | nil => simp [Pl.sumI]
  | cons x r ih =>
    have h1 := h x (by simp)
    have h2 := ih fun y hy => h y (by simp [hy])
    simp only [Pl.sumI, List.length_cons]
    have : B * ((r.length + 1 : Nat) : Int) = B * r.length + B := by rw [Int.natCast_add, Int.mul_add]; omega
    omega
theorem sumI_take {l : List Int} {k : Nat} {x : Int} (hx : l[k]? = some x) : Pl.sumI (l.take (k + 1)) = Pl.sumI (l.take k) + x := by
  rw [List.take_add_one, hx, Pl.sumI_append]; simp [Pl.sumI]
theorem total_c (l : List Int) (S : List Nat) (v : Value) (w : World) (h : SlOf intT S w v l) (hl : l.length ≤ 1000) (hb : ∀ x ∈ l, 0 ≤ x ∧ x ≤ 1099511627776) : Ans Try.prog 62 [v] (.i (Pl.sumI l)) w := by
  replace h := h.avoid (S' := []) (fun b hb => by cases hb)
  have l1 := h.len
  refine calls_plainB [.x v] Try.func62 rfl rfl (Nat.le_of_ble_eq_true rfl) rfl fun B hB => ?_
  repeat refine At.seq ?_
  refine At.region tab_ok ?_
  conv => whnf
  repeat refine At.seq ?_
  refine At.region tab_ok ?_
  conv => whnf
  repeat refine At.seq ?_
  refine At.region tab_ok ?_
  conv => whnf
  refine ⟨h.sl, ?_⟩
  conv => whnf
  repeat refine At.seq ?_
  refine At.block ?_
  refine At.loopH (fun k : Nat => { N := Try.f62.ntmps, sl := [(3, some (.i (Pl.sumI (l.take k)))), (6, some (.x v)), (7, some (.i ((l.length : Int)))), (8, some (.i k))], gl := [], hp := [], S := [], ws := w }) (fun k : Nat => k ≤ l.length) (fun k : Nat => l.length - k)
    (fun w' hw => ⟨0, Nat.zero_le _, Le.of rfl rfl ⟨rfl, rfl, congrArg (Value.int .i64) (by simp only [l1]), rfl, trivial⟩, hw.same rfl rfl rfl, trivial, trivial⟩) ?_
  intro k hk
  have hs := sumI_bound (l := l.take k) (B := 1099511627776) fun x hx => hb x (List.mem_of_mem_take hx)
  rw [List.length_take] at hs
  repeat refine At.seq ?_
  refine At.region tab_ok ?_
  conv => whnf
  repeat refine At.seq ?_
  refine At.cond rfl (fun hc => At.skip ?_) (fun hc => At.exit ?_)
  · have hlt : k < l.length := by have := of_decide_eq_true hc; (try simp only [List.length_map] at this); omega
    obtain ⟨x, hx⟩ : ∃ x, l[k]? = some x := ⟨_, List.getElem?_eq_getElem hlt⟩
    have hbx := hb x (List.mem_of_getElem? hx)
    repeat refine At.seq ?_
    refine At.block ?_
    repeat refine At.seq ?_
    refine At.region tab_ok ?_
    conv => whnf
    refine ⟨by omega, ?_⟩
    conv => whnf
    refine ⟨by omega, ?_⟩
    conv => whnf
    refine ⟨encI x, fun w' hw => h.load (n := 1) hw.fr hx rfl, ?_⟩
    conv => whnf
    repeat refine At.seq ?_
    refine At.region tab_ok ?_
    conv => whnf
    refine ⟨⟨by omega, by omega⟩, ?_⟩
    conv => whnf
    repeat refine At.seq ?_
    refine At.region tab_ok ?_
    conv => whnf
    refine ⟨⟨by omega, by omega⟩, ?_⟩
    conv => whnf
    refine At.nextH fun w' hw => ⟨k + 1, by omega, by omega, Le.of rfl rfl ⟨congrArg (Value.int .i64) (by rw [sumI_take hx]), rfl, rfl, rfl, trivial⟩, hw.keep [] rfl rfl rfl, trivial, trivial⟩
  · have hke : k = l.length := by have := of_decide_eq_false hc; omega
    subst hke
    repeat refine At.seq ?_
    refine At.region tab_ok ?_
    conv => whnf
    repeat refine At.seq ?_
    refine At.ret (At.doneB tab_ok hB _ rfl fun w' hw => ⟨?_, hw.fr⟩)
    rw [List.take_length]
theorem cloneI_c (xs : List Int) (S : List Nat) (v : Value) (w : World) (h : SlOf intT S w v xs) (hB : xs.length ≤ 1000000) : AnsR Try.prog 61 [v] [.row 3 1 (xs.map encI)] w := by
  replace h := h.avoid (S' := []) (fun b hb => by cases hb)
  refine calls_plainB [.x v] Try.func61 rfl rfl (Nat.le_of_ble_eq_true rfl) rfl fun B hB => ?_
  repeat refine At.seq ?_
  refine At.region tab_ok ?_
  conv => whnf
  repeat refine At.seq ?_
  refine At.region tab_ok ?_
  conv => whnf
  refine ⟨h.sl, ?_⟩
  conv => whnf
  repeat refine At.seq ?_
  refine At.cond rfl (fun hq => ?_) (fun hq => ?_)
  · have hx : xs = [] := by
      obtain ⟨a, n, c, rfl, hnil, _⟩ := h.sl
      have hl := h.len
      cases a with
      | none => simp [slen] at hl; exact List.eq_nil_of_length_eq_zero (by omega)
      | some a => simp [isNilS] at hq
    subst hx
    repeat refine At.seq ?_
    refine At.region tab_ok ?_
    conv => whnf
    repeat refine At.seq ?_
    refine At.ret (At.doneB tab_ok hB _ rfl fun w' hw => ansR_nil hw rfl rfl)
  · refine At.skip ?_
    repeat refine At.seq ?_
    refine At.region tab_ok ?_
    conv => whnf
    intro v1
    conv => whnf
    refine ⟨xs.map encI, ⟨fun w' hw => (h.fr hw.fr).src (fun _ => rfl), nopI xs⟩, ?_⟩
    conv => whnf
    refine ⟨⟨rfl, by simp; omega⟩, ?_⟩
    conv => whnf
    intro v2
    conv => whnf
    repeat refine At.seq ?_
    refine At.ret (At.doneB tab_ok hB _ rfl fun w' hw => ansR_row (id := 0) hw rfl rfl rfl)
theorem metB_take {W : List Pl.Want} {X : List Int} (hl : X.length = W.length) : Pl.metB W X = true ↔ ∀ (i : Nat) w x, W[i]? = some w → X[i]? = some x → withinB x w.n = true := by
  rw [Pl.metB_iff]
  simp only [withinB, decide_eq_true_eq]
  exact ⟨fun h => h.2, fun h => ⟨hl, h⟩⟩
theorem formed_c (M : List Pl.Meet) (W : List Pl.Want) (P : List Pl.Pass) (X : List Int) (T : List Nat) (v1 v2 v3 v4 : Value) (w : World) (h1 : SlOf meT T w v1 M) (h2 : SlOf waT T w v2 W) (h3 : SlOf paT T w v3 P) (h4 : SlOf intT T w v4 X) (hM : M.length ≤ 1000) :
    Ans Try.prog 63 [v1, v2, v3, v4] (.b (Pl.formedB M W P X)) w := by
  replace h1 := h1.avoid (S' := []) (fun b hb => by cases hb)
  replace h2 := h2.avoid (S' := []) (fun b hb => by cases hb)
  replace h3 := h3.avoid (S' := []) (fun b hb => by cases hb)
  replace h4 := h4.avoid (S' := []) (fun b hb => by cases hb)
  have l1 := h1.len
  have l2 := h2.len
  have l3 := h3.len
  have l4 := h4.len
  have m3 := h3.small
  have m4 := h4.small
  refine calls_plainB [.x v1, .x v2, .x v3, .x v4] Try.func63 rfl rfl (Nat.le_of_ble_eq_true rfl) rfl fun B hB => ?_
  repeat refine At.seq ?_
  refine At.region tab_ok ?_
  conv => whnf
  repeat refine At.seq ?_
  refine At.region tab_ok ?_
  conv => whnf
  refine ⟨h4.sl, ?_⟩
  conv => whnf
  refine ⟨h2.sl, ?_⟩
  conv => whnf
  repeat refine At.seq ?_
  refine At.cond rfl (fun hq => ?_) (fun hq => ?_)
  · repeat refine At.seq ?_
    refine At.region tab_ok ?_
    conv => whnf
    repeat refine At.seq ?_
    refine At.ret (At.doneB tab_ok hB _ rfl fun w' hw => ⟨?_, hw.fr⟩)
    have hne : X.length ≠ W.length := by simp [l2, l4] at hq; omega
    have : Pl.metB W X = false := Bool.eq_false_iff.2 fun h => hne (Pl.metB_iff.1 h).1
    simp only [Pl.formedB, this, Bool.false_and]
  have hXW : X.length = W.length := by simp [l2, l4] at hq; omega
  refine At.skip ?_
  repeat refine At.seq ?_
  refine At.region tab_ok ?_
  conv => whnf
  refine ⟨h4.sl, ?_⟩
  conv => whnf
  repeat refine At.seq ?_
  refine At.block ?_
  refine At.loopH (fun k : Nat => { N := Try.f63.ntmps, sl := [(0, some (.x v1)), (1, some (.x v2)), (2, some (.x v3)), (20, some (.x v4)), (21, some (.i ((X.length : Int)))), (22, some (.i k))], gl := [], hp := [], S := [], ws := w }) (fun k : Nat => k ≤ X.length ∧ ∀ (i : Nat) w x, i < k → W[i]? = some w → X[i]? = some x → withinB x w.n = true) (fun k : Nat => X.length - k)
    (fun w' hw => ⟨0, ⟨Nat.zero_le _, fun i w x hi => by omega⟩, Le.of rfl rfl ⟨rfl, rfl, rfl, rfl, congrArg (Value.int .i64) (by simp only [l4]), rfl, trivial⟩, hw.same rfl rfl rfl, trivial, trivial⟩) ?_
  rintro k ⟨hk, hall⟩
  repeat refine At.seq ?_
  refine At.region tab_ok ?_
  conv => whnf
  repeat refine At.seq ?_
  refine At.cond rfl (fun hc => At.skip ?_) (fun hc => At.exit ?_)
  · have hlt : k < X.length := by have := of_decide_eq_true hc; (try simp only [List.length_map] at this); omega
    obtain ⟨x, hx⟩ : ∃ x, X[k]? = some x := ⟨_, List.getElem?_eq_getElem hlt⟩
    have hlty : k < W.length := by omega
    obtain ⟨y, hy⟩ : ∃ x, W[k]? = some x := ⟨_, List.getElem?_eq_getElem hlty⟩
    repeat refine At.seq ?_
    refine At.block ?_
    repeat refine At.seq ?_
    refine At.region tab_ok ?_
    conv => whnf
    refine ⟨by omega, ?_⟩
    conv => whnf
    refine ⟨by omega, ?_⟩
    conv => whnf
    refine ⟨encI x, fun w' hw => h4.load (n := 1) hw.fr hx rfl, ?_⟩
    conv => whnf
    repeat refine At.seq ?_
    refine At.region tab_ok ?_
    conv => whnf
    refine ⟨by omega, ?_⟩
    conv => whnf
    refine ⟨by omega, ?_⟩
    conv => whnf
    refine ⟨[.i y.n], fun w' hw => h2.load (n := 1) hw.fr hy rfl, ?_⟩
    conv => whnf
    refine ans_call b55 rfl (fun w' hw => within30_c x y.n w') ?_
    conv => whnf
    repeat refine At.seq ?_
    refine At.cond rfl (fun hq => ?_) (fun hq => ?_)
    · repeat refine At.seq ?_
      refine At.region tab_ok ?_
      conv => whnf
      repeat refine At.seq ?_
      refine At.ret (At.doneB tab_ok hB _ rfl fun w' hw => ⟨?_, hw.fr⟩)
      have : Pl.metB W X = false := Bool.eq_false_iff.2 fun h => by
        have := (metB_take hXW).1 h k y x hy hx
        rw [this] at hq; cases hq
      simp only [Pl.formedB, this, Bool.false_and]
    · refine At.skip ?_
      repeat refine At.seq ?_
      refine At.region tab_ok ?_
      conv => whnf
      refine ⟨⟨by omega, by omega⟩, ?_⟩
      conv => whnf
      refine At.nextH fun w' hw => ⟨k + 1, ⟨by omega, fun i w x' hi hw' hx' => ?_⟩, by omega, Le.of rfl rfl ⟨rfl, rfl, rfl, rfl, rfl, rfl, trivial⟩, hw.keep [] rfl rfl rfl, trivial, trivial⟩
      by_cases e : i = k
      · subst e
        rw [hx] at hx'; cases hx'
        rw [hy] at hw'; cases hw'
        simpa using hq
      · exact hall i w x' (by omega) hw' hx'
  have hke : k = X.length := by have := of_decide_eq_false hc; omega
  have hmet : Pl.metB W X = true := (metB_take hXW).2 fun i w x h1 h2 => hall i w x (by have := (List.getElem?_eq_some_iff.1 h2).1; omega) h1 h2
  repeat refine At.seq ?_
  refine At.region tab_ok ?_
  conv => whnf
  repeat refine At.seq ?_
  refine At.region tab_ok ?_
  conv => whnf
  refine ⟨h3.sl, ?_⟩
  conv => whnf
  repeat refine At.seq ?_
  refine At.block ?_
  refine At.loopH (fun p : Nat × Int => { N := Try.f63.ntmps, sl := [(0, some (.x v1)), (11, some (.i p.2)), (36, some (.x v3)), (37, some (.i ((P.length : Int)))), (38, some (.i p.1))], gl := [], hp := [], S := [], ws := w }) (fun p : Nat × Int => p.1 ≤ P.length ∧ -1 ≤ p.2 ∧ Pl.formP M (-1) P = Pl.formP M p.2 (P.drop p.1)) (fun p : Nat × Int => P.length - p.1)
    (fun w' hw => ⟨(0, -1), ⟨Nat.zero_le _, by decide, rfl⟩, Le.of rfl rfl ⟨rfl, rfl, rfl, congrArg (Value.int .i64) (by simp only [l3]), rfl, trivial⟩, hw.keep [] rfl rfl rfl, trivial, trivial⟩) ?_
  rintro ⟨j, last⟩ ⟨hj, hlast, hform⟩
  simp only at hj hlast hform ⊢
  repeat refine At.seq ?_
  refine At.region tab_ok ?_
  conv => whnf
  repeat refine At.seq ?_
  refine At.cond rfl (fun hc => At.skip ?_) (fun hc => At.exit ?_)
  · have hlt : j < P.length := by have := of_decide_eq_true hc; (try simp only [List.length_map] at this); omega
    obtain ⟨x, hx⟩ : ∃ x, P[j]? = some x := ⟨_, List.getElem?_eq_getElem hlt⟩
    rw [drop_cons' hx] at hform
    simp only [Pl.formP] at hform
    repeat refine At.seq ?_
    refine At.block ?_
    repeat refine At.seq ?_
    refine At.region tab_ok ?_
    conv => whnf
    refine ⟨by omega, ?_⟩
    conv => whnf
    refine ⟨by omega, ?_⟩
    conv => whnf
    refine ⟨encP x, fun w' hw => h3.load (n := 4) hw.fr hx rfl, ?_⟩
    conv => whnf
    intro b1
    conv => whnf
    repeat refine At.seq ?_
    refine At.region tab_ok ?_
    conv => whnf
    refine ⟨by simp only [gimp]; intro _; exact h1.sl, ?_⟩
    conv => whnf
    repeat refine At.seq ?_
    refine At.cond rfl (fun hq => ?_) (fun hq => ?_)
    · repeat refine At.seq ?_
      refine At.region tab_ok ?_
      conv => whnf
      repeat refine At.seq ?_
      refine At.ret (At.doneB tab_ok hB _ rfl fun w' hw => ⟨?_, hw.fr⟩)
      have hno : ¬ (last < x.meet ∧ x.meet < M.length) := by
        simp only [bor, l1, Bool.or_eq_true, decide_eq_true_eq] at hq; omega
      rw [decide_eq_false hno, Bool.false_and, Bool.false_and] at hform
      simp only [Pl.formedB, hform, Bool.and_false]
    have hyes : last < x.meet ∧ x.meet < M.length := by
      simp only [bor, l1, Bool.or_eq_false_iff, decide_eq_false_iff_not] at hq; omega
    rw [decide_eq_true hyes, Bool.true_and] at hform
    obtain ⟨m, hm⟩ : ∃ m, M[x.meet.toNat]? = some m := ⟨_, List.getElem?_eq_getElem (by omega)⟩
    have hpB : Pl.passB M x = (decide (1 ≤ x.n) && decide (x.n ≤ m.cap) && decide (min x.fr x.to = min m.a m.b) && decide (max x.fr x.to = max m.a m.b)) := by unfold Pl.passB; rw [hm]
    refine At.skip ?_
    repeat refine At.seq ?_
    refine At.region tab_ok ?_
    conv => whnf
    repeat refine At.seq ?_
    refine At.region tab_ok ?_
    conv => whnf
    refine ⟨by omega, ?_⟩
    conv => whnf
    refine ⟨by omega, ?_⟩
    conv => whnf
    refine ⟨encM m, fun w' hw => h1.loadI (n := 4) hw.fr (by omega) hm rfl, ?_⟩
    conv => whnf
    intro b2
    conv => whnf
    repeat refine At.seq ?_
    refine At.region tab_ok ?_
    conv => whnf
    have hm2 : (bif bif bif decide (x.n < 1) then true else decide (m.cap < x.n) then true else !decide (min x.fr x.to = min m.a m.b) then true else !decide (max x.fr x.to = max m.a m.b)) = !Pl.passB M x := by
      rw [hpB]
      simp only [bor, Bool.not_and]
      have e1 : decide (x.n < 1) = !decide (1 ≤ x.n) := by rw [Bool.eq_iff_iff]; simp
      have e2 : decide (m.cap < x.n) = !decide (x.n ≤ m.cap) := by rw [Bool.eq_iff_iff]; simp
      rw [e1, e2]
    repeat refine At.seq ?_
    refine At.cond rfl (fun hq => ?_) (fun hq => ?_)
    · repeat refine At.seq ?_
      refine At.region tab_ok ?_
      conv => whnf
      repeat refine At.seq ?_
      refine At.ret (At.doneB tab_ok hB _ rfl fun w' hw => ⟨?_, hw.fr⟩)
      have hq : (!Pl.passB M x) = true := hm2.symm.trans hq
      have hno : Pl.passB M x = false := by simpa using hq
      rw [hno, Bool.false_and] at hform
      simp only [Pl.formedB, hform, Bool.and_false]
    · have hq : (!Pl.passB M x) = false := hm2.symm.trans hq
      have hyes2 : Pl.passB M x = true := by simpa using hq
      rw [hyes2, Bool.true_and] at hform
      refine At.skip ?_
      repeat refine At.seq ?_
      refine At.region tab_ok ?_
      conv => whnf
      refine ⟨⟨by omega, by omega⟩, ?_⟩
      conv => whnf
      refine At.nextH fun w' hw => ⟨(j + 1, x.meet), ⟨by simp only; omega, by simp only; omega, hform⟩, by simp only; omega, Le.of rfl rfl ⟨rfl, rfl, rfl, rfl, rfl, trivial⟩, hw.keep [] rfl rfl rfl, trivial, trivial⟩
  have hje : j = P.length := by have := of_decide_eq_false hc; omega
  rw [hje, List.drop_length] at hform
  simp only [Pl.formP] at hform
  repeat refine At.seq ?_
  refine At.region tab_ok ?_
  conv => whnf
  repeat refine At.seq ?_
  refine At.ret (At.doneB tab_ok hB _ rfl fun w' hw => ⟨?_, hw.fr⟩)
  simp only [Pl.formedB, hmet, hform, Bool.and_true]
end Go.Proofs.Ytjilbkioieicbaa

/- Walks: plan.Run. -/
namespace Go.Proofs.Ytjilbkioieicbaa
open Go.Vc Rt
set_option linter.unusedVariables false
set_option linter.unusedSimpArgs false
/-! ### The wants of a stage, by their numbers -/
def runI (D : List Pl.Due) : List Int → List Int → Option (List Int)
  | [], now => some now
  | i :: l, now => match D[i.toNat]? with
    | some d => if Pl.at' now d.q - d.x < 0 then none else runI D l (Pl.put' now d.q (Pl.at' now d.q - d.x))
    | none => none
theorem runI_eq (D0 : List Pl.Due) (M : List Pl.Meet) (k : Nat) : ∀ (W : List Pl.Want) (X : List Int) (o : Nat) (now : List Int), X.length = W.length → (∀ (j : Nat) d, (Pl.dues M W X)[j]? = some d → D0[o + j]? = some d) →
    runI D0 (idxW M k o W) now = Pl.runW k (Pl.dues M W X) now
  | [], X, o, now, _, _ => by simp [idxW, runI, Pl.dues, Pl.runW]
  | w :: W, [], o, now, h, _ => by simp at h
  | w :: W, x :: X, o, now, h, hd => by
    have ih := fun now => runI_eq D0 M k W X (o + 1) now (by simpa using h) (fun j d hj => by have := hd (j + 1) d (by simpa [Pl.dues] using hj); rw [show o + 1 + j = o + (j + 1) by omega]; exact this)
    have h0 := hd 0 _ (by simp only [Pl.dues]; rfl)
    rw [Nat.add_zero] at h0
    simp only [idxW, Pl.dues, Pl.runW]
    by_cases e : Pl.upto M w.day = k
    · simp only [if_pos e, List.singleton_append, runI, Int.toNat_natCast, h0, ih]
    · simp only [if_neg e, List.nil_append, ih]
theorem idxW_mem {M : List Pl.Meet} {k : Nat} : ∀ {W : List Pl.Want} {o : Nat} {i : Int}, i ∈ idxW M k o W → ∃ n : Nat, i = n ∧ o ≤ n ∧ n < o + W.length
  | [], o, i, h => by simp [idxW] at h
  | w :: W, o, i, h => by
    simp only [idxW, List.mem_append] at h
    rcases h with h | h
    · split at h
      · simp at h; exact ⟨o, h, by omega, by simp⟩
      · simp at h
    · obtain ⟨n, h1, h2, h3⟩ := idxW_mem h
      exact ⟨n, h1, by omega, by simp; omega⟩
theorem dues_get {M : List Pl.Meet} : ∀ {W : List Pl.Want} {X : List Int} {n : Nat} {w : Pl.Want} {x : Int}, W[n]? = some w → X[n]? = some x → (Pl.dues M W X)[n]? = some ⟨Pl.upto M w.day, w.key, w.n, x⟩
  | [], X, n, w, x, h, _ => by simp at h
  | _ :: _, [], n, w, x, _, h => by simp at h
  | v :: W, y :: X, 0, w, x, h1, h2 => by simp at h1 h2; subst h1 h2; simp [Pl.dues]
  | v :: W, y :: X, n + 1, w, x, h1, h2 => by simp only [Pl.dues, List.getElem?_cons_succ]; exact dues_get (by simpa using h1) (by simpa using h2)
theorem get_at' {now : List Int} {q : Int} (h0 : 0 ≤ q) (h1 : q < now.length) : now[q.toNat]? = some (Pl.at' now q) := by
  unfold Pl.at'
  rw [List.getElem?_eq_getElem (by omega)]; simp
theorem map_put' {now : List Int} {q x : Int} : (now.map encI).set q.toNat [.i x] = (Pl.put' now q x).map encI := by
  unfold Pl.put'; rw [List.map_set]; rfl
theorem at'_mem {now : List Int} {q : Int} (h0 : 0 ≤ q) (h1 : q < now.length) : Pl.at' now q ∈ now := List.mem_of_getElem? (get_at' h0 h1)
theorem put'_mem {now : List Int} {q x y : Int} (h : y ∈ Pl.put' now q x) : y ∈ now ∨ y = x := List.mem_or_eq_of_mem_set h
theorem rdI (xs : List Int) : rdOk [.row 3 1 (xs.map encI)] := ⟨nopI xs, trivial⟩
theorem run_c (St : List Int) (M : List Pl.Meet) (W : List Pl.Want) (P : List Pl.Pass) (X : List Int) (T : List Nat) (v1 v2 v3 v4 v5 : Value) (w : World) (h1 : SlOf intT T w v1 St) (h2 : SlOf meT T w v2 M) (h3 : SlOf waT T w v3 W) (h4 : SlOf paT T w v4 P) (h5 : SlOf intT T w v5 X) (hMl : M.length ≤ 1000) :
    AnsR Try.prog 22 [v1, v2, v3, v4, v5] [.row 3 1 ((Pl.runAll St M W P X).2.map encI), .p (.c (.i (Pl.runAll St M W P X).1))] w := by
  replace h1 := h1.avoid (S' := []) (fun b hb => by cases hb)
  replace h2 := h2.avoid (S' := []) (fun b hb => by cases hb)
  replace h3 := h3.avoid (S' := []) (fun b hb => by cases hb)
  replace h4 := h4.avoid (S' := []) (fun b hb => by cases hb)
  replace h5 := h5.avoid (S' := []) (fun b hb => by cases hb)
  have nil_end : ∀ (n : Int) {st : Vc.St} {w' : World}, Holds st w' → Fr [] w w' → ∃ vs, Ending.returned (RV.tup [.c (.x (.slice none 0 0)), .c (.i n)]).den = .returned (toRV (resSV [.row 3 1 (([] : List Int).map encI), .p (.c (.i n))] vs)).den ∧ resOk w.heap.size w' [.row 3 1 (([] : List Int).map encI), .p (.c (.i n))] vs ∧ Ext w w' := fun n st w' hw hf =>
    ⟨[.slice none 0 0], rfl, ⟨nil_holds, fun b hb => (by simp [blkOf] at hb), fun u hu => (by cases hu), rfl⟩, hf⟩
  refine calls_plainB [.x v1, .x v2, .x v3, .x v4, .x v5] Try.func22 rfl rfl (Nat.le_of_ble_eq_true rfl) rfl fun B hB => ?_
  repeat refine At.seq ?_
  refine At.region tab_ok ?_
  conv => whnf
  repeat refine At.seq ?_
  refine At.region tab_ok ?_
  conv => whnf
  refine ans_call b19 rfl (fun w' hw => right_pc St M W [] v1 v2 v3 w' (h1.fr hw.fr) (h2.fr hw.fr) (h3.fr hw.fr)) ?_
  conv => whnf
  repeat refine At.seq ?_
  refine At.cond rfl (fun hq => ?_) (fun hq => ?_)
  · have hR : Pl.rightB St M W = false := by simpa using hq
    have e : Pl.runAll St M W P X = (1, []) := by simp only [Pl.runAll, hR, cond_false]
    rw [e] at hB
    repeat refine At.seq ?_
    refine At.region tab_ok ?_
    conv => whnf
    repeat refine At.seq ?_
    refine At.ret (At.doneB tab_ok hB _ rfl fun w' hw => nil_end 1 hw hw.fr)
  have hR : Pl.rightB St M W = true := by simpa using hq
  have R := Pl.rightB_iff.1 hR
  refine At.skip ?_
  repeat refine At.seq ?_
  refine At.region tab_ok ?_
  conv => whnf
  refine ans_call b63 rfl (fun w' hw => formed_c M W P X [] v2 v3 v4 v5 w' (h2.fr hw.fr) (h3.fr hw.fr) (h4.fr hw.fr) (h5.fr hw.fr) hMl) ?_
  conv => whnf
  repeat refine At.seq ?_
  refine At.cond rfl (fun hq => ?_) (fun hq => ?_)
  · have hF : Pl.formedB M W P X = false := by simpa using hq
    have e : Pl.runAll St M W P X = (2, []) := by simp only [Pl.runAll, hR, hF, cond_false, cond_true]
    rw [e] at hB
    repeat refine At.seq ?_
    refine At.region tab_ok ?_
    conv => whnf
    repeat refine At.seq ?_
    refine At.ret (At.doneB tab_ok hB _ rfl fun w' hw => nil_end 2 hw hw.fr)
  have hF : Pl.formedB M W P X = true := by simpa using hq
  have hF2 := hF
  simp only [Pl.formedB, Bool.and_eq_true] at hF2
  have hXW := (Pl.metB_iff.1 hF2.1).1
  have hD := Pl.dues_ok (M := M) hF2.1 fun w hw => (R.want w hw).2.1
  have hPk := (Pl.formP_ok (fun m hm => (R.meet m hm).1) (by omega) hF2.2).1
  have hPok : ∀ x ∈ P, (1 ≤ x.n ∧ x.n ≤ 1099511627776) ∧ (0 ≤ x.fr ∧ x.fr < St.length) ∧ (0 ≤ x.to ∧ x.to < St.length) := fun x hx => by
    obtain ⟨_, m, hm, q1, q2, q3⟩ := hPk.ok x hx
    have hmo := (R.meet m (List.mem_of_getElem? hm)).1
    have := hmo.c1
    have := hmo.a0; have := hmo.a1; have := hmo.b0; have := hmo.b1
    unfold Pl.maxC at *
    rcases q3 with ⟨e1, e2⟩ | ⟨e1, e2⟩ <;> rw [e1, e2] <;> omega
  have hall : Pl.runAll St M W P X = match Pl.runK (Pl.dues M W X) 0 (M.length + 1) P St with | none => (24, []) | some r => (0, r) := by rw [Pl.runAll, hR, hF]; rfl
  obtain ⟨K0, hK0⟩ : ∃ K0, Pl.runK (Pl.dues M W X) 0 (M.length + 1) P St = K0 := ⟨_, rfl⟩
  rw [hK0] at hall
  have p2 := R.p2
  have hsum := R.sum
  refine At.skip ?_
  repeat refine At.seq ?_
  refine At.region tab_ok ?_
  conv => whnf
  refine ansR_call b61 (rdI St) (fun w' hw => cloneI_c St [] v1 w' (h1.fr hw.fr) (by omega)) ?_
  intro vn
  conv => whnf
  repeat refine At.seq ?_
  refine At.region tab_ok ?_
  conv => whnf
  refine fresh_call b64 (fun w' hw => schedule_c M W [] v2 v3 w' (h2.fr hw.fr) (h3.fr hw.fr) R.sorted (by omega) (by have := R.w; omega) (fun x hx => (R.want x hx).1)) ?_
  intro vs w0 w1 hw0 hx0 hsl
  have hvn : ∀ b ∈ blkOf vn, w.heap.size ≤ b := fun b hb => (hw0.fresh (id := 0) rfl b hb).elim (fun h => by cases h) id
  have hx1 : Ext w w1 := hw0.fr.trans hx0
  have g3 : SlOf waT (blkOf vn ++ []) w1 v3 W := SlOf.over hw0 hx0 h3
  have g4 : SlOf paT (blkOf vn ++ []) w1 v4 P := SlOf.over hw0 hx0 h4
  have g5 : SlOf intT (blkOf vn ++ []) w1 v5 X := SlOf.over hw0 hx0 h5
  replace hsl : SlOf (slT intT) (blkOf vn ++ []) w1 vs (sched M W) := hsl
  clear hw0 h1 h2 h3 h4 h5
  have k3 := g3.len
  have k5 := g5.len
  have ks := hsl.len
  rw [sched_len] at ks
  conv => whnf
  refine ⟨hsl.sl, ?_⟩
  conv => whnf
  repeat refine At.seq ?_
  refine At.block ?_
  refine At.loopH (fun p : Nat × List Int × Value × List Pl.Pass => { N := Try.f22.ntmps, sl := [(2, some (.x v3)), (3, some (.x p.2.2.1)), (4, some (.x v5)), (12, some (.s (.c (.o 0 vn)))), (33, some (.x vs)), (34, some (.i (((M.length + 1 : Nat) : Int)))), (35, some (.i p.1))], gl := [], hp := [(0, .row vn 3 1 (p.2.1.map encI))], S := blkOf vn ++ [], ws := w1 }) (fun p : Nat × List Int × Value × List Pl.Pass => p.1 ≤ M.length + 1 ∧ p.2.1.length = St.length ∧ (∀ x ∈ p.2.1, 0 ≤ x ∧ x ≤ 1099511627776 * ((p.1 : Int) + 1)) ∧ SlOf paT (blkOf vn ++ []) w1 p.2.2.1 p.2.2.2 ∧ (∀ x ∈ p.2.2.2, x ∈ P) ∧ K0 = Pl.runK (Pl.dues M W X) p.1 (M.length + 1 - p.1) p.2.2.2 p.2.1) (fun p : Nat × List Int × Value × List Pl.Pass => M.length + 1 - p.1)
    (fun w' hw => ⟨(0, St, v4, P), ⟨Nat.zero_le _, rfl, fun x hx => ⟨R.s0 x hx, ?_⟩, g4, fun x hx => hx, hK0.symm⟩, Le.of rfl rfl ⟨rfl, rfl, rfl, rfl, rfl, congrArg (Value.int .i64) (by simp only [ks]), rfl, trivial⟩, hw.keep [0] rfl rfl rfl, ⟨⟨_, _, _, rfl⟩, trivial⟩, ⟨(nopI _).okH, trivial⟩⟩) ?_
  · obtain ⟨i, hi, e⟩ := List.getElem_of_mem hx
    have h := Pl.sumN_mem (p := St.length) (g := Pl.at' St) (fun v _ => Pl.at'_nonneg R.s0 v) (q := (i : Int)) (Int.natCast_nonneg _) (Int.ofNat_lt.2 hi)
    rw [Pl.sumI_sumN] at h
    unfold Pl.maxC at hsum
    unfold Pl.at' at h
    rw [Int.toNat_natCast, List.getElem?_eq_getElem hi, e] at h
    simp at h
    simp
    omega
  rintro ⟨k, now, vp, P'⟩ ⟨hk, hnl, hnb, hp4, hsub, hrun⟩
  simp only at hk hnl hnb hp4 hsub hrun ⊢
  repeat refine At.seq ?_
  refine At.region tab_ok ?_
  conv => whnf
  repeat refine At.seq ?_
  refine At.cond rfl (fun hc => At.skip ?_) (fun hc => At.exit ?_)
  · have hklt : k < M.length + 1 := by have := of_decide_eq_true hc; omega
    have hsk := sched_get (W := W) hklt
    have hMl2 := R.m
    obtain ⟨j, hj⟩ : ∃ j, M.length + 1 - k = j + 1 := ⟨M.length - k, by omega⟩
    have hj' : M.length + 1 - (k + 1) = j := by omega
    rw [hj] at hrun
    simp only [Pl.runK] at hrun
    obtain ⟨cl, ⟨vl, rfl, hvl⟩, hcl⟩ := hsl.at hsk
    have lvl := hvl.len
    have hil := idxW_len M k W 0
    have hWl := R.w
    repeat refine At.seq ?_
    refine At.block ?_
    repeat refine At.seq ?_
    refine At.region tab_ok ?_
    conv => whnf
    refine ⟨by omega, ?_⟩
    conv => whnf
    refine ⟨by omega, ?_⟩
    conv => whnf
    refine ⟨[.x vl], fun w' hw => hcl w' hw.fr, ?_⟩
    conv => whnf
    repeat refine At.seq ?_
    refine At.region tab_ok ?_
    conv => whnf
    refine ⟨hvl.sl, ?_⟩
    conv => whnf
    repeat refine At.seq ?_
    refine At.block ?_
    have hrI : ∀ now, runI (Pl.dues M W X) (idxW M k 0 W) now = Pl.runW k (Pl.dues M W X) now := fun now => runI_eq (Pl.dues M W X) M k W X 0 now hXW (fun j d h => by rw [Nat.zero_add]; exact h)
    refine At.loopH (fun p : Nat × List Int => { N := Try.f22.ntmps, sl := [(2, some (.x v3)), (3, some (.x vp)), (4, some (.x v5)), (12, some (.s (.c (.o 0 vn)))), (13, some (.i k)), (33, some (.x vs)), (34, some (.i (((M.length + 1 : Nat) : Int)))), (35, some (.i k)), (40, some (.x vl)), (41, some (.i (((idxW M k 0 W).length : Int)))), (42, some (.i p.1))], gl := [], hp := [(0, .row vn 3 1 (p.2.map encI))], S := blkOf vn ++ [], ws := w1 }) (fun p : Nat × List Int => p.1 ≤ (idxW M k 0 W).length ∧ p.2.length = St.length ∧ (∀ x ∈ p.2, 0 ≤ x ∧ x ≤ 1099511627776 * ((k : Int) + 1)) ∧ Pl.runW k (Pl.dues M W X) now = runI (Pl.dues M W X) ((idxW M k 0 W).drop p.1) p.2) (fun p : Nat × List Int => (idxW M k 0 W).length - p.1)
      (fun w' hw => ⟨(0, now), ⟨Nat.zero_le _, hnl, hnb, by rw [List.drop_zero, hrI]⟩, Le.of rfl rfl ⟨rfl, rfl, rfl, rfl, rfl, rfl, rfl, rfl, rfl, congrArg (Value.int .i64) (by simp only [lvl]), rfl, trivial⟩, hw.keep [0] rfl rfl rfl, ⟨⟨_, _, _, rfl⟩, trivial⟩, ⟨(nopI _).okH, trivial⟩⟩) ?_
    rintro ⟨i, now1⟩ ⟨hi, hn1, hb1, hr1⟩
    simp only at hi hn1 hb1 hr1 ⊢
    repeat refine At.seq ?_
    refine At.region tab_ok ?_
    conv => whnf
    repeat refine At.seq ?_
    refine At.cond rfl (fun hc => At.skip ?_) (fun hc => At.exit ?_)
    · have hltz : i < (idxW M k 0 W).length := by have := of_decide_eq_true hc; omega
      obtain ⟨z, hz⟩ : ∃ x, (idxW M k 0 W)[i]? = some x := ⟨_, List.getElem?_eq_getElem hltz⟩
      obtain ⟨n, rfl, _, hnW⟩ := idxW_mem (List.mem_of_getElem? hz)
      rw [Nat.zero_add] at hnW
      have hlty : n < W.length := hnW
      obtain ⟨y, hy⟩ : ∃ x, W[n]? = some x := ⟨_, List.getElem?_eq_getElem hlty⟩
      have hlt : n < X.length := by omega
      obtain ⟨x, hx⟩ : ∃ x, X[n]? = some x := ⟨_, List.getElem?_eq_getElem hlt⟩
      obtain ⟨_, hyk, hyn⟩ := R.want y (List.mem_of_getElem? hy)
      have hxm := (Pl.metB_iff.1 hF2.1).2 n y x hy hx
      unfold Pl.maxC at hyn
      rw [drop_cons' hz] at hr1
      simp only [runI, Int.toNat_natCast, dues_get hy hx] at hr1
      have hgk := get_at' (now := now1) hyk.1 (by omega)
      have hab := hb1 _ (at'_mem hyk.1 (by omega : y.key < now1.length))
      repeat refine At.seq ?_
      refine At.block ?_
      repeat refine At.seq ?_
      refine At.region tab_ok ?_
      conv => whnf
      refine ⟨by omega, ?_⟩
      conv => whnf
      refine ⟨by omega, ?_⟩
      conv => whnf
      refine ⟨encI (n:Int), fun w' hw => hvl.load (n := 1) hw.fr hz rfl, ?_⟩
      conv => whnf
      repeat refine At.seq ?_
      refine At.planG tab_ok mixed [] (.take 0 (.take 1 (.take 2 (.take 3 (.take 4 (.take 5 (.take 8 (.take 9 (.take 10 (.take 11 (.br 6 (.br 7 (.take 12 (.br 13 (.br 14 (.done) (.nob)) (.nob))) (.nob)) (.nob)))))))))))) (by kernel_rfl) (by kernel_rfl) trivial ?_
      conv => whnf
      refine ⟨by omega, ?_⟩
      conv => whnf
      refine ⟨by omega, ?_⟩
      conv => whnf
      refine ⟨[.i y.key], fun w' hw => g3.load (n := 1) hw hy rfl, ?_⟩
      conv => whnf
      refine ⟨by omega, ?_⟩
      conv => whnf
      refine ⟨by omega, ?_⟩
      conv => whnf
      refine ⟨[.i x], fun w' hw => g5.load (n := 1) hw hx rfl, ?_⟩
      conv => whnf
      refine ⟨?_, trivial⟩
      conv => whnf
      refine ⟨rfl, ?_⟩
      conv => whnf
      refine ⟨by omega, ?_⟩
      conv => whnf
      refine ⟨by simp only [List.length_map]; omega, ?_⟩
      conv => whnf
      refine ⟨⟨trivial, fun w' hw => hw.fr⟩, ?_⟩
      conv => whnf
      refine ⟨?_, trivial⟩
      conv => whnf
      refine ⟨encI (Pl.at' now1 y.key), ⟨rfl, rfl, by omega, by rw [List.getElem?_map, hgk]; rfl⟩, ?_⟩
      conv => whnf
      refine ⟨⟨trivial, fun w' hw => hw.fr⟩, ?_⟩
      conv => whnf
      refine ⟨⟨by omega, by omega⟩, ?_⟩
      conv => whnf
      refine ⟨?_, trivial⟩
      conv => whnf
      refine ⟨rfl, ?_⟩
      conv => whnf
      refine ⟨by omega, ?_⟩
      conv => whnf
      refine ⟨by simp only [List.length_map]; omega, ?_⟩
      conv => whnf
      refine ⟨⟨trivial, fun w' hw => hw.fr⟩, ?_⟩
      conv => whnf
      refine ⟨?_, trivial⟩
      conv => whnf
      refine ⟨encI (Pl.at' now1 y.key), ⟨rfl, rfl, by omega, by rw [List.getElem?_map, hgk]; rfl⟩, ?_⟩
      conv => whnf
      refine ⟨⟨trivial, fun w' hw => hw.fr⟩, ?_⟩
      conv => whnf
      rw [map_put']
      generalize hv : Pl.at' now1 y.key - x = v at *
      have hput := Pl.at'_put' (l := now1) (i := y.key) v y.key hyk.1 (by omega) hyk.1
      rw [if_pos rfl] at hput
      have hpl := Pl.put'_len now1 y.key v
      have hgp := get_at' (now := Pl.put' now1 y.key v) hyk.1 (by omega)
      rw [hput] at hgp
      repeat refine At.seq ?_
      refine At.region tab_ok ?_
      conv => whnf
      refine ⟨by omega, ?_⟩
      conv => whnf
      refine ⟨by omega, ?_⟩
      conv => whnf
      refine ⟨[.i y.key], fun w' hw => g3.load (n := 1) hw.fr hy rfl, ?_⟩
      conv => whnf
      refine ⟨rfl, ?_⟩
      conv => whnf
      refine ⟨by omega, ?_⟩
      conv => whnf
      refine ⟨by simp only [List.length_map]; omega, ?_⟩
      conv => whnf
      refine ⟨encI v, ⟨rfl, rfl, by omega, by rw [List.getElem?_map, hgp]; rfl⟩, ?_⟩
      conv => whnf
      repeat refine At.seq ?_
      refine At.cond rfl (fun hq => ?_) (fun hq => ?_)
      · have hneg : v < 0 := of_decide_eq_true hq
        rw [if_pos hneg] at hr1
        rw [hr1] at hrun
        simp only at hrun
        have e : Pl.runAll St M W P X = (24, []) := by rw [hall, hrun]
        rw [e] at hB
        repeat refine At.seq ?_
        refine At.region tab_ok ?_
        conv => whnf
        repeat refine At.seq ?_
        refine At.ret (At.doneB tab_ok hB _ rfl fun w' hw => nil_end 24 hw (Fr.over1 hx1 hw.fr (fun b hb => hvn b (by simpa using hb))))
      · have hneg : ¬ v < 0 := of_decide_eq_false hq
        rw [if_neg hneg] at hr1
        refine At.skip ?_
        repeat refine At.seq ?_
        refine At.region tab_ok ?_
        conv => whnf
        refine ⟨⟨by omega, by omega⟩, ?_⟩
        conv => whnf
        refine At.nextH fun w' hw => ⟨(i + 1, Pl.put' now1 y.key v), ⟨by simp only; omega, by simp only; omega, fun a ha => (put'_mem ha).elim (hb1 a) (fun e => by subst e; omega), hr1⟩, by simp only; omega, Le.of rfl rfl ⟨rfl, rfl, rfl, rfl, rfl, rfl, rfl, rfl, rfl, rfl, rfl, trivial⟩, hw.keep [0] rfl rfl rfl, ⟨⟨_, _, _, rfl⟩, trivial⟩, ⟨(nopI _).okH, trivial⟩⟩
    have hie : i = (idxW M k 0 W).length := by have := of_decide_eq_false hc; omega
    rw [hie, List.drop_length] at hr1
    simp only [runI] at hr1
    rw [hr1] at hrun
    simp only at hrun
    have kp := hp4.len
    have bnext : ∀ x ∈ now1, 0 ≤ x ∧ x ≤ 1099511627776 * (((k + 1 : Nat) : Int) + 1) := fun x hx => by have := hb1 x hx; omega
    cases hP' : P' with
    | nil =>
      rw [hP'] at hrun kp hp4
      simp only [Pl.runP] at hrun
      repeat refine At.seq ?_
      refine At.regionG tab_ok ?_
      conv => whnf
      refine ⟨hp4.sl, ?_⟩
      conv => whnf
      rw [decide_eq_false (show ¬ (0 : Int) < slen vp by rw [kp]; simp)]
      conv => whnf
      repeat refine At.seq ?_
      refine At.cond (t := false) rfl (fun hq => by cases hq) (fun hq => At.skip ?_)
      repeat refine At.seq ?_
      refine At.region tab_ok ?_
      conv => whnf
      refine ⟨⟨by omega, by omega⟩, ?_⟩
      conv => whnf
      refine At.nextH fun w' hw => ⟨(k + 1, now1, vp, []), ⟨by simp only; omega, hn1, bnext, hp4, fun x hx => (by cases hx), by rw [hj']; exact hrun⟩, by simp only; omega, Le.of rfl rfl ⟨rfl, rfl, rfl, rfl, rfl, rfl, rfl, trivial⟩, hw.keep [0] rfl rfl rfl, ⟨⟨_, _, _, rfl⟩, trivial⟩, ⟨(nopI _).okH, trivial⟩⟩
    | cons x P2 =>
      rw [hP'] at hrun kp hp4 hsub
      have hx0 : (x :: P2)[0]? = some x := rfl
      have hxP := hPok x (hsub x (by simp))
      simp only [Pl.runP] at hrun
      simp only [List.length_cons] at kp
      repeat refine At.seq ?_
      refine At.regionG tab_ok ?_
      conv => whnf
      refine ⟨hp4.sl, ?_⟩
      conv => whnf
      rw [decide_eq_true (show (0 : Int) < slen vp by rw [kp]; omega)]
      conv => whnf
      refine ⟨by omega, ?_⟩
      conv => whnf
      refine ⟨by omega, ?_⟩
      conv => whnf
      refine ⟨[.i x.meet], fun w' hw => hp4.load (i := 0) (n := 1) hw.fr hx0 rfl, ?_⟩
      conv => whnf
      by_cases hm : x.meet = k
      · rw [if_pos hm] at hrun
        rw [decide_eq_true hm]
        conv => whnf
        repeat refine At.seq ?_
        refine At.cond (t := true) rfl (fun hq => ?_) (fun hq => by cases hq)
        have hf1 : x.fr < now1.length := by omega
        have ht1 : x.to < now1.length := by omega
        have hgf := get_at' (now := now1) hxP.2.1.1 hf1
        have hbf := hb1 _ (at'_mem hxP.2.1.1 hf1)
        repeat refine At.seq ?_
        refine At.region tab_ok ?_
        conv => whnf
        refine ⟨by omega, ?_⟩
        conv => whnf
        refine ⟨by omega, ?_⟩
        conv => whnf
        refine ⟨encP x, fun w' hw => hp4.load (i := 0) (n := 4) hw.fr hx0 rfl, ?_⟩
        conv => whnf
        intro bx
        conv => whnf
        repeat refine At.seq ?_
        refine At.region tab_ok ?_
        conv => whnf
        refine ⟨hp4.sl, ?_⟩
        conv => whnf
        refine ⟨by omega, ?_⟩
        conv => whnf
        refine ⟨by omega, ?_⟩
        conv => whnf
        refine ⟨by omega, ?_⟩
        conv => whnf
        repeat refine At.seq ?_
        refine At.planG tab_ok mixed [(1, .box bx 38 (encP x))] (.take 0 (.take 1 (.take 2 (.take 5 (.take 6 (.br 3 (.br 4 (.take 7 (.br 8 (.br 9 (.done) (.nob)) (.nob))) (.nob)) (.nob))))))) (by kernel_rfl) (by kernel_rfl) ⟨rfl, trivial⟩ ?_
        conv => whnf
        refine ⟨?_, trivial⟩
        conv => whnf
        refine ⟨rfl, ?_⟩
        conv => whnf
        refine ⟨by omega, ?_⟩
        conv => whnf
        refine ⟨by simp only [List.length_map]; omega, ?_⟩
        conv => whnf
        refine ⟨⟨⟨rfl, trivial⟩, fun w' hw => hw.fr⟩, ?_⟩
        conv => whnf
        refine ⟨?_, trivial⟩
        conv => whnf
        refine ⟨encI (Pl.at' now1 x.fr), ⟨rfl, rfl, by omega, by rw [List.getElem?_map, hgf]; rfl⟩, ?_⟩
        conv => whnf
        refine ⟨⟨⟨rfl, trivial⟩, fun w' hw => hw.fr⟩, ?_⟩
        conv => whnf
        refine ⟨⟨by omega, by omega⟩, ?_⟩
        conv => whnf
        refine ⟨?_, trivial⟩
        conv => whnf
        refine ⟨rfl, ?_⟩
        conv => whnf
        refine ⟨by omega, ?_⟩
        conv => whnf
        refine ⟨by simp only [List.length_map]; omega, ?_⟩
        conv => whnf
        refine ⟨⟨⟨rfl, trivial⟩, fun w' hw => hw.fr⟩, ?_⟩
        conv => whnf
        refine ⟨?_, trivial⟩
        conv => whnf
        refine ⟨encI (Pl.at' now1 x.fr), ⟨rfl, rfl, by omega, by rw [List.getElem?_map, hgf]; rfl⟩, ?_⟩
        conv => whnf
        refine ⟨⟨⟨rfl, trivial⟩, fun w' hw => hw.fr⟩, ?_⟩
        conv => whnf
        rw [map_put']
        generalize hv : Pl.at' now1 x.fr - x.n = v at *
        have hput := Pl.at'_put' (l := now1) (i := x.fr) v x.fr hxP.2.1.1 hf1 hxP.2.1.1
        rw [if_pos rfl] at hput
        have hpl := Pl.put'_len now1 x.fr v
        have hgp := get_at' (now := Pl.put' now1 x.fr v) hxP.2.1.1 (by omega)
        rw [hput] at hgp
        repeat refine At.seq ?_
        refine At.region tab_ok ?_
        conv => whnf
        refine ⟨rfl, ?_⟩
        conv => whnf
        refine ⟨by omega, ?_⟩
        conv => whnf
        refine ⟨by simp only [List.length_map]; omega, ?_⟩
        conv => whnf
        refine ⟨encI v, ⟨rfl, rfl, by omega, by rw [List.getElem?_map, hgp]; rfl⟩, ?_⟩
        conv => whnf
        repeat refine At.seq ?_
        refine At.cond rfl (fun hq => ?_) (fun hq => ?_)
        · have hneg : v < 0 := of_decide_eq_true hq
          rw [if_pos hneg] at hrun
          simp only at hrun
          have e : Pl.runAll St M W P X = (24, []) := by rw [hall, hrun]
          rw [e] at hB
          repeat refine At.seq ?_
          refine At.region tab_ok ?_
          conv => whnf
          repeat refine At.seq ?_
          refine At.ret (At.doneB tab_ok hB _ rfl fun w' hw => nil_end 24 hw (Fr.over1 hx1 hw.fr (fun b hb => hvn b (by simpa using hb))))
        · have hneg : ¬ v < 0 := of_decide_eq_false hq
          rw [if_neg hneg] at hrun
          simp only at hrun
          refine At.skip ?_
          have hgt := get_at' (now := Pl.put' now1 x.fr v) hxP.2.2.1 (by omega)
          have hbp : ∀ y ∈ Pl.put' now1 x.fr v, 0 ≤ y ∧ y ≤ 1099511627776 * ((k : Int) + 1) := fun y hy => (put'_mem hy).elim (hb1 y) (fun e => by subst e; omega)
          have hbt := hbp _ (at'_mem hxP.2.2.1 (by omega))
          generalize Pl.put' now1 x.fr v = now2 at *
          generalize hv2 : Pl.at' now2 x.to = v2 at *
          repeat refine At.seq ?_
          refine At.planG tab_ok mixed [(1, .box bx 38 (encP x))] (.take 0 (.take 1 (.take 2 (.take 5 (.take 6 (.br 3 (.br 4 (.take 7 (.br 8 (.br 9 (.done) (.nob)) (.nob))) (.nob)) (.nob))))))) (by kernel_rfl) (by kernel_rfl) ⟨rfl, trivial⟩ ?_
          conv => whnf
          refine ⟨?_, trivial⟩
          conv => whnf
          refine ⟨rfl, ?_⟩
          conv => whnf
          refine ⟨by omega, ?_⟩
          conv => whnf
          refine ⟨by simp only [List.length_map]; omega, ?_⟩
          conv => whnf
          refine ⟨⟨⟨rfl, trivial⟩, fun w' hw => hw.fr⟩, ?_⟩
          conv => whnf
          refine ⟨?_, trivial⟩
          conv => whnf
          refine ⟨encI v2, ⟨rfl, rfl, by omega, by rw [List.getElem?_map, hgt]; rfl⟩, ?_⟩
          conv => whnf
          refine ⟨⟨⟨rfl, trivial⟩, fun w' hw => hw.fr⟩, ?_⟩
          conv => whnf
          refine ⟨⟨by omega, by omega⟩, ?_⟩
          conv => whnf
          refine ⟨?_, trivial⟩
          conv => whnf
          refine ⟨rfl, ?_⟩
          conv => whnf
          refine ⟨by omega, ?_⟩
          conv => whnf
          refine ⟨by simp only [List.length_map]; omega, ?_⟩
          conv => whnf
          refine ⟨⟨⟨rfl, trivial⟩, fun w' hw => hw.fr⟩, ?_⟩
          conv => whnf
          refine ⟨?_, trivial⟩
          conv => whnf
          refine ⟨encI v2, ⟨rfl, rfl, by omega, by rw [List.getElem?_map, hgt]; rfl⟩, ?_⟩
          conv => whnf
          refine ⟨⟨⟨rfl, trivial⟩, fun w' hw => hw.fr⟩, ?_⟩
          conv => whnf
          rw [map_put']
          have hpl2 := Pl.put'_len now2 x.to (v2 + x.n)
          have hsub2 : SlOf paT (blkOf vn ++ []) w1 (subV vp 4 1 (slen vp)) P2 := by
            have := hp4.part (lo := 1) (hi := slen vp) (by omega) (by omega) (by rw [kp]; simp)
            have e : ((x :: P2).take (slen vp).toNat).drop (1 : Int).toNat = P2 := by
              rw [List.take_of_length_le (by simp; omega)]; rfl
            rw [e] at this
            exact this
          repeat refine At.seq ?_
          refine At.region tab_ok ?_
          conv => whnf
          refine ⟨⟨by omega, by omega⟩, ?_⟩
          conv => whnf
          refine At.nextH fun w' hw => ⟨(k + 1, Pl.put' now2 x.to (v2 + x.n), subV vp 4 1 (slen vp), P2), ⟨by simp only; omega, by simp only; omega, fun y hy => (put'_mem hy).elim (fun h => by have := hbp y h; simp only; omega) (fun e => by subst e; simp only; omega), hsub2, fun y hy => hsub y (by simp [hy]), by rw [hj']; exact hrun⟩, by simp only; omega, Le.of rfl rfl ⟨rfl, rfl, rfl, rfl, rfl, rfl, rfl, trivial⟩, hw.keep [0] rfl rfl rfl, ⟨⟨_, _, _, rfl⟩, trivial⟩, ⟨(nopI _).okH, trivial⟩⟩
      · rw [if_neg hm] at hrun
        simp only at hrun
        rw [decide_eq_false hm]
        conv => whnf
        repeat refine At.seq ?_
        refine At.cond (t := false) rfl (fun hq => by cases hq) (fun hq => At.skip ?_)
        repeat refine At.seq ?_
        refine At.region tab_ok ?_
        conv => whnf
        refine ⟨⟨by omega, by omega⟩, ?_⟩
        conv => whnf
        refine At.nextH fun w' hw => ⟨(k + 1, now1, vp, x :: P2), ⟨by simp only; omega, hn1, bnext, hp4, hsub, by rw [hj']; exact hrun⟩, by simp only; omega, Le.of rfl rfl ⟨rfl, rfl, rfl, rfl, rfl, rfl, rfl, trivial⟩, hw.keep [0] rfl rfl rfl, ⟨⟨_, _, _, rfl⟩, trivial⟩, ⟨(nopI _).okH, trivial⟩⟩
  have hke : k = M.length + 1 := by have := of_decide_eq_false hc; omega
  rw [hke, Nat.sub_self] at hrun
  simp only [Pl.runK] at hrun
  have e : Pl.runAll St M W P X = (0, now) := by rw [hall, hrun]
  rw [e] at hB
  repeat refine At.seq ?_
  refine At.region tab_ok ?_
  conv => whnf
  repeat refine At.seq ?_
  refine At.ret (At.doneB tab_ok hB _ rfl fun w' hw => ⟨[vn], rfl, ⟨hw.row (id := 0) rfl, hvn, fun u hu => (by cases hu), rfl⟩, Fr.over1 hx1 hw.fr (fun b hb => hvn b (by simpa using hb))⟩)
end Go.Proofs.Ytjilbkioieicbaa

/- Walks: plan.Network: what it builds, step by step. -/
namespace Go.Proofs.Ytjilbkioieicbaa
open Go.Vc Rt
set_option linter.unusedVariables false
set_option linter.unusedSimpArgs false
theorem stockE_take : ∀ {S : List Int} {k : Nat} {i s : Int}, S[k]? = some s → Pl.stockE i (S.take (k + 1)) = Pl.stockE i (S.take k) ++ [⟨0, i + k, s⟩]
  | [], k, i, s, h => by simp at h
  | x :: S, 0, i, s, h => by simp at h; subst h; simp [Pl.stockE]
  | x :: S, k + 1, i, s, h => by
    have := stockE_take (S := S) (k := k) (i := i + 1) (s := s) (by simpa using h)
    simp only [List.take_succ_cons, Pl.stockE, this, List.cons_append]
    rw [show i + 1 + (k : Int) = i + ((k + 1 : Nat) : Int) by omega]
theorem begin_succ : ∀ (k : Nat) (i : Int), Pl.begin_ (k + 1) i = Pl.begin_ k i ++ [i + k]
  | 0, i => by simp [Pl.begin_]
  | k + 1, i => by
    have := begin_succ k (i + 1)
    rw [Pl.begin_, this, Pl.begin_, List.cons_append]
    rw [show i + 1 + (k : Int) = i + ((k + 1 : Nat) : Int) by omega]
theorem begin_set {k p : Nat} (h : k < p) : (Pl.begin_ k 2 ++ List.replicate (p - k) 0).set k (2 + k) = Pl.begin_ (k + 1) 2 ++ List.replicate (p - (k + 1)) 0 := by
  obtain ⟨r, hr⟩ : ∃ r, p - k = r + 1 := ⟨p - k - 1, by omega⟩
  rw [hr, show p - (k + 1) = r by omega, List.set_append_right _ _ (by rw [Pl.begin_len]; omega), Pl.begin_len, Nat.sub_self, List.replicate_succ, List.set_cons_zero, begin_succ]
  simp
theorem atJ_succ : ∀ {M : List Pl.Meet} {k : Nat} {m : Pl.Meet} {at_ : List Int} {n : Int}, M[k]? = some m → Pl.atJ at_ n M (k + 1) = Pl.step' (Pl.atJ at_ n M k) m (n + 2 * k)
  | [], k, m, at_, n, h => by simp at h
  | x :: M, 0, m, at_, n, h => by simp at h; subst h; simp [Pl.atJ]
  | x :: M, k + 1, m, at_, n, h => by
    have := atJ_succ (M := M) (k := k) (m := m) (at_ := Pl.step' at_ x n) (n := n + 2) (by simpa using h)
    have e1 : Pl.atJ at_ n (x :: M) (k + 1 + 1) = Pl.atJ (Pl.step' at_ x n) (n + 2) M (k + 1) := rfl
    have e2 : Pl.atJ at_ n (x :: M) (k + 1) = Pl.atJ (Pl.step' at_ x n) (n + 2) M k := rfl
    rw [e1, e2, this, show n + 2 + 2 * (k : Int) = n + 2 * ((k + 1 : Nat) : Int) by omega]
def four (a b n c : Int) : List Pl.Edge := [⟨a, n, Pl.maxC⟩, ⟨b, n + 1, Pl.maxC⟩, ⟨a, n + 1, c⟩, ⟨b, n, c⟩]
theorem meetE_take : ∀ {M : List Pl.Meet} {k : Nat} {m : Pl.Meet} {at_ : List Int} {n : Int}, M[k]? = some m →
    Pl.meetE at_ n (M.take (k + 1)) = Pl.meetE at_ n (M.take k) ++ four (Pl.at' (Pl.atJ at_ n M k) m.a) (Pl.at' (Pl.atJ at_ n M k) m.b) (n + 2 * k) m.cap
  | [], k, m, at_, n, h => by simp at h
  | x :: M, 0, m, at_, n, h => by simp at h; subst h; simp [Pl.meetE, Pl.atJ, four]
  | x :: M, k + 1, m, at_, n, h => by
    have := meetE_take (M := M) (k := k) (m := m) (at_ := Pl.step' at_ x n) (n := n + 2) (by simpa using h)
    simp only [List.take_succ_cons, Pl.meetE, this, List.cons_append]
    have e2 : Pl.atJ at_ n (x :: M) (k + 1) = Pl.atJ (Pl.step' at_ x n) (n + 2) M k := rfl
    rw [e2, show n + 2 + 2 * (k : Int) = n + 2 * ((k + 1 : Nat) : Int) by omega]
theorem atJ_len : ∀ {M : List Pl.Meet} {at_ : List Int} {n : Int} {j : Nat}, (Pl.atJ at_ n M j).length = at_.length
  | _, at_, n, 0 => by simp [Pl.atJ]
  | [], at_, n, j + 1 => by simp [Pl.atJ]
  | m :: M, at_, n, j + 1 => by simp only [Pl.atJ]; rw [atJ_len]; simp [Pl.step', Pl.put'_len]
theorem idxW_has {M : List Pl.Meet} {k : Nat} : ∀ {W : List Pl.Want} {o i : Nat} {w : Pl.Want}, W[i]? = some w → Pl.upto M w.day = k → ((o + i : Nat) : Int) ∈ idxW M k o W
  | [], o, i, w, h, _ => by simp at h
  | x :: W, o, 0, w, h, hk => by simp at h; subst h; simp [idxW, hk]
  | x :: W, o, i + 1, w, h, hk => by
    have := idxW_has (W := W) (o := o + 1) (i := i) (w := w) (by simpa using h) hk
    simp only [idxW, List.mem_append]
    right
    rw [show o + (i + 1) = o + 1 + i by omega]; exact this
theorem idxW_upto {M : List Pl.Meet} {k : Nat} : ∀ {W : List Pl.Want} {o n : Nat} {w : Pl.Want}, ((o + n : Nat) : Int) ∈ idxW M k o W → W[n]? = some w → Pl.upto M w.day = k
  | [], o, n, w, h, _ => by simp [idxW] at h
  | x :: W, o, n, w, h, hw => by
    simp only [idxW, List.mem_append] at h
    cases n with
    | zero =>
      simp at hw; subst hw
      rcases h with h | h
      · split at h
        · assumption
        · simp at h
      · obtain ⟨m, h1, h2, _⟩ := idxW_mem h
        omega
    | succ n =>
      rcases h with h | h
      · split at h
        · simp at h; omega
        · simp at h
      · exact idxW_upto (o := o + 1) (n := n) (by rw [show o + 1 + n = o + (n + 1) by omega]; exact h) (by simpa using hw)
/-- The edges of the wants, as far as they are there. -/
structure Ends (M : List Pl.Meet) (W : List Pl.Want) (f : Pl.Want → Pl.Edge) (k : Nat) (J : List Int) (en : List Pl.Edge) : Prop where
  len : en.length = W.length
  at_ : ∀ (i : Nat) w, W[i]? = some w → (Pl.upto M w.day < k ∨ (i : Int) ∈ J) → en[i]? = some (f w)
theorem Ends.all {M : List Pl.Meet} {W : List Pl.Want} {f : Pl.Want → Pl.Edge} {J : List Int} {en : List Pl.Edge} {k : Nat} (h : Ends M W f k J en) (hJ : J = idxW M k 0 W) (hk : k = M.length) : en = W.map f := by
  apply List.ext_getElem?
  intro i
  rw [List.getElem?_map]
  cases hw : W[i]? with
  | none => rw [List.getElem?_eq_none_iff] at hw; rw [List.getElem?_eq_none (by rw [h.len]; exact hw)]; rfl
  | some w =>
    rw [h.at_ i w hw ?_]; rfl
    have := Pl.upto_le M w.day
    by_cases e : Pl.upto M w.day = k
    · right
      have := idxW_has (o := 0) hw e
      rw [Nat.zero_add] at this
      rw [hJ]; exact this
    · left; omega
theorem Ends.next {M : List Pl.Meet} {W : List Pl.Want} {f : Pl.Want → Pl.Edge} {en : List Pl.Edge} {k : Nat} (h : Ends M W f k (idxW M k 0 W) en) : Ends M W f (k + 1) [] en := by
  refine ⟨h.len, fun i w hw hc => h.at_ i w hw ?_⟩
  rcases hc with hc | hc
  · by_cases e : Pl.upto M w.day = k
    · right
      have := idxW_has (o := 0) hw e
      rw [Nat.zero_add] at this
      exact this
    · left; omega
  · cases hc
theorem Ends.put {M : List Pl.Meet} {W : List Pl.Want} {f : Pl.Want → Pl.Edge} {en : List Pl.Edge} {k n : Nat} {J : List Int} {w : Pl.Want} (h : Ends M W f k J en) (hn : W[n]? = some w) : Ends M W f k (J ++ [(n : Int)]) (en.set n (f w)) := by
  refine ⟨by rw [List.length_set]; exact h.len, fun i x hx hc => ?_⟩
  by_cases e : i = n
  · subst e
    rw [hn] at hx; cases hx
    rw [List.getElem?_set]; simp [h.len, (List.getElem?_eq_some_iff.1 hn).1]
  · rw [List.getElem?_set_ne (by omega)]
    refine h.at_ i x hx ?_
    rcases hc with hc | hc
    · exact .inl hc
    · rcases List.mem_append.1 hc with hc | hc
      · exact .inr hc
      · simp at hc; omega
theorem take_snoc {α : Type} {l : List α} {k : Nat} {x : α} (h : l[k]? = some x) : l.take (k + 1) = l.take k ++ [x] := by rw [List.take_add_one, h]; rfl
end Go.Proofs.Ytjilbkioieicbaa

/- Walks: plan.Network. -/
namespace Go.Proofs.Ytjilbkioieicbaa
open Go.Vc Rt
set_option linter.unusedVariables false
set_option linter.unusedSimpArgs false
theorem network_c (St : List Int) (M : List Pl.Meet) (W : List Pl.Want) (T : List Nat) (v1 v2 v3 : Value) (w : World) (h1 : SlOf intT T w v1 St) (h2 : SlOf meT T w v2 M) (h3 : SlOf waT T w v3 W) (hR : Pl.rightB St M W = true) :
    AnsR Try.prog 59 [v1, v2, v3] [.row 107 3 ((Pl.netE St M W).map encE), .p (.c (.i (Pl.nodesN St M)))] w := by
  replace h1 := h1.avoid (S' := []) (fun b hb => by cases hb)
  replace h2 := h2.avoid (S' := []) (fun b hb => by cases hb)
  replace h3 := h3.avoid (S' := []) (fun b hb => by cases hb)
  have R := Pl.rightB_iff.1 hR
  have p2 := R.p2
  have pm := R.m
  have pw := R.w
  have l1 := h1.len
  have l2 := h2.len
  have l3 := h3.len
  refine calls_plainB [.x v1, .x v2, .x v3] Try.func59 rfl rfl (Nat.le_of_ble_eq_true rfl) rfl fun B hB => ?_
  repeat refine At.seq ?_
  refine At.region tab_ok ?_
  conv => whnf
  repeat refine At.seq ?_
  refine At.region tab_ok ?_
  conv => whnf
  refine ans_call b19 rfl (fun w' hw => right_pc St M W [] v1 v2 v3 w' (h1.fr hw.fr) (h2.fr hw.fr) (h3.fr hw.fr)) ?_
  rw [hR]
  conv => whnf
  repeat refine At.seq ?_
  refine At.cond (t := false) rfl (fun hq => by cases hq) (fun hq => At.skip ?_)
  repeat refine At.seq ?_
  refine At.region tab_ok ?_
  conv => whnf
  repeat refine At.seq ?_
  refine At.region tab_ok ?_
  conv => whnf
  repeat refine At.seq ?_
  refine At.region tab_ok ?_
  conv => whnf
  refine ⟨h1.sl, ?_⟩
  conv => whnf
  refine ⟨⟨rfl, by omega, by show slen v1 * 8 ≤ _; omega⟩, ?_⟩
  conv => whnf
  intro va
  conv => whnf
  repeat refine At.seq ?_
  refine At.region tab_ok ?_
  conv => whnf
  refine ⟨h1.sl, ?_⟩
  conv => whnf
  repeat refine At.seq ?_
  refine At.block ?_
  have hrep : List.replicate (slen v1).toNat [CV.i 0] = (Pl.begin_ 0 2 ++ List.replicate (St.length - 0) (0 : Int)).map encI := by
    rw [l1]; simp [Pl.begin_, encI]
  rw [hrep]
  refine At.loopH (fun p : Nat × Value => { N := Try.f59.ntmps, sl := [(1, some (.x v2)), (2, some (.x v3)), (8, some (.s (.c (.o 1 p.2)))), (9, some (.i (2 + (p.1 : Int)))), (10, some (.s (.c (.o 0 va)))), (29, some (.x v1)), (30, some (.i ((St.length : Int)))), (31, some (.i p.1))], gl := [], hp := [(1, .row p.2 107 3 ((Pl.stockE 2 (St.take p.1)).map encE)), (0, .row va 3 1 ((Pl.begin_ p.1 2 ++ List.replicate (St.length - p.1) (0 : Int)).map encI))], S := [], ws := w }) (fun p : Nat × Value => p.1 ≤ St.length) (fun p : Nat × Value => St.length - p.1)
    (fun w' hw => ⟨(0, .slice none 0 0), Nat.zero_le _, Le.of rfl rfl ⟨rfl, rfl, rfl, rfl, rfl, rfl, congrArg (Value.int .i64) (by simp only [l1]), rfl, trivial⟩, hw.nil rfl rfl rfl, ⟨⟨_, _, _, rfl⟩, ⟨_, _, _, rfl⟩, trivial⟩, ⟨(nopE _).okH, (nopI _).okH, trivial⟩⟩) ?_
  rintro ⟨k, ve⟩ hk
  simp only at hk ⊢
  have hel : (Pl.stockE 2 (St.take k)).length = k := by rw [Pl.stockE_len, List.length_take]; omega
  repeat refine At.seq ?_
  refine At.region tab_ok ?_
  conv => whnf
  repeat refine At.seq ?_
  refine At.cond rfl (fun hc => At.skip ?_) (fun hc => At.exit ?_)
  · have hlt : k < St.length := by have := of_decide_eq_true hc; (try simp only [List.length_map] at this); omega
    obtain ⟨x, hx⟩ : ∃ x, St[k]? = some x := ⟨_, List.getElem?_eq_getElem hlt⟩
    have hbl : k < (Pl.begin_ k 2 ++ List.replicate (St.length - k) (0 : Int)).length := by simp [Pl.begin_len]; omega
    obtain ⟨y, hy⟩ : ∃ y, (Pl.begin_ k 2 ++ List.replicate (St.length - k) (0 : Int))[k]? = some y := ⟨_, List.getElem?_eq_getElem hbl⟩
    repeat refine At.seq ?_
    refine At.block ?_
    repeat refine At.seq ?_
    refine At.region tab_ok ?_
    conv => whnf
    refine ⟨by omega, ?_⟩
    conv => whnf
    refine ⟨by omega, ?_⟩
    conv => whnf
    refine ⟨encI x, fun w' hw => h1.load (n := 1) hw.fr hx rfl, ?_⟩
    conv => whnf
    repeat refine At.seq ?_
    refine At.region tab_ok ?_
    conv => whnf
    intro v4
    conv => whnf
    refine ⟨rfl, ?_⟩
    conv => whnf
    refine ⟨⟨rfl, by simp [hel]; omega⟩, ?_⟩
    conv => whnf
    intro v5
    conv => whnf
    refine ⟨rfl, ?_⟩
    conv => whnf
    refine ⟨by omega, ?_⟩
    conv => whnf
    refine ⟨by rw [List.length_map]; omega, ?_⟩
    conv => whnf
    refine ⟨encI y, ⟨rfl, rfl, by omega, by rw [Int.toNat_natCast, List.getElem?_map, hy]; rfl⟩, ?_⟩
    conv => whnf
    have e1 : ((Pl.begin_ k 2 ++ List.replicate (St.length - k) (0 : Int)).map encI).set (k : Int).toNat [CV.i (2 + (k : Int))] = (Pl.begin_ (k + 1) 2 ++ List.replicate (St.length - (k + 1)) (0 : Int)).map encI := by
      rw [Int.toNat_natCast, ← begin_set hlt, List.map_set]; rfl
    rw [e1]
    have e2 : (Pl.stockE 2 (St.take k)).map encE ++ [[CV.i 0, CV.i (2 + (k : Int)), CV.i x]] = (Pl.stockE 2 (St.take (k + 1))).map encE := by
      rw [stockE_take hx, List.map_append]; rfl
    rw [e2]
    repeat refine At.seq ?_
    refine At.region tab_ok ?_
    conv => whnf
    refine ⟨⟨by omega, by omega⟩, ?_⟩
    conv => whnf
    repeat refine At.seq ?_
    refine At.region tab_ok ?_
    conv => whnf
    refine ⟨⟨by omega, by omega⟩, ?_⟩
    conv => whnf
    refine At.nextH fun w' hw => ⟨(k + 1, v5), by simp only; omega, by simp only; omega, Le.of rfl rfl ⟨rfl, rfl, rfl, congrArg (Value.int .i64) (by simp only; omega), rfl, rfl, rfl, rfl, trivial⟩, hw.keep [1, 0] rfl rfl rfl, ⟨⟨_, _, _, rfl⟩, ⟨_, _, _, rfl⟩, trivial⟩, ⟨(nopE _).okH, (nopI _).okH, trivial⟩⟩
  have hke : k = St.length := by have := of_decide_eq_false hc; omega
  subst hke
  rw [List.take_length, Nat.sub_self, List.replicate_zero, List.append_nil]
  repeat refine At.seq ?_
  refine At.region tab_ok ?_
  conv => whnf
  refine ⟨h3.sl, ?_⟩
  conv => whnf
  refine ⟨⟨rfl, by omega, by show slen v3 * 24 ≤ _; omega⟩, ?_⟩
  conv => whnf
  intro vd
  conv => whnf
  have hrep2 : List.replicate (slen v3).toNat [CV.i 0, CV.i 0, CV.i 0] = (List.replicate W.length (⟨0, 0, 0⟩ : Pl.Edge)).map encE := by
    rw [l3]; simp [encE]
  rw [hrep2]
  repeat refine At.seq ?_
  refine At.region tab_ok ?_
  conv => whnf
  refine fresh_call b64 (fun w' hw => schedule_c M W [] v2 v3 w' (h2.fr hw.fr) (h3.fr hw.fr) R.sorted (by omega) (by omega) (fun x hx => (R.want x hx).1)) ?_
  intro vs w0 w1 hw0 hx0 hsl
  have fresh0 : ∀ {id : Nat} {o : LO}, Vc.look [(2, LO.row vd 107 3 ((List.replicate W.length (⟨0, 0, 0⟩ : Pl.Edge)).map encE)), (1, LO.row ve 107 3 ((Pl.stockE 2 St).map encE)), (0, LO.row va 3 1 ((Pl.begin_ St.length 2).map encI))] id = some o → ∀ b ∈ o.blks, w.heap.size ≤ b := fun hl b hb => (hw0.fresh hl b hb).elim (fun h => by cases h) id
  have hS : ∀ b ∈ blkOf vd ++ (blkOf ve ++ (blkOf va ++ [])), w.heap.size ≤ b := fun b hb => by
    simp only [List.mem_append, List.not_mem_nil, or_false] at hb
    rcases hb with hb | hb | hb
    · exact fresh0 (id := 2) rfl b hb
    · exact fresh0 (id := 1) rfl b hb
    · exact fresh0 (id := 0) rfl b hb
  have hx1 : Ext w w1 := hw0.fr.trans hx0
  have g2 : SlOf meT (blkOf vd ++ (blkOf ve ++ (blkOf va ++ []))) w1 v2 M := SlOf.over hw0 hx0 h2
  have g3 : SlOf waT (blkOf vd ++ (blkOf ve ++ (blkOf va ++ []))) w1 v3 W := SlOf.over hw0 hx0 h3
  replace hsl : SlOf (slT intT) (blkOf vd ++ (blkOf ve ++ (blkOf va ++ []))) w1 vs (sched M W) := hsl
  clear hw0 h1 h2 h3 fresh0
  have ks := hsl.len
  rw [sched_len] at ks
  obtain ⟨f, hf⟩ : ∃ f, f = Pl.endE (Pl.begin_ St.length 2) (2 + St.length) M := ⟨_, rfl⟩
  have hatl : ∀ k, (Pl.atJ (Pl.begin_ St.length 2) (2 + St.length) M k).length = St.length := fun k => by rw [atJ_len, Pl.begin_len]
  have hedl : ∀ k, (Pl.stockE 2 St ++ Pl.meetE (Pl.begin_ St.length 2) (2 + St.length) (M.take k)).length ≤ 60 + 4 * 200 := fun k => by
    rw [List.length_append, Pl.stockE_len, Pl.meetE_len, List.length_take]; omega
  conv => whnf
  refine ⟨hsl.sl, ?_⟩
  conv => whnf
  repeat refine At.seq ?_
  refine At.block ?_
  refine At.loopH (fun p : Nat × Value × List Pl.Edge => { N := Try.f59.ntmps, sl := [(1, some (.x v2)), (2, some (.x v3)), (8, some (.s (.c (.o 1 p.2.1)))), (9, some (.i (2 + (St.length : Int) + 2 * (p.1 : Int)))), (10, some (.s (.c (.o 0 va)))), (13, some (.s (.c (.o 2 vd)))), (54, some (.x vs)), (55, some (.i (((M.length + 1 : Nat) : Int)))), (56, some (.i p.1))], gl := [], hp := [(2, .row vd 107 3 (p.2.2.map encE)), (1, .row p.2.1 107 3 ((Pl.stockE 2 St ++ Pl.meetE (Pl.begin_ St.length 2) (2 + St.length) (M.take p.1)).map encE)), (0, .row va 3 1 ((Pl.atJ (Pl.begin_ St.length 2) (2 + St.length) M p.1).map encI))], S := blkOf vd ++ (blkOf ve ++ (blkOf va ++ [])), ws := w1 }) (fun p : Nat × Value × List Pl.Edge => p.1 ≤ M.length ∧ Ends M W f p.1 [] p.2.2) (fun p : Nat × Value × List Pl.Edge => M.length - p.1)
    (fun w' hw => ⟨(0, ve, List.replicate W.length (⟨0, 0, 0⟩ : Pl.Edge)), ⟨Nat.zero_le _, ⟨by simp, fun i x _ h => by rcases h with h | h; omega; cases h⟩⟩, Le.of rfl rfl ⟨rfl, rfl, rfl, congrArg (Value.int .i64) (by simp only; omega), rfl, rfl, rfl, congrArg (Value.int .i64) (by simp only [ks]), rfl, trivial⟩, hw.keep [2, 1, 0] (by simp [Pl.meetE, Pl.atJ]; rfl) rfl rfl, ⟨⟨_, _, _, rfl⟩, ⟨_, _, _, rfl⟩, ⟨_, _, _, rfl⟩, trivial⟩, ⟨(nopE _).okH, (nopE _).okH, (nopI _).okH, trivial⟩⟩) ?_
  rintro ⟨k, ve1, en⟩ ⟨hk, hen⟩
  simp only at hk hen ⊢
  have hel := hedl k
  repeat refine At.seq ?_
  refine At.region tab_ok ?_
  conv => whnf
  repeat refine At.seq ?_
  refine At.cond rfl (fun hc => At.skip ?_) (fun hc => by have := of_decide_eq_false hc; omega)
  have hsk := sched_get (W := W) (show k < M.length + 1 by omega)
  obtain ⟨cl, ⟨vl, rfl, hvl⟩, hcl⟩ := hsl.at hsk
  have lvl := hvl.len
  have hil := idxW_len M k W 0
  repeat refine At.seq ?_
  refine At.block ?_
  repeat refine At.seq ?_
  refine At.region tab_ok ?_
  conv => whnf
  refine ⟨by omega, ?_⟩
  conv => whnf
  refine ⟨by omega, ?_⟩
  conv => whnf
  refine ⟨[.x vl], fun w' hw => hcl w' hw.fr, ?_⟩
  conv => whnf
  repeat refine At.seq ?_
  refine At.region tab_ok ?_
  conv => whnf
  refine ⟨hvl.sl, ?_⟩
  conv => whnf
  repeat refine At.seq ?_
  refine At.block ?_
  refine At.loopH (fun p : Nat × List Pl.Edge => { N := Try.f59.ntmps, sl := [(1, some (.x v2)), (2, some (.x v3)), (8, some (.s (.c (.o 1 ve1)))), (9, some (.i (2 + (St.length : Int) + 2 * (k : Int)))), (10, some (.s (.c (.o 0 va)))), (13, some (.s (.c (.o 2 vd)))), (14, some (.i k)), (54, some (.x vs)), (55, some (.i (((M.length + 1 : Nat) : Int)))), (56, some (.i k)), (61, some (.x vl)), (62, some (.i (((idxW M k 0 W).length : Int)))), (63, some (.i p.1))], gl := [], hp := [(2, .row vd 107 3 (p.2.map encE)), (1, .row ve1 107 3 ((Pl.stockE 2 St ++ Pl.meetE (Pl.begin_ St.length 2) (2 + St.length) (M.take k)).map encE)), (0, .row va 3 1 ((Pl.atJ (Pl.begin_ St.length 2) (2 + St.length) M k).map encI))], S := blkOf vd ++ (blkOf ve ++ (blkOf va ++ [])), ws := w1 }) (fun p : Nat × List Pl.Edge => p.1 ≤ (idxW M k 0 W).length ∧ Ends M W f k ((idxW M k 0 W).take p.1) p.2) (fun p : Nat × List Pl.Edge => (idxW M k 0 W).length - p.1)
    (fun w' hw => ⟨(0, en), ⟨Nat.zero_le _, hen⟩, Le.of rfl rfl ⟨rfl, rfl, rfl, rfl, rfl, rfl, rfl, rfl, rfl, rfl, rfl, congrArg (Value.int .i64) (by simp only [lvl]), rfl, trivial⟩, hw.keep [2, 1, 0] rfl rfl rfl, ⟨⟨_, _, _, rfl⟩, ⟨_, _, _, rfl⟩, ⟨_, _, _, rfl⟩, trivial⟩, ⟨(nopE _).okH, (nopE _).okH, (nopI _).okH, trivial⟩⟩) ?_
  rintro ⟨j, en1⟩ ⟨hj, hen1⟩
  simp only at hj hen1 ⊢
  have hel1 := hen1.len
  have hatk := hatl k
  repeat refine At.seq ?_
  refine At.region tab_ok ?_
  conv => whnf
  repeat refine At.seq ?_
  refine At.cond rfl (fun hc => At.skip ?_) (fun hc => At.exit ?_)
  · have hltz : j < (idxW M k 0 W).length := by have := of_decide_eq_true hc; omega
    obtain ⟨z, hz⟩ : ∃ x, (idxW M k 0 W)[j]? = some x := ⟨_, List.getElem?_eq_getElem hltz⟩
    have hzm := List.mem_of_getElem? hz
    obtain ⟨n, rfl, _, hnW⟩ := idxW_mem hzm
    rw [Nat.zero_add] at hnW
    have hlty : n < W.length := hnW
    obtain ⟨y, hy⟩ : ∃ x, W[n]? = some x := ⟨_, List.getElem?_eq_getElem hlty⟩
    have hup := idxW_upto (o := 0) (n := n) (by rw [Nat.zero_add]; exact hzm) hy
    obtain ⟨_, hyk, hyn⟩ := R.want y (List.mem_of_getElem? hy)
    obtain ⟨e0, he0⟩ : ∃ e, en1[n]? = some e := ⟨_, List.getElem?_eq_getElem (by omega)⟩
    have hgk := get_at' (now := Pl.atJ (Pl.begin_ St.length 2) (2 + St.length) M k) hyk.1 (by omega)
    have hfy : f y = ⟨Pl.at' (Pl.atJ (Pl.begin_ St.length 2) (2 + St.length) M k) y.key, 1, y.n⟩ := by rw [hf, Pl.endE, hup]
    have hen2 := hen1.put hy
    rw [← take_snoc hz, hfy] at hen2
    generalize Pl.atJ (Pl.begin_ St.length 2) (2 + St.length) M k = at1 at *
    generalize Pl.stockE 2 St ++ Pl.meetE (Pl.begin_ St.length 2) (2 + St.length) (M.take k) = ed1 at *
    repeat refine At.seq ?_
    refine At.block ?_
    repeat refine At.seq ?_
    refine At.region tab_ok ?_
    conv => whnf
    refine ⟨by omega, ?_⟩
    conv => whnf
    refine ⟨by omega, ?_⟩
    conv => whnf
    refine ⟨encI (n:Int), fun w' hw => hvl.load (n := 1) hw.fr hz rfl, ?_⟩
    conv => whnf
    repeat refine At.seq ?_
    refine At.planG tab_ok mixed [(0, .row va 3 1 (at1.map encI))] (.take 0 (.take 1 (.take 2 (.take 3 (.take 4 (.take 5 (.take 6 (.take 7 (.take 8 (.take 9 (.take 10 (.take 11 (.take 12 (.take 13 (.take 14 (.take 15 (.br 16 (.br 17 (.done) (.nob)) (.nob)))))))))))))))))) (by kernel_rfl) (by kernel_rfl) ⟨rfl, trivial⟩ ?_
    conv => whnf
    refine ⟨by omega, ?_⟩
    conv => whnf
    refine ⟨by omega, ?_⟩
    conv => whnf
    refine ⟨[.i y.key], fun w' hw => g3.load (n := 1) hw hy rfl, ?_⟩
    conv => whnf
    refine ⟨rfl, ?_⟩
    conv => whnf
    refine ⟨by omega, ?_⟩
    conv => whnf
    refine ⟨by rw [List.length_map]; omega, ?_⟩
    conv => whnf
    refine ⟨encI (Pl.at' at1 y.key), ⟨rfl, rfl, by omega, by rw [List.getElem?_map, hgk]; rfl⟩, ?_⟩
    conv => whnf
    refine ⟨by omega, ?_⟩
    conv => whnf
    refine ⟨by omega, ?_⟩
    conv => whnf
    refine ⟨[.i y.n], fun w' hw => g3.load (n := 1) hw hy rfl, ?_⟩
    conv => whnf
    refine ⟨?_, trivial⟩
    conv => whnf
    refine ⟨rfl, ?_⟩
    conv => whnf
    refine ⟨by omega, ?_⟩
    conv => whnf
    refine ⟨by rw [List.length_map]; omega, ?_⟩
    conv => whnf
    refine ⟨⟨⟨rfl, trivial⟩, fun w' hw => hw.fr⟩, ?_⟩
    conv => whnf
    refine ⟨?_, trivial⟩
    conv => whnf
    refine ⟨encE e0, ⟨rfl, rfl, by omega, by rw [Int.toNat_natCast, List.getElem?_map, he0]; rfl⟩, ?_⟩
    conv => whnf
    refine ⟨⟨⟨rfl, trivial⟩, fun w' hw => hw.fr⟩, ?_⟩
    conv => whnf
    have e3 : (en1.map encE).set (n : Int).toNat [CV.i (Pl.at' at1 y.key), CV.i 1, CV.i y.n] = (en1.set n ⟨Pl.at' at1 y.key, 1, y.n⟩).map encE := by
      rw [Int.toNat_natCast, List.map_set]; rfl
    rw [e3]
    repeat refine At.seq ?_
    refine At.region tab_ok ?_
    conv => whnf
    refine ⟨⟨by omega, by omega⟩, ?_⟩
    conv => whnf
    refine At.nextH fun w' hw => ⟨(j + 1, en1.set n ⟨Pl.at' at1 y.key, 1, y.n⟩), ⟨by simp only; omega, hen2⟩, by simp only; omega, Le.of rfl rfl ⟨rfl, rfl, rfl, rfl, rfl, rfl, rfl, rfl, rfl, rfl, rfl, rfl, rfl, trivial⟩, hw.keep [2, 1, 0] rfl rfl rfl, ⟨⟨_, _, _, rfl⟩, ⟨_, _, _, rfl⟩, ⟨_, _, _, rfl⟩, trivial⟩, ⟨(nopE _).okH, (nopE _).okH, (nopI _).okH, trivial⟩⟩
  have hje : j = (idxW M k 0 W).length := by have := of_decide_eq_false hc; omega
  rw [hje, List.take_length] at hen1
  repeat refine At.seq ?_
  refine At.region tab_ok ?_
  conv => whnf
  refine ⟨g2.sl, ?_⟩
  conv => whnf
  repeat refine At.seq ?_
  refine At.cond rfl (fun hq => ?_) (fun hq => ?_)
  · have hkM : k = M.length := by have := of_decide_eq_true hq; omega
    have hall := hen1.all rfl hkM
    have hnet : (Pl.stockE 2 St ++ Pl.meetE (Pl.begin_ St.length 2) (2 + St.length) (M.take k)).map encE ++ en1.map encE = (Pl.netE St M W).map encE := by
      rw [hkM, List.take_length, hall, hf, Pl.netE, ← List.map_append, List.append_assoc]
    refine At.exit ?_
    repeat refine At.seq ?_
    refine At.region tab_ok ?_
    conv => whnf
    refine ⟨rfl, ?_⟩
    conv => whnf
    refine obl_map (fun _ => rfl) ?_
    conv => whnf
    refine ⟨⟨rfl, by simp only [List.length_map]; omega⟩, ?_⟩
    conv => whnf
    intro v9
    conv => whnf
    rw [hnet]
    repeat refine At.seq ?_
    refine At.ret (At.doneB tab_ok hB _ rfl fun w' hw => ⟨[v9], ?_, ⟨hw.row (id := 1) rfl, fun b hb => (hw.fresh (id := 1) rfl b hb).elim (hS b) (fun h => Nat.le_trans hx1.size h), fun u hu => (by cases hu), rfl⟩, Fr.over1 hx1 hw.fr hS⟩)
    simp only [Pl.nodesN, hkM]
    rfl
  have hkM : k < M.length := by have := of_decide_eq_false hq; omega
  have hltm : k < M.length := hkM
  obtain ⟨m, hm⟩ : ∃ x, M[k]? = some x := ⟨_, List.getElem?_eq_getElem hltm⟩
  have hmo := (R.meet m (List.mem_of_getElem? hm)).1
  have ha0 := hmo.a0
  have ha1 := hmo.a1
  have hb0 := hmo.b0
  have hb1 := hmo.b1
  have hga := get_at' (now := Pl.atJ (Pl.begin_ St.length 2) (2 + St.length) M k) ha0 (by omega)
  have hgb := get_at' (now := Pl.atJ (Pl.begin_ St.length 2) (2 + St.length) M k) hb0 (by omega)
  have hen2 := hen1.next
  have hsucc := atJ_succ (at_ := Pl.begin_ St.length 2) (n := 2 + St.length) hm
  have hmt := meetE_take (at_ := Pl.begin_ St.length 2) (n := 2 + St.length) hm
  refine At.skip ?_
  repeat refine At.seq ?_
  refine At.region tab_ok ?_
  conv => whnf
  refine ⟨by omega, ?_⟩
  conv => whnf
  refine ⟨by omega, ?_⟩
  conv => whnf
  refine ⟨encM m, fun w' hw => g2.load (n := 4) hw.fr hm rfl, ?_⟩
  conv => whnf
  intro bm
  conv => whnf
  repeat refine At.seq ?_
  refine At.draw tab_ok mixed (by kernel_rfl) ?_
  conv => whnf
  refine ⟨rfl, ?_⟩
  conv => whnf
  refine ⟨by omega, ?_⟩
  conv => whnf
  refine ⟨by rw [List.length_map]; omega, ?_⟩
  conv => whnf
  refine ⟨encI (Pl.at' (Pl.atJ (Pl.begin_ St.length 2) (2 + St.length) M k) m.a), ⟨rfl, rfl, by omega, by rw [List.getElem?_map, hga]; rfl⟩, ?_⟩
  conv => whnf
  refine ⟨rfl, ?_⟩
  conv => whnf
  refine ⟨by omega, ?_⟩
  conv => whnf
  refine ⟨by rw [List.length_map]; omega, ?_⟩
  conv => whnf
  refine ⟨encI (Pl.at' (Pl.atJ (Pl.begin_ St.length 2) (2 + St.length) M k) m.b), ⟨rfl, rfl, by omega, by rw [List.getElem?_map, hgb]; rfl⟩, ?_⟩
  conv => whnf
  repeat refine At.seq ?_
  refine At.region tab_ok ?_
  conv => whnf
  refine ⟨⟨by omega, by omega⟩, ?_⟩
  conv => whnf
  refine ⟨⟨by omega, by omega⟩, ?_⟩
  conv => whnf
  intro v4
  conv => whnf
  refine ⟨rfl, ?_⟩
  conv => whnf
  refine ⟨⟨rfl, by rw [List.length_map]; show (_ + 4) * 24 ≤ _; omega⟩, ?_⟩
  conv => whnf
  intro v5
  conv => whnf
  have e4 : (Pl.stockE 2 St ++ Pl.meetE (Pl.begin_ St.length 2) (2 + St.length) (M.take (k + 1))).map encE = (Pl.stockE 2 St ++ Pl.meetE (Pl.begin_ St.length 2) (2 + St.length) (M.take k)).map encE ++ (four (Pl.at' (Pl.atJ (Pl.begin_ St.length 2) (2 + St.length) M k) m.a) (Pl.at' (Pl.atJ (Pl.begin_ St.length 2) (2 + St.length) M k) m.b) (2 + St.length + 2 * k) m.cap).map encE := by
    rw [hmt]; simp only [List.map_append, List.append_assoc]
  generalize Pl.atJ (Pl.begin_ St.length 2) (2 + St.length) M k = at1 at *
  generalize Pl.stockE 2 St ++ Pl.meetE (Pl.begin_ St.length 2) (2 + St.length) (M.take k) = ed1 at *
  have e5 : ed1.map encE ++ [[CV.i (Pl.at' at1 m.a), CV.i (2 + (St.length : Int) + 2 * (k : Int)), CV.i 1099511627776], [CV.i (Pl.at' at1 m.b), CV.i (2 + (St.length : Int) + 2 * (k : Int) + 1), CV.i 1099511627776], [CV.i (Pl.at' at1 m.a), CV.i (2 + (St.length : Int) + 2 * (k : Int) + 1), CV.i m.cap], [CV.i (Pl.at' at1 m.b), CV.i (2 + (St.length : Int) + 2 * (k : Int)), CV.i m.cap]] = (Pl.stockE 2 St ++ Pl.meetE (Pl.begin_ St.length 2) (2 + St.length) (M.take (k + 1))).map encE := e4.symm
  rw [e5]
  have hne := hmo.ne
  repeat refine At.seq ?_
  refine At.planG tab_ok mixed [(3, .box bm 42 (encM m))] (.take 0 (.take 1 (.take 2 (.take 3 (.take 4 (.take 5 (.take 6 (.take 7 (.take 8 (.br 9 (.br 10 (.br 11 (.br 12 (.done) (.nob)) (.nob)) (.nob)) (.nob))))))))))) (by kernel_rfl) (by kernel_rfl) ⟨rfl, trivial⟩ ?_
  conv => whnf
  refine ⟨⟨by omega, by omega⟩, ?_⟩
  conv => whnf
  refine ⟨?_, trivial⟩
  conv => whnf
  refine ⟨rfl, ?_⟩
  conv => whnf
  refine ⟨by omega, ?_⟩
  conv => whnf
  refine ⟨by rw [List.length_map]; omega, ?_⟩
  conv => whnf
  refine ⟨⟨⟨rfl, trivial⟩, fun w' hw => hw.fr⟩, ?_⟩
  conv => whnf
  refine ⟨?_, trivial⟩
  conv => whnf
  refine ⟨encI (Pl.at' at1 m.a), ⟨rfl, rfl, by omega, by rw [List.getElem?_map, hga]; rfl⟩, ?_⟩
  conv => whnf
  refine ⟨⟨⟨rfl, trivial⟩, fun w' hw => hw.fr⟩, ?_⟩
  conv => whnf
  refine ⟨?_, trivial⟩
  conv => whnf
  refine ⟨rfl, ?_⟩
  conv => whnf
  refine ⟨by omega, ?_⟩
  conv => whnf
  refine ⟨by rw [List.length_set, List.length_map]; omega, ?_⟩
  conv => whnf
  refine ⟨⟨⟨rfl, trivial⟩, fun w' hw => hw.fr⟩, ?_⟩
  conv => whnf
  refine ⟨?_, trivial⟩
  conv => whnf
  refine ⟨encI (Pl.at' at1 m.b), ⟨rfl, rfl, by omega, by rw [List.getElem?_set_ne (by omega), List.getElem?_map, hgb]; rfl⟩, ?_⟩
  conv => whnf
  refine ⟨⟨⟨rfl, trivial⟩, fun w' hw => hw.fr⟩, ?_⟩
  conv => whnf
  rw [map_put', map_put']
  have e6 : Pl.put' (Pl.put' at1 m.a (2 + (St.length : Int) + 2 * (k : Int))) m.b (2 + (St.length : Int) + 2 * (k : Int) + 1) = Pl.atJ (Pl.begin_ St.length 2) (2 + St.length) M (k + 1) := hsucc.symm
  rw [e6]
  repeat refine At.seq ?_
  refine At.region tab_ok ?_
  conv => whnf
  refine ⟨⟨by omega, by omega⟩, ?_⟩
  conv => whnf
  repeat refine At.seq ?_
  refine At.region tab_ok ?_
  conv => whnf
  refine ⟨⟨by omega, by omega⟩, ?_⟩
  conv => whnf
  refine At.nextH fun w' hw => ⟨(k + 1, v5, en1), ⟨by simp only; omega, hen2⟩, by simp only; omega, Le.of rfl rfl ⟨rfl, rfl, rfl, congrArg (Value.int .i64) (by simp only; omega), rfl, rfl, rfl, rfl, rfl, trivial⟩, hw.keep [2, 1, 0] rfl rfl rfl, ⟨⟨_, _, _, rfl⟩, ⟨_, _, _, rfl⟩, ⟨_, _, _, rfl⟩, trivial⟩, ⟨(nopE _).okH, (nopE _).okH, (nopI _).okH, trivial⟩⟩
end Go.Proofs.Ytjilbkioieicbaa

/- Walks: plan.Check. -/
namespace Go.Proofs.Ytjilbkioieicbaa
open Go.Vc Rt
set_option linter.unusedVariables false
set_option linter.unusedSimpArgs false
theorem rdIP (xs : List Int) (n : Int) : rdOk [.row 3 1 (xs.map encI), .p (.c (.i n))] := ⟨nopI xs, rfl, trivial⟩
theorem rdEP (xs : List Pl.Edge) (n : Int) : rdOk [.row 107 3 (xs.map encE), .p (.c (.i n))] := ⟨nopE xs, rfl, trivial⟩
theorem capC_take {c : Int → Bool} {E : List Pl.Edge} {k : Nat} {e : Pl.Edge} (h : E[k]? = some e) : Pl.capC c (E.take (k + 1)) = Pl.capC c (E.take k) + (if c e.f && !c e.t then e.c else 0) := by
  rw [take_snoc h, Pl.capC_append]; simp [Pl.capC]
theorem netE_caps {S : List Int} {M : List Pl.Meet} {W : List Pl.Want} (R : Pl.Right S M W) : ∀ e ∈ Pl.netE S M W, 0 ≤ e.c ∧ e.c ≤ 1099511627776 := by
  have hS : ∀ (S : List Int) (i : Int), (∀ x ∈ S, 0 ≤ x) → Pl.sumI S ≤ 1099511627776 → ∀ e ∈ Pl.stockE i S, 0 ≤ e.c ∧ e.c ≤ 1099511627776 := by
    intro S
    induction S with
    | nil => intro i _ _ e he; simp [Pl.stockE] at he
    | cons s S ih =>
      intro i h0 hs e he
      simp only [Pl.stockE, List.mem_cons] at he
      simp only [Pl.sumI] at hs
      have h1 := h0 s (by simp)
      have h2 := Pl.sumI_nonneg (S := S) fun x hx => h0 x (by simp [hx])
      rcases he with rfl | he
      · simp only; omega
      · exact ih (i + 1) (fun x hx => h0 x (by simp [hx])) (by omega) e he
  have hM : ∀ (M : List Pl.Meet) (at_ : List Int) (n : Int), (∀ m ∈ M, 0 ≤ m.cap ∧ m.cap ≤ 1099511627776) → ∀ e ∈ Pl.meetE at_ n M, 0 ≤ e.c ∧ e.c ≤ 1099511627776 := by
    intro M
    induction M with
    | nil => intro at_ n _ e he; simp [Pl.meetE] at he
    | cons m M ih =>
      intro at_ n h e he
      have h1 := h m (by simp)
      simp only [Pl.meetE, List.mem_cons] at he
      rcases he with rfl | rfl | rfl | rfl | he
      · simp only [Pl.maxC]; omega
      · simp only [Pl.maxC]; omega
      · simp only; omega
      · simp only; omega
      · exact ih _ _ (fun m' hm' => h m' (by simp [hm'])) e he
  intro e he
  simp only [Pl.netE, List.mem_append, List.mem_map] at he
  rcases he with he | he | ⟨x, hx, rfl⟩
  · exact hS S 2 R.s0 R.sum e he
  · exact hM M _ _ (fun m hm => ⟨(R.meet m hm).1.c0, (R.meet m hm).1.c1⟩) e he
  · have := (R.want x hx).2.2
    unfold Pl.maxC at this
    simp only [Pl.endE]; omega
theorem capC_bound {c : Int → Bool} {E : List Pl.Edge} (h : ∀ e ∈ E, 0 ≤ e.c ∧ e.c ≤ 1099511627776) : 0 ≤ Pl.capC c E ∧ Pl.capC c E ≤ 1099511627776 * E.length := by
  induction E with
  | nil => simp [Pl.capC]
  | cons e E ih =>
    have h1 := h e (by simp)
    have h2 := ih fun x hx => h x (by simp [hx])
    simp only [Pl.capC, List.length_cons]
    split <;> omega
theorem cutF_get {c : List Bool} {v : Int} {b : Bool} (h : c[v.toNat]? = some b) : Pl.cutF c v = b := by unfold Pl.cutF; rw [h]; rfl
theorem check_c (St : List Int) (M : List Pl.Meet) (W : List Pl.Want) (P : List Pl.Pass) (X : List Int) (c : List Bool) (T : List Nat) (v1 v2 v3 v4 v5 v6 : Value) (w : World) (h1 : SlOf intT T w v1 St) (h2 : SlOf meT T w v2 M) (h3 : SlOf waT T w v3 W) (h4 : SlOf paT T w v4 P) (h5 : SlOf intT T w v5 X) (h6 : SlOf boolT T w v6 c) (hMl : M.length ≤ 1000) :
    Ans Try.prog 21 [v1, v2, v3, v4, v5, v6] (.i (Pl.checkE St M W P X c)) w := by
  replace h1 := h1.avoid (S' := []) (fun b hb => by cases hb)
  replace h2 := h2.avoid (S' := []) (fun b hb => by cases hb)
  replace h3 := h3.avoid (S' := []) (fun b hb => by cases hb)
  replace h4 := h4.avoid (S' := []) (fun b hb => by cases hb)
  replace h5 := h5.avoid (S' := []) (fun b hb => by cases hb)
  replace h6 := h6.avoid (S' := []) (fun b hb => by cases hb)
  have l6 := h6.len
  refine calls_plainB [.x v1, .x v2, .x v3, .x v4, .x v5, .x v6] Try.func21 rfl rfl (Nat.le_of_ble_eq_true rfl) rfl fun B hB => ?_
  repeat refine At.seq ?_
  refine At.region tab_ok ?_
  conv => whnf
  repeat refine At.seq ?_
  refine At.region tab_ok ?_
  conv => whnf
  refine ansR_call b22 (rdIP _ _) (fun w' hw => run_c St M W P X [] v1 v2 v3 v4 v5 w' (h1.fr hw.fr) (h2.fr hw.fr) (h3.fr hw.fr) (h4.fr hw.fr) (h5.fr hw.fr) hMl) ?_
  intro vr
  conv => whnf
  obtain ⟨e0, he0⟩ : ∃ e0, (Pl.runAll St M W P X).1 = e0 := ⟨_, rfl⟩
  obtain ⟨r0, hr0⟩ : ∃ r0, (Pl.runAll St M W P X).2 = r0 := ⟨_, rfl⟩
  have hchk : Pl.checkE St M W P X c = if e0 = 0 then (if (c.length : Int) = Pl.nodesN St M ∧ Pl.cutF c 0 = true ∧ Pl.cutF c 1 = false ∧ Pl.capC (Pl.cutF c) (Pl.netE St M W) = Pl.sumI X then 0 else 21) else e0 := by unfold Pl.checkE; rw [he0]
  have hrz : e0 = 0 → Pl.runAll St M W P X = (0, r0) := fun h => Prod.ext (he0.trans h) hr0
  rw [he0, hr0]
  repeat refine At.seq ?_
  refine At.region tab_ok ?_
  conv => whnf
  repeat refine At.seq ?_
  refine At.cond rfl (fun hq => ?_) (fun hq => ?_)
  · have hne : e0 ≠ 0 := by simpa using hq
    rw [if_neg hne] at hchk
    rw [hchk] at hB
    repeat refine At.seq ?_
    refine At.region tab_ok ?_
    conv => whnf
    repeat refine At.seq ?_
    refine At.ret (At.doneB tab_ok hB _ rfl fun w' hw => ⟨rfl, hw.fr⟩)
  have hz : e0 = 0 := by simpa using hq
  rw [if_pos hz] at hchk
  obtain ⟨hR, hF, hrun⟩ := Pl.runAll_ok (hrz hz)
  have R := Pl.rightB_iff.1 hR
  have hF2 := hF
  simp only [Pl.formedB, Bool.and_eq_true] at hF2
  have p1 := R.p1
  have p2 := R.p2
  have pm := R.m
  have pw := R.w
  have hnl := Pl.netE_len St M W
  have hXW := (Pl.metB_iff.1 hF2.1).1
  have hXb : ∀ x ∈ X, 0 ≤ x ∧ x ≤ 1099511627776 := fun x hx => by
    obtain ⟨i, hi, e⟩ := List.getElem_of_mem hx
    obtain ⟨y, hy⟩ : ∃ y, W[i]? = some y := ⟨_, List.getElem?_eq_getElem (by omega)⟩
    have a1 := (Pl.metB_iff.1 hF2.1).2 i y x hy (by rw [List.getElem?_eq_getElem hi, e])
    have a2 := (R.want y (List.mem_of_getElem? hy)).2.2
    unfold Pl.maxC at a2
    omega
  refine At.skip ?_
  repeat refine At.seq ?_
  refine At.region tab_ok ?_
  conv => whnf
  refine ansR_call b59 (rdEP _ _) (fun w' hw => network_c St M W [] v1 v2 v3 w' (h1.fr hw.fr) (h2.fr hw.fr) (h3.fr hw.fr) hR) ?_
  intro ve
  conv => whnf
  obtain ⟨c0, hc0⟩ : ∃ x, 0 < c.length → c[0]? = some x := by
    rcases Nat.lt_or_ge 0 c.length with h' | h'
    · exact ⟨_, fun _ => List.getElem?_eq_getElem h'⟩
    · exact ⟨true, fun h => by omega⟩
  obtain ⟨c1, hc1⟩ : ∃ x, 1 < c.length → c[1]? = some x := by
    rcases Nat.lt_or_ge 1 c.length with h' | h'
    · exact ⟨_, fun _ => List.getElem?_eq_getElem h'⟩
    · exact ⟨true, fun h => by omega⟩
  have hN3 : 3 ≤ Pl.nodesN St M := by unfold Pl.nodesN; omega
  by_cases hcn : ¬ slen v6 = Pl.nodesN St M
  · have hno : ¬ ((c.length : Int) = Pl.nodesN St M ∧ Pl.cutF c 0 = true ∧ Pl.cutF c 1 = false ∧ Pl.capC (Pl.cutF c) (Pl.netE St M W) = Pl.sumI X) := fun h => hcn (l6.trans h.1)
    rw [if_neg hno] at hchk
    rw [hchk] at hB
    repeat refine At.seq ?_
    refine At.regionG tab_ok ?_
    conv => whnf
    refine ⟨h6.sl, ?_⟩
    conv => whnf
    rw [decide_eq_false hcn]
    conv => whnf
    repeat refine At.seq ?_
    refine At.cond (t := true) rfl (fun hq => ?_) (fun hq => by cases hq)
    repeat refine At.seq ?_
    refine At.region tab_ok ?_
    conv => whnf
    repeat refine At.seq ?_
    refine At.ret (At.doneB tab_ok hB _ rfl fun w' hw => ⟨rfl, hw.fr⟩)
  replace hcn := Decidable.of_not_not hcn
  have hc0 := hc0 (by omega)
  have hc1 := hc1 (by omega)
  have k0 := cutF_get (v := 0) hc0
  have k1 := cutF_get (v := 1) hc1
  repeat refine At.seq ?_
  refine At.regionG tab_ok ?_
  conv => whnf
  refine ⟨h6.sl, ?_⟩
  conv => whnf
  rw [decide_eq_true hcn]
  conv => whnf
  refine ⟨by omega, ?_⟩
  conv => whnf
  refine ⟨by omega, ?_⟩
  conv => whnf
  refine ⟨[.b c0], fun w' hw => h6.load (i := 0) (n := 1) hw.fr hc0 rfl, ?_⟩
  conv => whnf
  cases hb0 : c0
  · have hno : ¬ ((c.length : Int) = Pl.nodesN St M ∧ Pl.cutF c 0 = true ∧ Pl.cutF c 1 = false ∧ Pl.capC (Pl.cutF c) (Pl.netE St M W) = Pl.sumI X) := fun h => by rw [k0, hb0] at h; exact absurd h.2.1 (by decide)
    rw [if_neg hno] at hchk
    rw [hchk] at hB
    conv => whnf
    repeat refine At.seq ?_
    refine At.cond (t := true) rfl (fun hq => ?_) (fun hq => by cases hq)
    repeat refine At.seq ?_
    refine At.region tab_ok ?_
    conv => whnf
    repeat refine At.seq ?_
    refine At.ret (At.doneB tab_ok hB _ rfl fun w' hw => ⟨rfl, hw.fr⟩)
  conv => whnf
  refine ⟨by omega, ?_⟩
  conv => whnf
  refine ⟨by omega, ?_⟩
  conv => whnf
  refine ⟨[.b c1], fun w' hw => h6.load (i := 1) (n := 1) hw.fr hc1 rfl, ?_⟩
  conv => whnf
  rcases Bool.eq_false_or_eq_true c1 with hb1 | hb1
  · have hno : ¬ ((c.length : Int) = Pl.nodesN St M ∧ Pl.cutF c 0 = true ∧ Pl.cutF c 1 = false ∧ Pl.capC (Pl.cutF c) (Pl.netE St M W) = Pl.sumI X) := fun h => by rw [k1, hb1] at h; exact absurd h.2.2.1 (by decide)
    rw [if_neg hno] at hchk
    rw [hchk] at hB
    rw [hb1]
    conv => whnf
    repeat refine At.seq ?_
    refine At.cond (t := true) rfl (fun hq => ?_) (fun hq => by cases hq)
    repeat refine At.seq ?_
    refine At.region tab_ok ?_
    conv => whnf
    repeat refine At.seq ?_
    refine At.ret (At.doneB tab_ok hB _ rfl fun w' hw => ⟨rfl, hw.fr⟩)
  rw [hb1]
  conv => whnf
  repeat refine At.seq ?_
  refine At.cond (t := false) rfl (fun hq => by cases hq) (fun hq => At.skip ?_)
  rw [hb0] at k0
  rw [hb1] at k1
  have hcl : (c.length : Int) = Pl.nodesN St M := by omega
  have hrange := Pl.netE_range R
  have hcaps := netE_caps R
  repeat refine At.seq ?_
  refine At.region tab_ok ?_
  conv => whnf
  repeat refine At.seq ?_
  refine At.region tab_ok ?_
  conv => whnf
  refine ⟨rfl, ?_⟩
  conv => whnf
  repeat refine At.seq ?_
  refine At.block ?_
  refine At.loopH (fun k : Nat => { N := Try.f21.ntmps, sl := [(4, some (.x v5)), (5, some (.x v6)), (17, some (.i (Pl.capC (Pl.cutF c) ((Pl.netE St M W).take k)))), (54, some (.s (.c (.o 1 ve)))), (55, some (.i (((Pl.netE St M W).length : Int)))), (56, some (.i k))], gl := [], hp := [(1, .row ve 107 3 ((Pl.netE St M W).map encE))], S := [], ws := w }) (fun k : Nat => k ≤ (Pl.netE St M W).length) (fun k : Nat => (Pl.netE St M W).length - k)
    (fun w' hw => ⟨0, Nat.zero_le _, Le.of rfl rfl ⟨rfl, rfl, rfl, rfl, congrArg (Value.int .i64) (by simp only [List.length_map]), rfl, trivial⟩, hw.keep [1] rfl rfl rfl, ⟨⟨_, _, _, rfl⟩, trivial⟩, ⟨(nopE _).okH, trivial⟩⟩) ?_
  generalize Pl.netE St M W = E at *
  intro k hk
  have hcb := capC_bound (c := Pl.cutF c) (E := E.take k) fun e he => hcaps e (List.mem_of_mem_take he)
  rw [List.length_take] at hcb
  repeat refine At.seq ?_
  refine At.region tab_ok ?_
  conv => whnf
  repeat refine At.seq ?_
  refine At.cond rfl (fun hc => At.skip ?_) (fun hc => At.exit ?_)
  · have hlte : k < E.length := by have := of_decide_eq_true hc; (try simp only [List.length_map] at this); omega
    obtain ⟨e, he⟩ : ∃ x, E[k]? = some x := ⟨_, List.getElem?_eq_getElem hlte⟩
    obtain ⟨q1, q2, q3, q4⟩ := hrange e (List.mem_of_getElem? he)
    obtain ⟨q5, q6⟩ := hcaps e (List.mem_of_getElem? he)
    obtain ⟨bf, hbf⟩ : ∃ x, c[e.f.toNat]? = some x := ⟨_, List.getElem?_eq_getElem (by omega)⟩
    obtain ⟨bt, hbt⟩ : ∃ x, c[e.t.toNat]? = some x := ⟨_, List.getElem?_eq_getElem (by omega)⟩
    have hct := capC_take (c := Pl.cutF c) he
    rw [cutF_get hbf, cutF_get hbt] at hct
    repeat refine At.seq ?_
    refine At.block ?_
    repeat refine At.seq ?_
    refine At.region tab_ok ?_
    conv => whnf
    refine ⟨rfl, ?_⟩
    conv => whnf
    refine ⟨by omega, ?_⟩
    conv => whnf
    refine ⟨by (try simp only [List.length_map]); omega, ?_⟩
    conv => whnf
    refine ⟨encE e, ⟨rfl, rfl, by omega, by rw [Int.toNat_natCast, List.getElem?_map, he]; rfl⟩, ?_⟩
    conv => whnf
    intro be
    conv => whnf
    repeat refine At.seq ?_
    refine At.regionG tab_ok ?_
    conv => whnf
    refine ⟨by omega, ?_⟩
    conv => whnf
    refine ⟨by omega, ?_⟩
    conv => whnf
    refine ⟨[.b bf], fun w' hw => h6.loadI (n := 1) hw.fr q1 hbf rfl, ?_⟩
    conv => whnf
    cases bf
    · conv => whnf
      repeat refine At.seq ?_
      refine At.cond (t := false) rfl (fun hq => by cases hq) (fun hq => At.skip ?_)
      simp only [Bool.false_and, Bool.false_eq_true, if_false, Int.add_zero] at hct
      repeat refine At.seq ?_
      refine At.region tab_ok ?_
      conv => whnf
      refine ⟨⟨by omega, by omega⟩, ?_⟩
      conv => whnf
      refine At.nextH fun w' hw => ⟨k + 1, by omega, by omega, Le.of rfl rfl ⟨rfl, rfl, congrArg (Value.int .i64) (by rw [hct]), rfl, rfl, rfl, trivial⟩, hw.keep [1] rfl rfl rfl, ⟨⟨_, _, _, rfl⟩, trivial⟩, ⟨(nopE _).okH, trivial⟩⟩
    · conv => whnf
      refine ⟨by omega, ?_⟩
      conv => whnf
      refine ⟨by omega, ?_⟩
      conv => whnf
      refine ⟨[.b bt], fun w' hw => h6.loadI (n := 1) hw.fr q3 hbt rfl, ?_⟩
      conv => whnf
      cases bt
      · conv => whnf
        repeat refine At.seq ?_
        refine At.cond (t := true) rfl (fun hq => ?_) (fun hq => by cases hq)
        simp only [Bool.not_false, Bool.and_self, if_true] at hct
        repeat refine At.seq ?_
        refine At.region tab_ok ?_
        conv => whnf
        refine ⟨⟨by omega, by omega⟩, ?_⟩
        conv => whnf
        repeat refine At.seq ?_
        refine At.region tab_ok ?_
        conv => whnf
        refine ⟨⟨by omega, by omega⟩, ?_⟩
        conv => whnf
        refine At.nextH fun w' hw => ⟨k + 1, by omega, by omega, Le.of rfl rfl ⟨rfl, rfl, congrArg (Value.int .i64) (by rw [hct]), rfl, rfl, rfl, trivial⟩, hw.keep [1] rfl rfl rfl, ⟨⟨_, _, _, rfl⟩, trivial⟩, ⟨(nopE _).okH, trivial⟩⟩
      · conv => whnf
        repeat refine At.seq ?_
        refine At.cond (t := false) rfl (fun hq => by cases hq) (fun hq => At.skip ?_)
        simp only [Bool.not_true, Bool.and_false, Bool.false_eq_true, if_false, Int.add_zero] at hct
        repeat refine At.seq ?_
        refine At.region tab_ok ?_
        conv => whnf
        refine ⟨⟨by omega, by omega⟩, ?_⟩
        conv => whnf
        refine At.nextH fun w' hw => ⟨k + 1, by omega, by omega, Le.of rfl rfl ⟨rfl, rfl, congrArg (Value.int .i64) (by rw [hct]), rfl, rfl, rfl, trivial⟩, hw.keep [1] rfl rfl rfl, ⟨⟨_, _, _, rfl⟩, trivial⟩, ⟨(nopE _).okH, trivial⟩⟩
  have hke : k = E.length := by have := of_decide_eq_false hc; omega
  rw [hke, List.take_length] at hcb ⊢
  repeat refine At.seq ?_
  refine At.region tab_ok ?_
  conv => whnf
  refine ans_call b62 rfl (fun w' hw => total_c X [] v5 w' (h5.fr hw.fr) (by omega) hXb) ?_
  conv => whnf
  repeat refine At.seq ?_
  refine At.cond rfl (fun hq => ?_) (fun hq => ?_)
  · have hno : ¬ ((c.length : Int) = Pl.nodesN St M ∧ Pl.cutF c 0 = true ∧ Pl.cutF c 1 = false ∧ Pl.capC (Pl.cutF c) E = Pl.sumI X) := fun h => by simp [h.2.2.2] at hq
    rw [if_neg hno] at hchk
    rw [hchk] at hB
    repeat refine At.seq ?_
    refine At.region tab_ok ?_
    conv => whnf
    repeat refine At.seq ?_
    refine At.ret (At.doneB tab_ok hB _ rfl fun w' hw => ⟨rfl, hw.fr⟩)
  have hyes : Pl.capC (Pl.cutF c) E = Pl.sumI X := by simpa using hq
  rw [if_pos ⟨hcl, k0, k1, hyes⟩] at hchk
  rw [hchk] at hB
  refine At.skip ?_
  repeat refine At.seq ?_
  refine At.region tab_ok ?_
  conv => whnf
  repeat refine At.seq ?_
  refine At.ret (At.doneB tab_ok hB _ rfl fun w' hw => ⟨rfl, hw.fr⟩)
end Go.Proofs.Ytjilbkioieicbaa
