/- Walks: the library's functions at spans. -/
import Derived.Test.YtjilbkioieicbaaW2
namespace Go.Proofs.Ytjilbkioieicbaa
open Go.Vc Rt
set_option linter.unusedVariables false
set_option linter.unusedSimpArgs false
theorem isNaN_c (x : Int) (w : World) : Ans Try.prog 85 [vI x] (.b false) w := by
  refine calls_plainB [.i x] Try.func85 rfl rfl (Nat.le_of_ble_eq_true rfl) rfl fun B hB => ?_
  repeat refine At.seq ?_
  refine At.region tab_ok ?_
  conv => whnf
  repeat refine At.seq ?_
  refine At.region tab_ok ?_
  conv => whnf
  repeat refine At.seq ?_
  refine At.ret (At.doneB tab_ok hB _ rfl fun w' hw => ⟨?_, hw.fr⟩)
  simp [RV.den, SV.den, CV.den]
def cmpI (x y : Int) : Int := if x < y then -1 else if y < x then 1 else 0
theorem compare_c (x y : Int) (w : World) : Ans Try.prog 58 [vI x, vI y] (.i (cmpI x y)) w := by
  refine calls_plainB [.i x, .i y] Try.func58 rfl rfl (Nat.le_of_ble_eq_true rfl) rfl fun B hB => ?_
  repeat refine At.seq ?_
  refine At.region tab_ok ?_
  conv => whnf
  repeat refine At.seq ?_
  refine At.region tab_ok ?_
  conv => whnf
  refine ans_call b85 rfl (fun w _ => isNaN_c x w) ?_
  conv => whnf
  repeat refine At.seq ?_
  refine At.region tab_ok ?_
  conv => whnf
  refine ans_call b85 rfl (fun w _ => isNaN_c y w) ?_
  conv => whnf
  repeat refine At.seq ?_
  refine At.region tab_ok ?_
  conv => whnf
  repeat refine At.seq ?_
  refine At.cond (t := false) rfl (fun hq => by cases hq) (fun hq => At.skip ?_)
  repeat refine At.seq ?_
  refine At.region tab_ok ?_
  conv => whnf
  repeat refine At.seq ?_
  refine At.cond (t := false) rfl (fun hq => by cases hq) (fun hq => At.skip ?_)
  repeat refine At.seq ?_
  refine At.region tab_ok ?_
  conv => whnf
  repeat refine At.seq ?_
  refine At.cond rfl (fun hq => ?_) (fun hq => ?_)
  · repeat refine At.seq ?_
    refine At.region tab_ok ?_
    conv => whnf
    repeat refine At.seq ?_
    refine At.ret (At.doneB tab_ok hB _ rfl fun w' hw => ⟨?_, hw.fr⟩)
    have := of_decide_eq_true hq
    simp [RV.den, SV.den, CV.den, cmpI, this, ofConst]
  · have h1 := of_decide_eq_false hq
    refine At.skip ?_
    repeat refine At.seq ?_
    refine At.region tab_ok ?_
    conv => whnf
    repeat refine At.seq ?_
    refine At.cond rfl (fun hq => ?_) (fun hq => ?_)
    · repeat refine At.seq ?_
      refine At.region tab_ok ?_
      conv => whnf
      repeat refine At.seq ?_
      refine At.ret (At.doneB tab_ok hB _ rfl fun w' hw => ⟨?_, hw.fr⟩)
      have := of_decide_eq_true hq
      simp [RV.den, SV.den, CV.den, cmpI, this, h1, ofConst]
    · refine At.skip ?_
      repeat refine At.seq ?_
      refine At.region tab_ok ?_
      conv => whnf
      repeat refine At.seq ?_
      refine At.ret (At.doneB tab_ok hB _ rfl fun w' hw => ⟨?_, hw.fr⟩)
      have := of_decide_eq_false hq
      simp [RV.den, SV.den, CV.den, cmpI, this, h1, ofConst]
theorem norm1_c (s : Span) (w : World) : Ans Try.prog 98 [vS s] (.b (!valid s)) w := by
  refine calls_plainB [.s (.agg (encS s))] Try.func98 rfl rfl (Nat.le_of_ble_eq_true rfl) rfl fun B hB => ?_
  repeat refine At.seq ?_
  refine At.region tab_ok ?_
  conv => whnf
  intro b
  conv => whnf
  repeat refine At.seq ?_
  refine At.region tab_ok ?_
  conv => whnf
  refine ans_call b80 rfl (fun w _ => valid_c s w) ?_
  conv => whnf
  repeat refine At.seq ?_
  refine At.ret (At.doneB tab_ok hB _ rfl fun w' hw => ⟨rfl, hw.fr⟩)
def orI (xs : List Int) : Int := (xs.find? (fun x => decide (x ≠ 0))).getD 0
theorem or_c (xs : List Int) (S : List Nat) (v : Value) (w : World) (h : SlOf intT S w v xs) : Ans Try.prog 101 [v] (.i (orI xs)) w := by
  replace h := h.avoid (S' := []) (fun b hb => by cases hb)
  have hsm := h.small
  refine calls_plainB [.x v] Try.func101 rfl rfl (Nat.le_of_ble_eq_true rfl) rfl fun B hB => ?_
  repeat refine At.seq ?_
  refine At.region tab_ok ?_
  conv => whnf
  repeat refine At.seq ?_
  refine At.region tab_ok ?_
  conv => whnf
  repeat refine At.seq ?_
  refine At.region tab_ok ?_
  conv => whnf
  refine ⟨h.sl, ?_⟩
  conv => whnf
  repeat refine At.seq ?_
  refine At.block ?_
  refine At.loopF (fun k : Nat => { N := Try.f101.ntmps, sl := [(3, some (.i 0)), (6, some (.x v)), (7, some (.i xs.length)), (8, some (.i k))], gl := [], hp := [], S := [], ws := w }) (fun k => k ≤ xs.length ∧ orI xs = orI (xs.drop k)) (fun k => xs.length - k)
    (fun w' hw => ⟨0, ⟨Nat.zero_le _, rfl⟩, Le.of rfl rfl ⟨rfl, rfl, congrArg (Value.int .i64) h.len, rfl, trivial⟩, WF.plain rfl, hw.same rfl rfl rfl⟩) ?_
  intro k ⟨hk, hor⟩
  repeat refine At.seq ?_
  refine At.region tab_ok ?_
  conv => whnf
  repeat refine At.seq ?_
  refine At.cond rfl (fun hc => At.skip ?_) (fun hc => At.exit ?_)
  · have hlt : k < xs.length := by simpa using hc
    obtain ⟨x, hx⟩ : ∃ x, xs[k]? = some x := ⟨_, List.getElem?_eq_getElem hlt⟩
    have hd : xs.drop k = x :: xs.drop (k + 1) := by rw [List.drop_eq_getElem_cons hlt]; congr 1; rw [List.getElem?_eq_getElem hlt] at hx; exact Option.some.inj hx
    repeat refine At.seq ?_
    refine At.block ?_
    repeat refine At.seq ?_
    refine At.region tab_ok ?_
    conv => whnf
    refine ⟨by omega, ?_⟩
    conv => whnf
    refine ⟨by rw [h.len]; omega, ?_⟩
    conv => whnf
    refine ⟨[.i x], fun w' hw => h.load (n := 1) hw.fr hx rfl, ?_⟩
    conv => whnf
    repeat refine At.seq ?_
    refine At.region tab_ok ?_
    conv => whnf
    repeat refine At.seq ?_
    refine At.cond rfl (fun hq => ?_) (fun hq => ?_)
    · repeat refine At.seq ?_
      refine At.region tab_ok ?_
      conv => whnf
      repeat refine At.seq ?_
      refine At.ret (At.doneB tab_ok hB _ rfl fun w' hw => ⟨?_, hw.fr⟩)
      have hne : x ≠ 0 := by simpa using hq
      rw [hor, hd]
      simp [orI, hne, RV.den, SV.den, CV.den]
    · refine At.skip ?_
      repeat refine At.seq ?_
      refine At.region tab_ok ?_
      conv => whnf
      refine ⟨⟨by omega, by omega⟩, ?_⟩
      conv => whnf
      refine At.next fun w' hw => ⟨k + 1, ⟨by omega, ?_⟩, by omega, Le.of rfl rfl ⟨rfl, rfl, rfl, rfl, trivial⟩, WF.plain rfl, hw.keep [] rfl rfl rfl⟩
      have hne : x = 0 := by simpa using hq
      rw [hor, hd]
      simp [orI, hne]
  · have hge : k = xs.length := by simp at hc; omega
    subst hge
    repeat refine At.seq ?_
    refine At.region tab_ok ?_
    conv => whnf
    repeat refine At.seq ?_
    refine At.ret (At.doneB tab_ok hB _ rfl fun w' hw => ⟨?_, hw.fr⟩)
    rw [hor]
    simp [orI]
def idxOf {α : Type} (p : α → Bool) (xs : List α) : Int := match xs.findIdx? p with | some i => i | none => -1
theorem idx_some {α : Type} {p : α → Bool} {xs : List α} {k : Nat} {x : α} (hx : xs[k]? = some x) (hp : p x = true) (hall : ∀ j y, j < k → xs[j]? = some y → p y = false) : idxOf p xs = k := by
  have : xs.findIdx? p = some k := by
    rw [List.findIdx?_eq_some_iff_getElem]
    obtain ⟨hlt, e⟩ := List.getElem?_eq_some_iff.1 hx
    refine ⟨hlt, by rw [e]; exact hp, fun j hj => ?_⟩
    rw [hall j _ hj (List.getElem?_eq_getElem (by omega))]; simp
  unfold idxOf; rw [this]
theorem idx_none {α : Type} {p : α → Bool} {xs : List α} (hall : ∀ (j : Nat) y, xs[j]? = some y → p y = false) : idxOf p xs = -1 := by
  have : xs.findIdx? p = none := by
    rw [List.findIdx?_eq_none_iff]
    intro x hx
    obtain ⟨j, hj, e⟩ := List.getElem_of_mem hx
    exact hall j x (by rw [List.getElem?_eq_getElem hj, e])
  unfold idxOf; rw [this]
theorem indexS_c (xs : List Span) (S : List Nat) (v : Value) (w : World) (h : SlOf spT S w v xs) (g : Nat) (caps : Array Value) (p : Span → Bool) (hg : Body Try.prog g)
    (hf : ∀ x ∈ xs, ∀ w', Ext w w' → Ans Try.prog g (vS x :: caps.toList) (.b (p x)) w') : Ans Try.prog 128 [v, .func (.func g) #[] caps] (.i (idxOf p xs)) w := by
  replace h := h.avoid (S' := []) (fun b hb => by cases hb)
  have hsm := h.small
  refine calls_plainB [.x v, .x (.func (.func g) #[] caps)] Try.func128 rfl rfl (Nat.le_of_ble_eq_true rfl) rfl fun B hB => ?_
  repeat refine At.seq ?_
  refine At.region tab_ok ?_
  conv => whnf
  repeat refine At.seq ?_
  refine At.region tab_ok ?_
  conv => whnf
  refine ⟨h.sl, ?_⟩
  conv => whnf
  repeat refine At.seq ?_
  refine At.block ?_
  refine At.loopF (fun k : Nat => { N := Try.f128.ntmps, sl := [(0, some (.x v)), (1, some (.x (.func (.func g) #[] caps))), (7, some (.i xs.length)), (8, some (.i k))], gl := [], hp := [], S := [], ws := w }) (fun k => k ≤ xs.length ∧ ∀ j y, j < k → xs[j]? = some y → p y = false) (fun k => xs.length - k)
    (fun w' hw => ⟨0, ⟨Nat.zero_le _, fun j y hj => by omega⟩, Le.of rfl rfl ⟨rfl, rfl, congrArg (Value.int .i64) h.len, rfl, trivial⟩, WF.plain rfl, hw.same rfl rfl rfl⟩) ?_
  intro k ⟨hk, hall⟩
  repeat refine At.seq ?_
  refine At.region tab_ok ?_
  conv => whnf
  repeat refine At.seq ?_
  refine At.cond rfl (fun hc => At.skip ?_) (fun hc => At.exit ?_)
  · have hlt : k < xs.length := by simpa using hc
    obtain ⟨x, hx⟩ : ∃ x, xs[k]? = some x := ⟨_, List.getElem?_eq_getElem hlt⟩
    repeat refine At.seq ?_
    refine At.block ?_
    repeat refine At.seq ?_
    refine At.region tab_ok ?_
    conv => whnf
    repeat refine At.seq ?_
    refine At.region tab_ok ?_
    conv => whnf
    refine ⟨by omega, ?_⟩
    conv => whnf
    refine ⟨by rw [h.len]; omega, ?_⟩
    conv => whnf
    refine ⟨encS x, fun w' hw => h.load (n := 3) hw.fr hx rfl, ?_⟩
    conv => whnf
    refine ans_call hg rfl (fun w' hw => hf x (List.mem_of_getElem? hx) w' hw.fr) ?_
    conv => whnf
    repeat refine At.seq ?_
    refine At.cond rfl (fun hq => ?_) (fun hq => ?_)
    · repeat refine At.seq ?_
      refine At.region tab_ok ?_
      conv => whnf
      repeat refine At.seq ?_
      refine At.ret (At.doneB tab_ok hB _ rfl fun w' hw => ⟨?_, hw.fr⟩)
      rw [idx_some hx hq hall]
    · refine At.skip ?_
      repeat refine At.seq ?_
      refine At.region tab_ok ?_
      conv => whnf
      refine ⟨⟨by omega, by omega⟩, ?_⟩
      conv => whnf
      refine At.next fun w' hw => ⟨k + 1, ⟨by omega, fun j y hj hy => ?_⟩, by omega, Le.of rfl rfl ⟨rfl, rfl, rfl, rfl, trivial⟩, WF.plain rfl, hw.keep [] rfl rfl rfl⟩
      rcases Nat.lt_or_ge j k with hj' | hj'
      · exact hall j y hj' hy
      · obtain rfl : j = k := by omega
        rw [hx] at hy; cases hy; exact hq
  · have hge : k = xs.length := by simp at hc; omega
    subst hge
    repeat refine At.seq ?_
    refine At.region tab_ok ?_
    conv => whnf
    repeat refine At.seq ?_
    refine At.ret (At.doneB tab_ok hB _ rfl fun w' hw => ⟨?_, hw.fr⟩)
    rw [idx_none (fun j y hy => hall j y (List.getElem?_eq_some_iff.1 hy).1 hy)]
theorem cloneS_c (xs : List Span) (S : List Nat) (v : Value) (w : World) (h : SlOf spT S w v xs) (hB : xs.length ≤ 1000000) : AnsR Try.prog 97 [v] [.row 56 3 (xs.map encS)] w := by
  replace h := h.avoid (S' := []) (fun b hb => by cases hb)
  refine calls_plainB [.x v] Try.func97 rfl rfl (Nat.le_of_ble_eq_true rfl) rfl fun B hB => ?_
  repeat refine At.seq ?_
  refine At.region tab_ok ?_
  conv => whnf
  repeat refine At.seq ?_
  refine At.region tab_ok ?_
  conv => whnf
  refine ⟨h.sl, ?_⟩
  conv => whnf
  repeat refine At.seq ?_
  refine At.cond rfl (fun hq => ?_) (fun hq => ?_)
  · have hx : xs = [] := by
      obtain ⟨a, n, c, rfl, hnil, _⟩ := h.sl
      have hl := h.len
      cases a with
      | none => simp [slen] at hl; exact List.eq_nil_of_length_eq_zero (by omega)
      | some a => simp [isNilS] at hq
    subst hx
    repeat refine At.seq ?_
    refine At.region tab_ok ?_
    conv => whnf
    repeat refine At.seq ?_
    refine At.ret (At.doneB tab_ok hB _ rfl fun w' hw => ansR_nil hw rfl rfl)
  · refine At.skip ?_
    repeat refine At.seq ?_
    refine At.region tab_ok ?_
    conv => whnf
    intro v1
    conv => whnf
    refine ⟨xs.map encS, ⟨fun w' hw => (h.fr hw.fr).src encS_ints, nopS xs⟩, ?_⟩
    conv => whnf
    refine ⟨⟨rfl, by simp; omega⟩, ?_⟩
    conv => whnf
    intro v2
    conv => whnf
    repeat refine At.seq ?_
    refine At.ret (At.doneB tab_ok hB _ rfl fun w' hw => ansR_row (id := 0) hw rfl rfl rfl)
end Go.Proofs.Ytjilbkioieicbaa
