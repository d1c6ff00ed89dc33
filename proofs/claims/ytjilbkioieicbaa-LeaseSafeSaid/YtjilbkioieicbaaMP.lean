/- Texts that the law uses: F1 F4. -/
import Derived.Test.YtjilbkioieicbaaVcCore
/- Networks, plainly: flows, what enters and leaves a node, cuts. -/
namespace Pl
set_option linter.unusedVariables false
set_option linter.unusedSimpArgs false
structure Edge where
  f : Int
  t : Int
  c : Int
  deriving DecidableEq
def sumI : List Int → Int
  | [] => 0
  | x :: r => x + sumI r
theorem sumI_append : ∀ (a b : List Int), sumI (a ++ b) = sumI a + sumI b
  | [], b => by simp [sumI]
  | x :: a, b => by simp [sumI, sumI_append a b]; omega
def sumN : Nat → (Int → Int) → Int
  | 0, _ => 0
  | n + 1, g => sumN n g + g n
theorem sumN_add (n : Nat) (g h : Int → Int) : sumN n (fun v => g v + h v) = sumN n g + sumN n h := by
  induction n with
  | zero => simp [sumN]
  | succ n ih => simp only [sumN, ih]; omega
theorem sumN_sub (n : Nat) (g h : Int → Int) : sumN n (fun v => g v - h v) = sumN n g - sumN n h := by
  induction n with
  | zero => simp [sumN]
  | succ n ih => simp only [sumN, ih]; omega
theorem sumN_congr {n : Nat} {g h : Int → Int} (hh : ∀ v : Nat, v < n → g v = h v) : sumN n g = sumN n h := by
  induction n with
  | zero => rfl
  | succ n ih => simp only [sumN]; rw [ih fun v hv => hh v (by omega), hh n (by omega)]
theorem sumN_zero (n : Nat) : sumN n (fun _ => 0) = 0 := by
  induction n with
  | zero => rfl
  | succ n ih => simp [sumN, ih]
/-- One node. -/
theorem sumN_one (n : Nat) (p : Int) (h0 : 0 ≤ p) (h1 : p < n) (x : Int) : sumN n (fun v => if v = p then x else 0) = x := by
  induction n with
  | zero => omega
  | succ n ih =>
    simp only [sumN]
    by_cases hp : (n : Int) = p
    · rw [if_pos hp, sumN_congr (h := fun _ => 0) fun v hv => by rw [if_neg (by omega)], sumN_zero]; omega
    · rw [if_neg hp, ih (by omega)]; omega
/-- What leaves a node, less what enters it. -/
def net : List Edge → List Int → Int → Int
  | e :: E, x :: F, v => (if v = e.f then x else 0) - (if v = e.t then x else 0) + net E F v
  | _, _, _ => 0
/-- A flow along a potential. -/
def pot (φ : Int → Int) : List Edge → List Int → Int
  | e :: E, x :: F => (φ e.f * x - φ e.t * x) + pot φ E F
  | _, _ => 0
theorem sumN_mul (n : Nat) (φ : Int → Int) (p : Int) (h0 : 0 ≤ p) (h1 : p < n) (x : Int) : sumN n (fun v => φ v * (if v = p then x else 0)) = φ p * x := by
  rw [← sumN_one n p h0 h1 (φ p * x)]
  refine sumN_congr fun v _ => ?_
  split
  · rename_i h; rw [h]
  · simp
theorem pot_eq (n : Nat) (φ : Int → Int) : ∀ (E : List Edge) (F : List Int), (∀ e ∈ E, 0 ≤ e.f ∧ e.f < n ∧ 0 ≤ e.t ∧ e.t < n) → sumN n (fun v => φ v * net E F v) = pot φ E F
  | [], F, _ => by simp [net, pot, sumN_zero]
  | e :: E, [], _ => by simp [net, pot, sumN_zero]
  | e :: E, x :: F, h => by
    have ih := pot_eq n φ E F fun e' he' => h e' (by simp [he'])
    obtain ⟨h1, h2, h3, h4⟩ := h e (by simp)
    simp only [net, pot, Int.mul_add, Int.mul_sub, sumN_add, sumN_sub, sumN_mul n φ e.f h1 h2, sumN_mul n φ e.t h3 h4, ih]
theorem net_set : ∀ {E : List Edge} {F : List Int} {i : Nat} {e : Edge} {x : Int} (y v : Int), E[i]? = some e → F[i]? = some x → net E (F.set i y) v = net E F v + (if v = e.f then y - x else 0) - (if v = e.t then y - x else 0)
  | e :: E, z :: F, 0, e', x, y, v, h1, h2 => by
    simp at h1 h2
    subst h1 h2
    simp only [List.set_cons_zero, net]
    split <;> split <;> omega
  | e :: E, z :: F, i + 1, e', x, y, v, h1, h2 => by
    simp at h1 h2
    simp only [List.set_cons_succ, net, net_set y v h1 h2]
    omega
  | [], F, i, e', x, y, v, h1, h2 => by simp at h1
  | _ :: _, [], i, e', x, y, v, h1, h2 => by simp at h2
/-- Two nodes. -/
theorem sumN_two (n : Nat) (g : Int → Int) (s t : Int) (hs : 0 ≤ s ∧ s < n) (ht : 0 ≤ t ∧ t < n) (hne : s ≠ t) (h : ∀ v : Nat, v < n → (v : Int) ≠ s → (v : Int) ≠ t → g v = 0) : sumN n g = g s + g t := by
  have e : sumN n g = sumN n (fun v => (if v = s then g s else 0) + (if v = t then g t else 0)) := by
    refine sumN_congr fun v hv => ?_
    by_cases h1 : (v : Int) = s
    · rw [if_pos h1, if_neg (by omega), h1]; omega
    · by_cases h2 : (v : Int) = t
      · rw [if_neg h1, if_pos h2, h2]; omega
      · rw [if_neg h1, if_neg h2, h v hv h1 h2]; omega
  rw [e, sumN_add, sumN_one n s hs.1 hs.2, sumN_one n t ht.1 ht.2]
/-- The capacity of a cut. -/
def capC (c : Int → Bool) : List Edge → Int
  | [] => 0
  | e :: E => (if c e.f && !c e.t then e.c else 0) + capC c E
/-- A flow that a cut shows to be greatest. -/
structure Max (E : List Edge) (n : Nat) (s t : Int) (F : List Int) (c : Int → Bool) : Prop where
  len : F.length = E.length
  bnd : ∀ (i : Nat) e x, E[i]? = some e → F[i]? = some x → 0 ≤ x ∧ x ≤ e.c
  net : ∀ v : Nat, v < n → (v : Int) ≠ s → (v : Int) ≠ t → net E F v = 0
  cs : c s = true
  ct : c t = false
  sat : ∀ (i : Nat) e x, E[i]? = some e → F[i]? = some x → (c e.f = true → c e.t = false → x = e.c) ∧ (c e.f = false → c e.t = true → x = 0)
theorem pot_one : ∀ (E : List Edge) (F : List Int), pot (fun _ => 1) E F = 0
  | [], F => by simp [pot]
  | e :: E, [] => by simp [pot]
  | e :: E, x :: F => by simp [pot, pot_one E F]
theorem pot_cut (c : Int → Bool) : ∀ (E : List Edge) (F : List Int), F.length = E.length → (∀ (i : Nat) e x, E[i]? = some e → F[i]? = some x → (c e.f = true → c e.t = false → x = e.c) ∧ (c e.f = false → c e.t = true → x = 0)) →
    pot (fun v => if c v then 1 else 0) E F = capC c E
  | [], F, hl, _ => by simp [pot, capC]
  | e :: E, [], hl, _ => by simp at hl
  | e :: E, x :: F, hl, h => by
    have ih := pot_cut c E F (by simpa using hl) fun i e' x' h1 h2 => h (i + 1) e' x' (by simpa using h1) (by simpa using h2)
    have h0 := h 0 e x (by simp) (by simp)
    simp only [pot, capC, ih]
    cases hf : c e.f <;> cases ht : c e.t <;> simp [hf, ht] at h0 ⊢ <;> omega
section
variable {E : List Edge} {n : Nat} {s t : Int} {F : List Int} {c : Int → Bool}
theorem Max.value (h : Max E n s t F c) (hE : ∀ e ∈ E, 0 ≤ e.f ∧ e.f < n ∧ 0 ≤ e.t ∧ e.t < n) (hs : 0 ≤ s ∧ s < n) (ht : 0 ≤ t ∧ t < n) (hne : s ≠ t) : Pl.net E F s = capC c E ∧ Pl.net E F t = - capC c E := by
  have e1 := pot_eq n (fun _ => 1) E F hE
  have e2 := pot_eq n (fun v => if c v then 1 else 0) E F hE
  rw [pot_one, sumN_two n _ s t hs ht hne fun v hv h1 h2 => by simp [h.net v hv h1 h2]] at e1
  rw [pot_cut c E F h.len h.sat, sumN_two n _ s t hs ht hne fun v hv h1 h2 => by simp [h.net v hv h1 h2]] at e2
  simp [h.cs, h.ct] at e1 e2
  omega
end
end Pl

/- Plans, plainly: what the functions of the package plan compute, and that a flow makes a plan that works, and that no plan gives more than a cut. -/
namespace Pl
set_option linter.unusedVariables false
set_option linter.unusedSimpArgs false
structure Meet where
  day : Int
  a : Int
  b : Int
  cap : Int
  deriving DecidableEq
structure Want where
  key : Int
  day : Int
  n : Int
  deriving DecidableEq
structure Pass where
  meet : Int
  fr : Int
  to : Int
  n : Int
  deriving DecidableEq
def maxC : Int := 1099511627776
/-- The number of a list's place. -/
def at' (l : List Int) (i : Int) : Int := (l[i.toNat]?).getD 0
def put' (l : List Int) (i x : Int) : List Int := l.set i.toNat x
theorem put'_len (l : List Int) (i x : Int) : (put' l i x).length = l.length := List.length_set ..
theorem at'_put' {l : List Int} {i : Int} (x q : Int) (h0 : 0 ≤ i) (h1 : i < l.length) (hq : 0 ≤ q) : at' (put' l i x) q = if q = i then x else at' l q := by
  unfold at' put'
  by_cases h : q = i
  · subst h
    rw [if_pos rfl, List.getElem?_set]; simp [show q.toNat < l.length by omega]
  · rw [if_neg h, List.getElem?_set_ne (by omega)]
/-! ### What is due when -/
/-- How many meetings there are up to a day. -/
def upto : List Meet → Int → Nat
  | [], _ => 0
  | m :: M, d => if m.day ≤ d then upto M d + 1 else 0
theorem upto_le : ∀ (M : List Meet) (d : Int), upto M d ≤ M.length
  | [], _ => Nat.le_refl _
  | m :: M, d => by have := upto_le M d; simp only [upto, List.length_cons]; split <;> omega
/-- A want, with what is given: after how many meetings, by whom, how much it is at most, how much is given. -/
structure Due where
  u : Nat
  q : Int
  c : Int
  x : Int
  deriving DecidableEq
def dues (M : List Meet) : List Want → List Int → List Due
  | w :: W, x :: X => ⟨upto M w.day, w.key, w.n, x⟩ :: dues M W X
  | _, _ => []
theorem dues_len : ∀ (M : List Meet) (W : List Want) (X : List Int), X.length = W.length → (dues M W X).length = W.length
  | M, [], X, h => by simp [dues]
  | M, w :: W, [], h => by simp at h
  | M, w :: W, x :: X, h => by simp only [dues, List.length_cons]; rw [dues_len M W X (by simpa using h)]
/-- What a phone gives after k meetings. -/
def give (k : Nat) (q : Int) : List Due → Int
  | [] => 0
  | d :: D => (if d.u = k ∧ d.q = q then d.x else 0) + give k q D
theorem give_nonneg {k : Nat} {q : Int} : ∀ {D : List Due}, (∀ d ∈ D, 0 ≤ d.x) → 0 ≤ give k q D
  | [], _ => by simp [give]
  | d :: D, h => by
    have h1 := h d (by simp)
    have := give_nonneg (k := k) (q := q) (D := D) fun e he => h e (by simp [he])
    simp only [give]; split <;> omega
/-! ### A plan is carried out -/
/-- The wants that are due after k meetings. -/
def runW (k : Nat) : List Due → List Int → Option (List Int)
  | [], now => some now
  | d :: D, now => if d.u = k then (if at' now d.q - d.x < 0 then none else runW k D (put' now d.q (at' now d.q - d.x))) else runW k D now
def runP (k : Nat) : List Pass → List Int → Option (List Int × List Pass)
  | [], now => some (now, [])
  | x :: P, now => if x.meet = k then (if at' now x.fr - x.n < 0 then none else some (put' (put' now x.fr (at' now x.fr - x.n)) x.to (at' (put' now x.fr (at' now x.fr - x.n)) x.to + x.n), P)) else some (now, x :: P)
/-- From k meetings on, j further stages. -/
def runK (D : List Due) : Nat → Nat → List Pass → List Int → Option (List Int)
  | _, 0, _, now => some now
  | k, j + 1, P, now => match runW k D now with
    | none => none
    | some now1 => match runP k P now1 with
      | none => none
      | some (now2, P2) => runK D (k + 1) j P2 now2
theorem runW_len {k : Nat} : ∀ {D : List Due} {now r : List Int}, runW k D now = some r → r.length = now.length
  | [], now, r, h => by simp [runW] at h; rw [h]
  | d :: D, now, r, h => by
    simp only [runW] at h
    split at h
    · split at h
      · cases h
      · rw [runW_len h, put'_len]
    · exact runW_len h
theorem runP_len {k : Nat} {P P2 : List Pass} {now r : List Int} (h : runP k P now = some (r, P2)) : r.length = now.length := by
  unfold runP at h
  split at h
  · cases h; rfl
  · split at h
    · split at h
      · cases h
      · cases h; simp [put'_len]
    · cases h; rfl
theorem runK_len {D : List Due} : ∀ {j k : Nat} {P : List Pass} {now r : List Int}, runK D k j P now = some r → r.length = now.length
  | 0, k, P, now, r, h => by simp [runK] at h; rw [h]
  | j + 1, k, P, now, r, h => by
    simp only [runK] at h
    split at h
    · cases h
    · rename_i now1 h1
      split at h
      · cases h
      · rename_i now2 P2 h2
        rw [runK_len h, runP_len h2, runW_len h1]
/-- A stage of wants: it works exactly if everybody has enough. -/
theorem runW_spec {k : Nat} : ∀ {D : List Due} {now : List Int}, (∀ d ∈ D, 0 ≤ d.x ∧ 0 ≤ d.q ∧ d.q < now.length) → (∀ q : Int, 0 ≤ q → q < now.length → give k q D ≤ at' now q) →
    ∃ r, runW k D now = some r ∧ ∀ q : Int, 0 ≤ q → q < now.length → at' r q = at' now q - give k q D
  | [], now, _, _ => ⟨now, rfl, fun q _ _ => by simp [give]⟩
  | d :: D, now, hd, hg => by
    obtain ⟨h1, h2, h3⟩ := hd d (by simp)
    have hD : ∀ e ∈ D, 0 ≤ e.x ∧ 0 ≤ e.q ∧ e.q < now.length := fun e he => hd e (by simp [he])
    simp only [runW]
    split
    · rename_i hk
      have hgd := hg d.q h2 h3
      have hn := give_nonneg (k := k) (q := d.q) (D := D) fun e he => (hD e he).1
      simp only [give, hk, true_and, if_true] at hgd
      rw [if_neg (by omega)]
      have hset := fun q hq => at'_put' (l := now) (i := d.q) (at' now d.q - d.x) q h2 h3 hq
      obtain ⟨r, hr1, hr2⟩ := runW_spec (k := k) (D := D) (now := put' now d.q (at' now d.q - d.x)) (fun e he => by rw [put'_len]; exact hD e he) (fun q h0 hl => by
        rw [put'_len] at hl
        have := hg q h0 hl
        simp only [give, hk, true_and] at this
        rw [hset q h0]
        by_cases e : q = d.q
        · subst e; simp at this ⊢; omega
        · rw [if_neg e]; rw [if_neg (fun h => e h.symm)] at this; omega)
      refine ⟨r, hr1, fun q h0 hl => ?_⟩
      rw [hr2 q h0 (by rw [put'_len]; exact hl), hset q h0]
      simp only [give, hk, true_and]
      by_cases e : q = d.q
      · subst e; simp; omega
      · rw [if_neg e, if_neg (fun h => e h.symm)]; omega
    · rename_i hk
      obtain ⟨r, hr1, hr2⟩ := runW_spec (k := k) (D := D) (now := now) hD (fun q h0 hl => by
        have := hg q h0 hl
        simp only [give, hk, false_and, if_false] at this; omega)
      exact ⟨r, hr1, fun q h0 hl => by rw [hr2 q h0 hl]; simp [give, hk]⟩
/-- .. and only then. -/
theorem runW_back {k : Nat} : ∀ {D : List Due} {now r : List Int}, (∀ d ∈ D, 0 ≤ d.x ∧ 0 ≤ d.q ∧ d.q < now.length) → (∀ q : Int, 0 ≤ q → q < now.length → 0 ≤ at' now q) → runW k D now = some r →
    (∀ q : Int, 0 ≤ q → q < now.length → at' r q = at' now q - give k q D) ∧ (∀ q : Int, 0 ≤ q → q < now.length → 0 ≤ at' r q)
  | [], now, r, _, hn, h => by simp [runW] at h; subst h; exact ⟨fun q _ _ => by simp [give], hn⟩
  | d :: D, now, r, hd, hn, h => by
    obtain ⟨h1, h2, h3⟩ := hd d (by simp)
    have hD : ∀ e ∈ D, 0 ≤ e.x ∧ 0 ≤ e.q ∧ e.q < now.length := fun e he => hd e (by simp [he])
    simp only [runW] at h
    split at h
    · rename_i hk
      split at h
      · cases h
      · rename_i hneg
        have hset := fun q hq => at'_put' (l := now) (i := d.q) (at' now d.q - d.x) q h2 h3 hq
        obtain ⟨q1, q2⟩ := runW_back (D := D) (by rw [put'_len]; exact hD) (fun q h0 hl => by
          rw [put'_len] at hl
          rw [hset q h0]; split
          · omega
          · exact hn q h0 hl) h
        rw [put'_len] at q1 q2
        refine ⟨fun q h0 hl => ?_, q2⟩
        rw [q1 q h0 hl, hset q h0]
        simp only [give, hk, true_and]
        by_cases e : q = d.q
        · subst e; simp; omega
        · rw [if_neg e, if_neg (fun h => e h.symm)]; omega
    · rename_i hk
      obtain ⟨q1, q2⟩ := runW_back (D := D) hD hn h
      exact ⟨fun q h0 hl => by rw [q1 q h0 hl]; simp [give, hk], q2⟩
end Pl
