/- Texts that the law uses: F1 F2 F3 F4 F5 F6 F7 F8 F9 F11. -/
import Derived.Test.YtjilbkioieicbaaVcCore
/- Networks, plainly: flows, what enters and leaves a node, cuts. -/
namespace Pl
set_option linter.unusedVariables false
set_option linter.unusedSimpArgs false
structure Edge where
  f : Int
  t : Int
  c : Int
  deriving DecidableEq
def sumI : List Int → Int
  | [] => 0
  | x :: r => x + sumI r
theorem sumI_append : ∀ (a b : List Int), sumI (a ++ b) = sumI a + sumI b
  | [], b => by simp [sumI]
  | x :: a, b => by simp [sumI, sumI_append a b]; omega
def sumN : Nat → (Int → Int) → Int
  | 0, _ => 0
  | n + 1, g => sumN n g + g n
theorem sumN_add (n : Nat) (g h : Int → Int) : sumN n (fun v => g v + h v) = sumN n g + sumN n h := by
  induction n with
  | zero => simp [sumN]
  | succ n ih => simp only [sumN, ih]; omega
theorem sumN_sub (n : Nat) (g h : Int → Int) : sumN n (fun v => g v - h v) = sumN n g - sumN n h := by
  induction n with
  | zero => simp [sumN]
  | succ n ih => simp only [sumN, ih]; omega
theorem sumN_congr {n : Nat} {g h : Int → Int} (hh : ∀ v : Nat, v < n → g v = h v) : sumN n g = sumN n h := by
  induction n with
  | zero => rfl
  | succ n ih => simp only [sumN]; rw [ih fun v hv => hh v (by omega), hh n (by omega)]
theorem sumN_zero (n : Nat) : sumN n (fun _ => 0) = 0 := by
  induction n with
  | zero => rfl
  | succ n ih => simp [sumN, ih]
/-- One node. -/
theorem sumN_one (n : Nat) (p : Int) (h0 : 0 ≤ p) (h1 : p < n) (x : Int) : sumN n (fun v => if v = p then x else 0) = x := by
  induction n with
  | zero => omega
  | succ n ih =>
    simp only [sumN]
    by_cases hp : (n : Int) = p
    · rw [if_pos hp, sumN_congr (h := fun _ => 0) fun v hv => by rw [if_neg (by omega)], sumN_zero]; omega
    · rw [if_neg hp, ih (by omega)]; omega
/-- What leaves a node, less what enters it. -/
def net : List Edge → List Int → Int → Int
  | e :: E, x :: F, v => (if v = e.f then x else 0) - (if v = e.t then x else 0) + net E F v
  | _, _, _ => 0
/-- A flow along a potential. -/
def pot (φ : Int → Int) : List Edge → List Int → Int
  | e :: E, x :: F => (φ e.f * x - φ e.t * x) + pot φ E F
  | _, _ => 0
theorem sumN_mul (n : Nat) (φ : Int → Int) (p : Int) (h0 : 0 ≤ p) (h1 : p < n) (x : Int) : sumN n (fun v => φ v * (if v = p then x else 0)) = φ p * x := by
  rw [← sumN_one n p h0 h1 (φ p * x)]
  refine sumN_congr fun v _ => ?_
  split
  · rename_i h; rw [h]
  · simp
theorem pot_eq (n : Nat) (φ : Int → Int) : ∀ (E : List Edge) (F : List Int), (∀ e ∈ E, 0 ≤ e.f ∧ e.f < n ∧ 0 ≤ e.t ∧ e.t < n) → sumN n (fun v => φ v * net E F v) = pot φ E F
  | [], F, _ => by simp [net, pot, sumN_zero]
  | e :: E, [], _ => by simp [net, pot, sumN_zero]
  | e :: E, x :: F, h => by
    have ih := pot_eq n φ E F fun e' he' => h e' (by simp [he'])
    obtain ⟨h1, h2, h3, h4⟩ := h e (by simp)
    simp only [net, pot, Int.mul_add, Int.mul_sub, sumN_add, sumN_sub, sumN_mul n φ e.f h1 h2, sumN_mul n φ e.t h3 h4, ih]
theorem net_set : ∀ {E : List Edge} {F : List Int} {i : Nat} {e : Edge} {x : Int} (y v : Int), E[i]? = some e → F[i]? = some x → net E (F.set i y) v = net E F v + (if v = e.f then y - x else 0) - (if v = e.t then y - x else 0)
  | e :: E, z :: F, 0, e', x, y, v, h1, h2 => by
    simp at h1 h2
    subst h1 h2
    simp only [List.set_cons_zero, net]
    split <;> split <;> omega
  | e :: E, z :: F, i + 1, e', x, y, v, h1, h2 => by
    simp at h1 h2
    simp only [List.set_cons_succ, net, net_set y v h1 h2]
    omega
  | [], F, i, e', x, y, v, h1, h2 => by simp at h1
  | _ :: _, [], i, e', x, y, v, h1, h2 => by simp at h2
/-- Two nodes. -/
theorem sumN_two (n : Nat) (g : Int → Int) (s t : Int) (hs : 0 ≤ s ∧ s < n) (ht : 0 ≤ t ∧ t < n) (hne : s ≠ t) (h : ∀ v : Nat, v < n → (v : Int) ≠ s → (v : Int) ≠ t → g v = 0) : sumN n g = g s + g t := by
  have e : sumN n g = sumN n (fun v => (if v = s then g s else 0) + (if v = t then g t else 0)) := by
    refine sumN_congr fun v hv => ?_
    by_cases h1 : (v : Int) = s
    · rw [if_pos h1, if_neg (by omega), h1]; omega
    · by_cases h2 : (v : Int) = t
      · rw [if_neg h1, if_pos h2, h2]; omega
      · rw [if_neg h1, if_neg h2, h v hv h1 h2]; omega
  rw [e, sumN_add, sumN_one n s hs.1 hs.2, sumN_one n t ht.1 ht.2]
/-- The capacity of a cut. -/
def capC (c : Int → Bool) : List Edge → Int
  | [] => 0
  | e :: E => (if c e.f && !c e.t then e.c else 0) + capC c E
/-- A flow that a cut shows to be greatest. -/
structure Max (E : List Edge) (n : Nat) (s t : Int) (F : List Int) (c : Int → Bool) : Prop where
  len : F.length = E.length
  bnd : ∀ (i : Nat) e x, E[i]? = some e → F[i]? = some x → 0 ≤ x ∧ x ≤ e.c
  net : ∀ v : Nat, v < n → (v : Int) ≠ s → (v : Int) ≠ t → net E F v = 0
  cs : c s = true
  ct : c t = false
  sat : ∀ (i : Nat) e x, E[i]? = some e → F[i]? = some x → (c e.f = true → c e.t = false → x = e.c) ∧ (c e.f = false → c e.t = true → x = 0)
theorem pot_one : ∀ (E : List Edge) (F : List Int), pot (fun _ => 1) E F = 0
  | [], F => by simp [pot]
  | e :: E, [] => by simp [pot]
  | e :: E, x :: F => by simp [pot, pot_one E F]
theorem pot_cut (c : Int → Bool) : ∀ (E : List Edge) (F : List Int), F.length = E.length → (∀ (i : Nat) e x, E[i]? = some e → F[i]? = some x → (c e.f = true → c e.t = false → x = e.c) ∧ (c e.f = false → c e.t = true → x = 0)) →
    pot (fun v => if c v then 1 else 0) E F = capC c E
  | [], F, hl, _ => by simp [pot, capC]
  | e :: E, [], hl, _ => by simp at hl
  | e :: E, x :: F, hl, h => by
    have ih := pot_cut c E F (by simpa using hl) fun i e' x' h1 h2 => h (i + 1) e' x' (by simpa using h1) (by simpa using h2)
    have h0 := h 0 e x (by simp) (by simp)
    simp only [pot, capC, ih]
    cases hf : c e.f <;> cases ht : c e.t <;> simp [hf, ht] at h0 ⊢ <;> omega
section
variable {E : List Edge} {n : Nat} {s t : Int} {F : List Int} {c : Int → Bool}
theorem Max.value (h : Max E n s t F c) (hE : ∀ e ∈ E, 0 ≤ e.f ∧ e.f < n ∧ 0 ≤ e.t ∧ e.t < n) (hs : 0 ≤ s ∧ s < n) (ht : 0 ≤ t ∧ t < n) (hne : s ≠ t) : Pl.net E F s = capC c E ∧ Pl.net E F t = - capC c E := by
  have e1 := pot_eq n (fun _ => 1) E F hE
  have e2 := pot_eq n (fun v => if c v then 1 else 0) E F hE
  rw [pot_one, sumN_two n _ s t hs ht hne fun v hv h1 h2 => by simp [h.net v hv h1 h2]] at e1
  rw [pot_cut c E F h.len h.sat, sumN_two n _ s t hs ht hne fun v hv h1 h2 => by simp [h.net v hv h1 h2]] at e2
  simp [h.cs, h.ct] at e1 e2
  omega
end
end Pl

/- Networks, plainly: levels, pushing along them. -/
namespace Pl
set_option linter.unusedVariables false
set_option linter.unusedSimpArgs false
def dest (E : List Edge) (a : Int) : Int := match E[(a / 2).toNat]? with
  | some e => if a % 2 = 0 then e.t else e.f
  | none => 0
def tail (E : List Edge) (a : Int) : Int := match E[(a / 2).toNat]? with
  | some e => if a % 2 = 0 then e.f else e.t
  | none => 0
def room (E : List Edge) (F : List Int) (a : Int) : Int := match E[(a / 2).toNat]?, F[(a / 2).toNat]? with
  | some e, some x => if a % 2 = 0 then e.c - x else x
  | _, _ => 0
def lv (L : List Int) (v : Int) : Int := (L[v.toNat]?).getD (-1)
def Bnd (E : List Edge) (F : List Int) : Prop := ∀ (i : Nat) e x, E[i]? = some e → F[i]? = some x → 0 ≤ x ∧ x ≤ e.c
structure Arcs (E : List Edge) (O : List (List Int)) (n : Nat) : Prop where
  len : O.length = n
  edge : ∀ e ∈ E, 0 ≤ e.f ∧ e.f < n ∧ 0 ≤ e.t ∧ e.t < n
  ok : ∀ (v : Nat) l a, O[v]? = some l → a ∈ l → 0 ≤ a ∧ a / 2 < E.length ∧ tail E a = v
  all : ∀ (i : Nat) e, E[i]? = some e → (∃ l, O[e.f.toNat]? = some l ∧ (2 * i : Int) ∈ l) ∧ (∃ l, O[e.t.toNat]? = some l ∧ (2 * i + 1 : Int) ∈ l)
def NxOk (O : List (List Int)) (X : List Int) : Prop := ∀ (v : Nat) l x, O[v]? = some l → X[v]? = some x → 0 ≤ x ∧ x ≤ l.length
def Inv (E : List Edge) (O : List (List Int)) (L : List Int) (t : Int) (F X : List Int) : Prop :=
  ∀ (v : Nat) l (j : Nat) x a, O[v]? = some l → X[v]? = some x → (j : Int) < x → l[j]? = some a →
    room E F a = 0 ∨ lv L (dest E a) ≠ lv L v + 1 ∨ (dest E a ≠ t ∧ ∃ l', O[(dest E a).toNat]? = some l' ∧ X[(dest E a).toNat]? = some (l'.length : Int))
structure Pushed (E : List Edge) (O : List (List Int)) (L : List Int) (t k most : Int) (F X F' X' : List Int) (r : Int) : Prop where
  len : F'.length = F.length
  lenX : X'.length = X.length
  r0 : 0 ≤ r
  rm : r ≤ most
  bnd : Bnd E F'
  net : ∀ v, net E F' v = net E F v + (if v = k then r else 0) - (if v = t then r else 0)
  lvl : ∀ (i : Nat) e x x', E[i]? = some e → F[i]? = some x → F'[i]? = some x' → x' ≠ x → lv L k ≤ lv L e.f ∧ lv L k ≤ lv L e.t
  dir : ∀ (i : Nat) e x x', E[i]? = some e → F[i]? = some x → F'[i]? = some x' → (x < x' → lv L e.t = lv L e.f + 1) ∧ (x' < x → lv L e.f = lv L e.t + 1)
  nxt : ∀ (v : Nat) x x', X[v]? = some x → X'[v]? = some x' → x ≤ x' ∧ (x' ≠ x → lv L k ≤ lv L v)
  nok : NxOk O X'
  inv : Inv E O L t F' X'
  zero : r = 0 → F' = F ∧ k ≠ t ∧ ∃ l, O[k.toNat]? = some l ∧ X'[k.toNat]? = some (l.length : Int)
/-- What has been tried in vain from a node. -/
structure Tried (E : List Edge) (O : List (List Int)) (L : List Int) (t k : Int) (F X X' : List Int) : Prop where
  lenX : X'.length = X.length
  nxt : ∀ (v : Nat) x x', X[v]? = some x → X'[v]? = some x' → x ≤ x' ∧ (x' ≠ x → lv L k ≤ lv L v)
  nok : NxOk O X'
  inv : Inv E O L t F X'
section
variable {E : List Edge} {O : List (List Int)} {L : List Int} {t k most : Int} {F X F' X' : List Int} {r : Int} {n : Nat}
theorem Pushed.self (hm : 0 < most) (hb : Bnd E F) (hk : k = t) (ho : NxOk O X) (hi : Inv E O L t F X) : Pushed E O L t k most F X F X most :=
  ⟨rfl, rfl, by omega, by omega, hb, fun v => by subst hk; omega, fun i e x x' _ h1 h2 h => by rw [h1] at h2; cases h2; exact (h rfl).elim,
   fun i e x x' _ h1 h2 => by rw [h1] at h2; cases h2; exact ⟨fun h => by omega, fun h => by omega⟩,
   fun v x x' h1 h2 => by rw [h1] at h2; cases h2; exact ⟨by omega, fun h => (h rfl).elim⟩, ho, hi, fun h => by omega⟩
theorem Tried.start (ho : NxOk O X) (hi : Inv E O L t F X) : Tried E O L t k F X X :=
  ⟨rfl, fun v x x' h1 h2 => by rw [h1] at h2; cases h2; exact ⟨by omega, fun h => (h rfl).elim⟩, ho, hi⟩
theorem Tried.fail (h : Tried E O L t k F X X') (hb : Bnd E F) (hk : k ≠ t) (hm : 0 < most) {l : List Int} (hO : O[k.toNat]? = some l) (hX : X'[k.toNat]? = some (l.length : Int)) : Pushed E O L t k most F X F X' 0 :=
  ⟨rfl, h.lenX, by omega, by omega, hb, fun v => by simp, fun i e x x' _ h1 h2 h => by rw [h1] at h2; cases h2; exact (h rfl).elim,
   fun i e x x' _ h1 h2 => by rw [h1] at h2; cases h2; exact ⟨fun h => by omega, fun h => by omega⟩, h.nxt, h.nok, h.inv, fun _ => ⟨rfl, hk, l, hO, hX⟩⟩
theorem get_set {α : Type} {l : List α} {i j : Nat} {y z : α} (h : (l.set i y)[j]? = some z) : (j = i ∧ z = y ∧ i < l.length) ∨ (j ≠ i ∧ l[j]? = some z) := by
  by_cases e : j = i
  · subst e
    rw [List.getElem?_set] at h
    simp at h
    exact .inl ⟨rfl, h.2.symm, h.1⟩
  · exact .inr ⟨e, by rw [List.getElem?_set_ne (by omega)] at h; exact h⟩
/-- One arc more. -/
theorem Tried.skip (h : Tried E O L t k F X X') (hk0 : 0 ≤ k) {l : List Int} {j a : Int} (hO : O[k.toNat]? = some l) (hX : X'[k.toNat]? = some j) (ha : l[j.toNat]? = some a)
    (hdead : room E F a = 0 ∨ lv L (dest E a) ≠ lv L k + 1 ∨ (dest E a ≠ t ∧ ∃ l', O[(dest E a).toNat]? = some l' ∧ X'[(dest E a).toNat]? = some (l'.length : Int))) :
    Tried E O L t k F X (X'.set k.toNat (j + 1)) := by
  have hj := h.nok _ l j hO hX
  have hjl : j.toNat < l.length := (List.getElem?_eq_some_iff.1 ha).1
  have hkl : k.toNat < X'.length := (List.getElem?_eq_some_iff.1 hX).1
  have hkk : ((k.toNat : Nat) : Int) = k := by omega
  refine ⟨by rw [List.length_set]; exact h.lenX, fun v x x' h1 h2 => ?_, fun v l' x h1 h2 => ?_, fun v l' i x b h1 h2 h3 h4 => ?_⟩
  · rcases get_set h2 with ⟨rfl, rfl, _⟩ | ⟨_, h2⟩
    · have := (h.nxt _ x j h1 hX).1
      exact ⟨by omega, fun _ => by rw [hkk]; omega⟩
    · exact h.nxt v x x' h1 h2
  · rcases get_set h2 with ⟨rfl, rfl, _⟩ | ⟨_, h2⟩
    · rw [hO] at h1; cases h1
      omega
    · exact h.nok v l' x h1 h2
  · -- the arc is dead
    have old : (j.toNat : Nat) < l.length := hjl
    have key : room E F b = 0 ∨ lv L (dest E b) ≠ lv L v + 1 ∨ (dest E b ≠ t ∧ ∃ l', O[(dest E b).toNat]? = some l' ∧ X'[(dest E b).toNat]? = some (l'.length : Int)) := by
      rcases get_set h2 with ⟨rfl, rfl, _⟩ | ⟨_, h2⟩
      · rw [hO] at h1; cases h1
        by_cases hij : (i : Int) < j
        · exact h.inv _ l i j b hO hX hij h4
        · have : i = j.toNat := by omega
          subst this
          rw [ha] at h4; cases h4
          rw [hkk]; exact hdead
      · exact h.inv v l' i x b h1 h2 h3 h4
    rcases key with q | q | ⟨q, l'', q1, q2⟩
    · exact .inl q
    · exact .inr (.inl q)
    · refine .inr (.inr ⟨q, l'', q1, ?_⟩)
      by_cases e : (dest E b).toNat = k.toNat
      · rw [e, hX] at q2
        rw [e, hO] at q1
        cases q1; cases q2
        omega
      · rw [List.getElem?_set_ne (by omega)]; exact q2
theorem arc_cases (a : Int) : a % 2 = 0 ∨ a % 2 = 1 := by omega
theorem get_lt {α : Type} {l : List α} {i : Nat} (h : i < l.length) : ∃ x, l[i]? = some x := ⟨_, List.getElem?_eq_getElem h⟩
theorem room_le (hb : Bnd E F) (a : Int) : 0 ≤ room E F a := by
  unfold room
  split
  · rename_i e x h1 h2
    have := hb _ e x h1 h2
    split <;> omega
  · omega
/-- Behind a push that led to nothing. -/
theorem Tried.vain (h : Tried E O L t k F X X') {X2 : List Int} {d m : Int} (hp : Pushed E O L t d m F X' F' X2 0) (hd : lv L d = lv L k + 1) (hXl : X.length = O.length) (hk0 : 0 ≤ k) (hd0 : 0 ≤ d)
    {j : Int} (hX : X'[k.toNat]? = some j) : F' = F ∧ d ≠ t ∧ (∃ l', O[d.toNat]? = some l' ∧ X2[d.toNat]? = some (l'.length : Int)) ∧ X2[k.toNat]? = some j ∧ Tried E O L t k F X X2 := by
  obtain ⟨rfl, hne, hdead⟩ := hp.zero rfl
  refine ⟨rfl, hne, hdead, ?_, ⟨hp.lenX.trans h.lenX, fun v x x' h1 h2 => ?_, hp.nok, hp.inv⟩⟩
  · obtain ⟨y, hy⟩ := get_lt (l := X2) (i := k.toNat) (by rw [hp.lenX]; exact (List.getElem?_eq_some_iff.1 hX).1)
    by_cases e : y = j
    · rw [hy, e]
    · have := (hp.nxt _ j y hX hy).2 e
      have hkk : ((k.toNat : Nat) : Int) = k := by omega
      rw [hkk] at this; omega
  · obtain ⟨y, hy⟩ := get_lt (l := X') (i := v) (by rw [h.lenX]; exact (List.getElem?_eq_some_iff.1 h1).1)
    have q1 := h.nxt v x y h1 hy
    have q2 := hp.nxt v y x' hy h2
    refine ⟨by omega, fun hne => ?_⟩
    by_cases e : y = x
    · have := q2.2 (by omega); omega
    · exact q1.2 e
/-- Behind a push that went through. -/
theorem Tried.found (h : Tried E O L t k F X X') (hA : Arcs E O n) (hFl : F.length = E.length) (hb : Bnd E F) {X2 : List Int} {a : Int} (hk0 : 0 ≤ k) {l : List Int} (hO : O[k.toNat]? = some l) (ha : a ∈ l) (hd : lv L (dest E a) = lv L k + 1)
    (hp : Pushed E O L t (dest E a) (min most (room E F a)) F X' F' X2 r) (hr : r ≠ 0) :
    ∃ x, F'[(a / 2).toNat]? = some x ∧ 0 ≤ x ∧ (∃ e, E[(a / 2).toNat]? = some e ∧ x ≤ e.c) ∧ Pushed E O L t k most F X (F'.set (a / 2).toNat (x + r * (1 - 2 * (a % 2)))) X2 r := by
  have hkk : ((k.toNat : Nat) : Int) = k := by omega
  obtain ⟨ha0, ha1, ha2⟩ := hA.ok _ l a hO ha
  rw [hkk] at ha2
  have hil : (a / 2).toNat < E.length := by omega
  obtain ⟨e, he⟩ := get_lt hil
  obtain ⟨x, hx⟩ := get_lt (l := F) (i := (a / 2).toNat) (by omega)
  obtain ⟨x', hx'⟩ := get_lt (l := F') (i := (a / 2).toNat) (by rw [hp.len]; omega)
  have hrm := hp.rm
  have hr0 := hp.r0
  have hbx := hb _ e x he hx
  have hroom : room E F a = if a % 2 = 0 then e.c - x else x := by simp [room, he, hx]
  have hdest : dest E a = if a % 2 = 0 then e.t else e.f := by simp [dest, he]
  have htail : (if a % 2 = 0 then e.f else e.t) = k := by rw [← ha2]; simp [tail, he]
  have hsame : x' = x := by
    refine Decidable.byContradiction fun hne => ?_
    have := hp.lvl _ e x x' he hx hx' hne
    split at htail <;> rw [htail] at this <;> omega
  subst hsame
  have hlast : ∀ (i : Nat) e1 y y', E[i]? = some e1 → F[i]? = some y → (F'.set (a / 2).toNat (x' + r * (1 - 2 * (a % 2))))[i]? = some y' → (i ≠ (a / 2).toNat ∧ F'[i]? = some y') ∨ (i = (a / 2).toNat ∧ e1 = e ∧ y = x' ∧ y' = x' + r * (1 - 2 * (a % 2))) := by
    intro i e1 y y' h1 h2 h3
    rcases get_set h3 with ⟨rfl, rfl, _⟩ | ⟨hne, h3⟩
    · rw [he] at h1; cases h1
      rw [hx] at h2; cases h2
      exact .inr ⟨rfl, rfl, rfl, rfl⟩
    · exact .inl ⟨hne, h3⟩
  have hmin : r ≤ room E F a := by omega
  have hlvd : ∀ (i : Nat) e1 y y', E[i]? = some e1 → F[i]? = some y → (F'.set (a / 2).toNat (x' + r * (1 - 2 * (a % 2))))[i]? = some y' → (y < y' → lv L e1.t = lv L e1.f + 1) ∧ (y' < y → lv L e1.f = lv L e1.t + 1) := by
    intro i e1 y y' h1 h2 h3
    rcases hlast i e1 y y' h1 h2 h3 with ⟨_, h3⟩ | ⟨rfl, rfl, rfl, rfl⟩
    · exact hp.dir i e1 y y' h1 h2 h3
    · rcases arc_cases a with h0 | h0
      · rw [if_pos h0] at htail hdest
        rw [hdest, ← htail] at hd
        rw [h0]
        exact ⟨fun _ => hd, fun hlt => by omega⟩
      · rw [if_neg (by omega)] at htail hdest
        rw [hdest, ← htail] at hd
        rw [h0]
        exact ⟨fun hlt => by omega, fun _ => hd⟩
  have hnx : ∀ (v : Nat) y y', X[v]? = some y → X2[v]? = some y' → y ≤ y' ∧ (y' ≠ y → lv L k ≤ lv L v) := by
    intro v y y' h1 h2
    obtain ⟨z, hz⟩ := get_lt (l := X') (i := v) (by rw [h.lenX]; exact (List.getElem?_eq_some_iff.1 h1).1)
    have q1 := h.nxt v y z h1 hz
    have q2 := hp.nxt v z y' hz h2
    refine ⟨by omega, fun hne => ?_⟩
    by_cases e : z = y
    · have := q2.2 (by omega); omega
    · exact q1.2 e
  refine ⟨x', hx', hbx.1, ⟨e, he, hbx.2⟩, ⟨by rw [List.length_set]; exact hp.len, hp.lenX.trans h.lenX, hr0, by omega, ?_, ?_, ?_, hlvd, hnx, hp.nok, ?_, fun h0 => (hr h0).elim⟩⟩
  · intro i e1 y h1 h2
    rcases get_set h2 with ⟨rfl, rfl, _⟩ | ⟨hne, h2⟩
    · rw [he] at h1; cases h1
      rcases arc_cases a with h0 | h0
      · rw [hroom, if_pos h0] at hmin
        rw [h0]; omega
      · rw [hroom, if_neg (by omega)] at hmin
        rw [h0]; omega
    · exact hp.bnd i e1 y h1 h2
  · intro v
    rw [net_set _ v he hx', hp.net v]
    rcases arc_cases a with h0 | h0
    · rw [if_pos h0] at htail hdest
      rw [hdest, h0, htail]
      split <;> split <;> split <;> omega
    · rw [if_neg (by omega)] at htail hdest
      rw [hdest, h0, htail]
      split <;> split <;> split <;> omega
  · intro i e1 y y' h1 h2 h3 hne
    rcases hlast i e1 y y' h1 h2 h3 with ⟨_, h3⟩ | ⟨rfl, rfl, rfl, rfl⟩
    · have := hp.lvl i e1 y y' h1 h2 h3 hne
      omega
    · rcases arc_cases a with h0 | h0
      · rw [if_pos h0] at htail hdest
        rw [hdest] at hd
        rw [htail]; omega
      · rw [if_neg (by omega)] at htail hdest
        rw [hdest] at hd
        rw [htail]; omega
  · -- dead arcs stay dead: the push along this arc opens only its other side
    intro v l' j y b h1 h2 h3 h4
    rcases hp.inv v l' j y b h1 h2 h3 h4 with q | q | q
    · by_cases hbi : (b / 2).toNat = (a / 2).toNat
      · -- the same edge
        have hbl := hA.ok v l' b h1 (List.mem_of_getElem? h4)
        have hrb : room E F' b = if b % 2 = 0 then e.c - x' else x' := by simp [room, hbi, he, hx']
        have hrb' : room E (F'.set (a / 2).toNat (x' + r * (1 - 2 * (a % 2)))) b = if b % 2 = 0 then e.c - (x' + r * (1 - 2 * (a % 2))) else x' + r * (1 - 2 * (a % 2)) := by
          have : (F'.set (a / 2).toNat (x' + r * (1 - 2 * (a % 2))))[(a / 2).toNat]? = some (x' + r * (1 - 2 * (a % 2))) := by
            rw [List.getElem?_set]; simp [(List.getElem?_eq_some_iff.1 hx').1]
          simp [room, hbi, he, this]
        have htb : (if b % 2 = 0 then e.f else e.t) = (v : Int) := by rw [← hbl.2.2]; simp [tail, hbi, he]
        have hdb : dest E b = if b % 2 = 0 then e.t else e.f := by simp [dest, hbi, he]
        rcases arc_cases a with h0 | h0 <;> rcases arc_cases b with h5 | h5
        · rw [hroom, if_pos h0] at hmin
          rw [hrb, if_pos h5] at q
          omega
        · refine .inr (.inl ?_)
          rw [if_neg (by omega)] at htb hdb
          rw [if_pos h0] at htail hdest
          rw [hdb, ← htb, htail]
          rw [hdest] at hd
          omega
        · refine .inr (.inl ?_)
          rw [if_pos h5] at htb hdb
          rw [if_neg (by omega)] at htail hdest
          rw [hdb, ← htb, htail]
          rw [hdest] at hd
          omega
        · rw [hroom, if_neg (by omega)] at hmin
          rw [hrb, if_neg (by omega)] at q
          omega
      · refine .inl ?_
        rw [← q]
        unfold room
        rw [List.getElem?_set_ne (by omega)]
    · exact .inr (.inl q)
    · exact .inr (.inr q)
/-! ### Which nodes can be reached -/
structure Reached (E : List Edge) (O : List (List Int)) (F : List Int) (s : Int) (L : List Int) : Prop where
  s0 : lv L s = 0
  par : ∀ v : Nat, (v : Int) ≠ s → 0 ≤ lv L v → ∃ (u : Nat) (l : List Int) (a : Int), O[u]? = some l ∧ a ∈ l ∧ 0 < room E F a ∧ dest E a = v ∧ 0 ≤ lv L u ∧ lv L v = lv L u + 1
  clo : ∀ (u : Nat) l a, O[u]? = some l → 0 ≤ lv L u → a ∈ l → 0 < room E F a → 0 ≤ lv L (dest E a)
/-- A push from the source is not in vain, if the target can be reached. -/
theorem Reached.push {s : Int} (h : Reached E O F s L) (hA : Arcs E O n) (hp : Pushed E O L t s most F X F' X' 0) (hs : 0 ≤ s) (ht : 0 ≤ t) (hXl : X'.length = O.length) : lv L t < 0 := by
  obtain ⟨rfl, hst, ls, hls, hXs⟩ := hp.zero rfl
  have key : ∀ (m : Nat) (v : Nat), lv L v = m → (v : Int) ≠ t ∧ ∃ l, O[v]? = some l ∧ X'[v]? = some (l.length : Int) := by
    intro m
    induction m with
    | zero =>
      intro v hv
      by_cases hvs : (v : Int) = s
      · have : s.toNat = v := by omega
        rw [this] at hls hXs
        exact ⟨by omega, ls, hls, hXs⟩
      · obtain ⟨u, l, a, _, _, _, _, h5, h6⟩ := h.par v hvs (by omega)
        omega
    | succ m ih =>
      intro v hv
      by_cases hvs : (v : Int) = s
      · rw [hvs, h.s0] at hv; omega
      · obtain ⟨u, l, a, h1, h2, h3, h4, h5, h6⟩ := h.par v hvs (by omega)
        obtain ⟨_, l', q1, q2⟩ := ih u (by omega)
        rw [h1] at q1; cases q1
        obtain ⟨j, hj, hja⟩ := List.getElem_of_mem h2
        rcases hp.inv u l j l.length a h1 q2 (by omega) (by rw [List.getElem?_eq_getElem hj, hja]) with q | q | ⟨q, l'', q3, q4⟩
        · omega
        · rw [h4] at q; omega
        · rw [h4] at q q3 q4
          exact ⟨q, l'', by simpa using q3, by simpa using q4⟩
  refine Int.not_le.1 fun hle => ?_
  have := key (lv L t).toNat t.toNat (by rw [show ((t.toNat : Nat) : Int) = t by omega]; omega)
  exact this.1 (by omega)
theorem Reached.max {s : Int} (h : Reached E O F s L) (hA : Arcs E O n) (hFl : F.length = E.length) (hb : Bnd E F) (hnet : ∀ v : Nat, v < n → (v : Int) ≠ s → (v : Int) ≠ t → net E F v = 0) (ht : lv L t < 0) : Max E n s t F (fun v => decide (0 ≤ lv L v)) := by
  refine ⟨hFl, hb, hnet, by simp [h.s0], by simp; exact ht, fun i e x h1 h2 => ?_⟩
  obtain ⟨⟨l1, p1, p2⟩, ⟨l2, q1, q2⟩⟩ := hA.all i e h1
  have hin := hA.edge e (List.mem_of_getElem? h1)
  have hbx := hb i e x h1 h2
  refine ⟨fun c1 c2 => ?_, fun c1 c2 => ?_⟩
  · simp only [decide_eq_true_eq, decide_eq_false_iff_not] at c1 c2
    have := h.clo e.f.toNat l1 _ p1 (by rw [show ((e.f.toNat : Nat) : Int) = e.f by omega]; exact c1) p2
    have e1 : ((2 * i : Int) / 2).toNat = i := by omega
    have hd : dest E (2 * i) = e.t := by simp only [dest, e1, h1]; rw [if_pos (by omega)]
    have hr : room E F (2 * i) = e.c - x := by simp only [room, e1, h1, h2]; rw [if_pos (by omega)]
    rw [hd, hr] at this
    omega
  · simp only [decide_eq_true_eq, decide_eq_false_iff_not] at c1 c2
    have := h.clo e.t.toNat l2 _ q1 (by rw [show ((e.t.toNat : Nat) : Int) = e.t by omega]; exact c2) q2
    have e1 : ((2 * i + 1 : Int) / 2).toNat = i := by omega
    have hd : dest E (2 * i + 1) = e.f := by simp only [dest, e1, h1]; rw [if_neg (by omega)]
    have hr : room E F (2 * i + 1) = x := by simp only [room, e1, h1, h2]; rw [if_neg (by omega)]
    rw [hd, hr] at this
    omega
end
end Pl

/- Networks, plainly: how far the nodes are from the source. -/
namespace Pl
set_option linter.unusedVariables false
set_option linter.unusedSimpArgs false
def neg : List Int → Nat
  | [] => 0
  | x :: r => (if x < 0 then 1 else 0) + neg r
theorem neg_le : ∀ L : List Int, neg L ≤ L.length
  | [] => Nat.le_refl _
  | x :: r => by have := neg_le r; simp only [neg, List.length_cons]; split <;> omega
theorem neg_set : ∀ {L : List Int} {i : Nat} {x : Int} (y : Int), L[i]? = some x → x < 0 → 0 ≤ y → neg (L.set i y) + 1 = neg L
  | [], i, x, y, h, _, _ => by simp at h
  | z :: L, 0, x, y, h, h1, h2 => by
    simp at h; subst h
    simp only [List.set_cons_zero, neg]
    rw [if_neg (by omega), if_pos h1]; omega
  | z :: L, i + 1, x, y, h, h1, h2 => by
    simp at h
    have := neg_set y h h1 h2
    simp only [List.set_cons_succ, neg]; omega
theorem neg_repl (n : Nat) : neg (List.replicate n (-1)) = n := by
  induction n with
  | zero => rfl
  | succ n ih => rw [List.replicate_succ]; simp only [neg, ih]; rw [if_pos (by omega)]; omega
structure Reaching (E : List Edge) (O : List (List Int)) (F : List Int) (s : Int) (n : Nat) (Q : List Int) (k j : Int) (L : List Int) : Prop where
  len : L.length = n
  s0 : lv L s = 0
  par : ∀ v : Nat, (v : Int) ≠ s → 0 ≤ lv L v → ∃ (u : Nat) (l : List Int) (a : Int), O[u]? = some l ∧ a ∈ l ∧ 0 < room E F a ∧ dest E a = v ∧ 0 ≤ lv L u ∧ lv L v = lv L u + 1
  q : ∀ x ∈ Q, 0 ≤ x ∧ x < n ∧ 0 ≤ lv L x
  clo : ∀ (u : Nat) l a (i : Nat), O[u]? = some l → 0 ≤ lv L u → (u : Int) ∉ Q → l[i]? = some a → ((u : Int) = k → (i : Int) < j) → 0 < room E F a → 0 ≤ lv L (dest E a)
  top : ∀ x ∈ L, x < n - neg L
section
variable {E : List Edge} {O : List (List Int)} {F L : List Int} {s k j : Int} {n : Nat} {Q : List Int}
theorem lv_get {v : Nat} {x : Int} (h : L[v]? = some x) : lv L v = x := by simp [lv, h]
theorem lv_set (L : List Int) (d : Nat) (y : Int) (hd : d < L.length) (v : Int) : lv (L.set d y) v = if v.toNat = d then y else lv L v := by
  unfold lv
  split
  · rename_i h
    rw [h, List.getElem?_set]; simp [hd]
  · rename_i h
    rw [List.getElem?_set_ne (by omega)]
theorem Reaching.start (hA : Arcs E O n) (hs : 0 ≤ s ∧ s < n) : Reaching E O F s n [s] (-1) 0 ((List.replicate n (-1)).set s.toNat 0) := by
  have hl : ∀ v : Int, lv (List.replicate n (-1)) v = -1 := fun v => by
    unfold lv
    rw [List.getElem?_replicate]
    split <;> rfl
  have hset := lv_set (List.replicate n (-1)) s.toNat 0 (by simp; omega)
  have hneg := neg_set (L := List.replicate n (-1)) (i := s.toNat) (x := -1) 0 (by rw [List.getElem?_replicate, if_pos (by omega)]) (by omega) (by omega)
  rw [neg_repl] at hneg
  refine ⟨by simp, by rw [hset, if_pos rfl], fun v h1 h2 => ?_, fun x hx => ?_, fun u l a i h1 h2 h3 => ?_, fun x hx => ?_⟩
  · rw [hset, if_neg (by omega), hl] at h2; omega
  · simp at hx; subst hx
    exact ⟨hs.1, hs.2, by rw [hset, if_pos rfl]; omega⟩
  · simp at h3
    rw [hset, if_neg (by omega), hl] at h2; omega
  · rcases List.mem_or_eq_of_mem_set hx with h | h
    · rw [List.eq_of_mem_replicate h]; omega
    · omega
theorem Reaching.pop (h : Reaching E O F s n (k :: Q) (-1) 0 L) : Reaching E O F s n Q k 0 L := by
  refine ⟨h.len, h.s0, h.par, fun x hx => h.q x (by simp [hx]), fun u l a i h1 h2 h3 h4 h5 h6 => ?_, h.top⟩
  by_cases e : (u : Int) = k
  · have := h5 e; omega
  · exact h.clo u l a i h1 h2 (by simp [e, h3]) h4 (fun e' => by omega) h6
theorem Reaching.skip (h : Reaching E O F s n Q k j L) {l : List Int} {a : Int} (hO : O[k.toNat]? = some l) (hj : 0 ≤ j) (ha : l[j.toNat]? = some a) (hd : room E F a ≤ 0 ∨ 0 ≤ lv L (dest E a)) : Reaching E O F s n Q k (j + 1) L := by
  refine ⟨h.len, h.s0, h.par, h.q, fun u l' b i h1 h2 h3 h4 h5 h6 => ?_, h.top⟩
  by_cases e : (u : Int) = k
  · by_cases hi : (i : Int) < j
    · exact h.clo u l' b i h1 h2 h3 h4 (fun _ => hi) h6
    · have := h5 e
      have e1 : i = j.toNat := by omega
      have e2 : k.toNat = u := by omega
      rw [e2] at hO
      rw [hO] at h1; cases h1
      rw [e1, ha] at h4; cases h4
      rcases hd with hd | hd
      · omega
      · exact hd
  · exact h.clo u l' b i h1 h2 h3 h4 (fun e' => (e e').elim) h6
theorem Reaching.label (h : Reaching E O F s n Q k j L) (hA : Arcs E O n) {l : List Int} {a : Int} (hk : 0 ≤ k) (hO : O[k.toNat]? = some l) (hj : 0 ≤ j) (ha : l[j.toNat]? = some a) (hr : 0 < room E F a) (hd : lv L (dest E a) < 0) (hk0 : 0 ≤ lv L k) :
    (0 ≤ dest E a ∧ dest E a < n) ∧ Reaching E O F s n (Q ++ [dest E a]) k (j + 1) (L.set (dest E a).toNat (lv L k + 1)) ∧ neg (L.set (dest E a).toNat (lv L k + 1)) + 1 = neg L := by
  have hal := hA.ok _ l a hO (List.mem_of_getElem? ha)
  obtain ⟨e, he⟩ := get_lt (l := E) (i := (a / 2).toNat) (by omega)
  have hin := hA.edge e (List.mem_of_getElem? he)
  have hdr : 0 ≤ dest E a ∧ dest E a < n := by
    simp only [dest, he]; split <;> omega
  generalize hde : dest E a = d at *
  have hdl : d.toNat < L.length := by rw [h.len]; omega
  have hset := lv_set L d.toNat (lv L k + 1) hdl
  obtain ⟨x, hx⟩ := get_lt hdl
  have hxv := lv_get hx
  rw [show ((d.toNat : Nat) : Int) = d by omega] at hxv
  have hneg := neg_set (lv L k + 1) hx (by omega) (by omega)
  have hkl : lv L k < n - neg L := by
    obtain ⟨y, hy⟩ := get_lt (l := L) (i := k.toNat) (by
      have := (List.getElem?_eq_some_iff.1 hO).1
      rw [h.len, ← hA.len]; exact this)
    have := lv_get hy
    rw [show ((k.toNat : Nat) : Int) = k by omega] at this
    rw [this]; exact h.top y (List.mem_of_getElem? hy)
  have hmono : ∀ v : Int, 0 ≤ lv L v → 0 ≤ lv (L.set d.toNat (lv L k + 1)) v := fun v hv => by
    rw [hset]; split <;> omega
  refine ⟨hdr, ⟨by rw [List.length_set]; exact h.len, ?_, fun v h1 h2 => ?_, fun y hy => ?_, fun u l' b i h1 h2 h3 h4 h5 h6 => ?_, fun y hy => ?_⟩, hneg⟩
  · rw [hset]
    split
    · rename_i e1
      have hs0 := h.s0
      unfold lv at hs0 hd
      rw [e1] at hs0
      omega
    · exact h.s0
  · rw [hset] at h2
    by_cases e1 : v = d.toNat
    · subst e1
      refine ⟨k.toNat, l, a, hO, List.mem_of_getElem? ha, hr, by rw [hde]; omega, ?_, ?_⟩
      · rw [show ((k.toNat : Nat) : Int) = k by omega]; exact hmono k hk0
      · rw [show ((k.toNat : Nat) : Int) = k by omega, hset, if_pos (Int.toNat_natCast _), hset]
        rw [if_neg]
        intro e2
        unfold lv at hk0 hd
        rw [e2] at hk0; omega
    · rw [if_neg (by simpa using e1)] at h2
      obtain ⟨u, l', b, p1, p2, p3, p4, p5, p6⟩ := h.par v h1 h2
      refine ⟨u, l', b, p1, p2, p3, p4, hmono u p5, ?_⟩
      rw [hset, if_neg (by simpa using e1), hset, if_neg]
      · exact p6
      · intro e2
        unfold lv at p5 hd
        rw [e2] at p5; omega
  · rcases List.mem_append.1 hy with hy | hy
    · have := h.q y hy
      exact ⟨this.1, this.2.1, hmono y this.2.2⟩
    · simp at hy; subst hy
      exact ⟨hdr.1, hdr.2, by rw [hset, if_pos rfl]; omega⟩
  · simp only [List.mem_append, List.mem_singleton, not_or] at h3
    have hud : ¬ ((u : Int).toNat = d.toNat) := by omega
    rw [hset, if_neg hud] at h2
    by_cases e1 : (u : Int) = k
    · by_cases hi : (i : Int) < j
      · exact hmono _ (h.clo u l' b i h1 h2 h3.1 h4 (fun _ => hi) h6)
      · have := h5 e1
        have e2 : i = j.toNat := by omega
        have e3 : k.toNat = u := by omega
        rw [e3] at hO
        rw [hO] at h1; cases h1
        rw [e2, ha] at h4; cases h4
        rw [hde, hset, if_pos rfl]; omega
    · exact hmono _ (h.clo u l' b i h1 h2 h3.1 h4 (fun e' => (e1 e').elim) h6)
  · rcases List.mem_or_eq_of_mem_set hy with hy | hy
    · have := h.top y hy; omega
    · omega
theorem Reaching.done (h : Reaching E O F s n Q k j L) {l : List Int} (hO : O[k.toNat]? = some l) (hk : 0 ≤ k) (hj : (l.length : Int) ≤ j) : Reaching E O F s n Q (-1) 0 L := by
  refine ⟨h.len, h.s0, h.par, h.q, fun u l' b i h1 h2 h3 h4 _ h6 => ?_, h.top⟩
  refine h.clo u l' b i h1 h2 h3 h4 (fun e => ?_) h6
  have e3 : k.toNat = u := by omega
  rw [e3] at hO
  rw [hO] at h1; cases h1
  have := (List.getElem?_eq_some_iff.1 h4).1
  omega
theorem Reaching.reached (h : Reaching E O F s n [] (-1) 0 L) : Reached E O F s L := by
  refine ⟨h.s0, h.par, fun u l a h1 h2 h3 h4 => ?_⟩
  obtain ⟨i, hi, hia⟩ := List.getElem_of_mem h3
  exact h.clo u l a i h1 h2 (by simp) (by rw [List.getElem?_eq_getElem hi, hia]) (fun e => by omega) h4
end
end Pl

/- Plans, plainly: what the functions of the package plan compute, and that a flow makes a plan that works, and that no plan gives more than a cut. -/
namespace Pl
set_option linter.unusedVariables false
set_option linter.unusedSimpArgs false
structure Meet where
  day : Int
  a : Int
  b : Int
  cap : Int
  deriving DecidableEq
structure Want where
  key : Int
  day : Int
  n : Int
  deriving DecidableEq
structure Pass where
  meet : Int
  fr : Int
  to : Int
  n : Int
  deriving DecidableEq
def maxC : Int := 1099511627776
/-- The number of a list's place. -/
def at' (l : List Int) (i : Int) : Int := (l[i.toNat]?).getD 0
def put' (l : List Int) (i x : Int) : List Int := l.set i.toNat x
theorem put'_len (l : List Int) (i x : Int) : (put' l i x).length = l.length := List.length_set ..
theorem at'_put' {l : List Int} {i : Int} (x q : Int) (h0 : 0 ≤ i) (h1 : i < l.length) (hq : 0 ≤ q) : at' (put' l i x) q = if q = i then x else at' l q := by
  unfold at' put'
  by_cases h : q = i
  · subst h
    rw [if_pos rfl, List.getElem?_set]; simp [show q.toNat < l.length by omega]
  · rw [if_neg h, List.getElem?_set_ne (by omega)]
/-! ### What is due when -/
/-- How many meetings there are up to a day. -/
def upto : List Meet → Int → Nat
  | [], _ => 0
  | m :: M, d => if m.day ≤ d then upto M d + 1 else 0
theorem upto_le : ∀ (M : List Meet) (d : Int), upto M d ≤ M.length
  | [], _ => Nat.le_refl _
  | m :: M, d => by have := upto_le M d; simp only [upto, List.length_cons]; split <;> omega
/-- A want, with what is given: after how many meetings, by whom, how much it is at most, how much is given. -/
structure Due where
  u : Nat
  q : Int
  c : Int
  x : Int
  deriving DecidableEq
def dues (M : List Meet) : List Want → List Int → List Due
  | w :: W, x :: X => ⟨upto M w.day, w.key, w.n, x⟩ :: dues M W X
  | _, _ => []
theorem dues_len : ∀ (M : List Meet) (W : List Want) (X : List Int), X.length = W.length → (dues M W X).length = W.length
  | M, [], X, h => by simp [dues]
  | M, w :: W, [], h => by simp at h
  | M, w :: W, x :: X, h => by simp only [dues, List.length_cons]; rw [dues_len M W X (by simpa using h)]
/-- What a phone gives after k meetings. -/
def give (k : Nat) (q : Int) : List Due → Int
  | [] => 0
  | d :: D => (if d.u = k ∧ d.q = q then d.x else 0) + give k q D
theorem give_nonneg {k : Nat} {q : Int} : ∀ {D : List Due}, (∀ d ∈ D, 0 ≤ d.x) → 0 ≤ give k q D
  | [], _ => by simp [give]
  | d :: D, h => by
    have h1 := h d (by simp)
    have := give_nonneg (k := k) (q := q) (D := D) fun e he => h e (by simp [he])
    simp only [give]; split <;> omega
/-! ### A plan is carried out -/
/-- The wants that are due after k meetings. -/
def runW (k : Nat) : List Due → List Int → Option (List Int)
  | [], now => some now
  | d :: D, now => if d.u = k then (if at' now d.q - d.x < 0 then none else runW k D (put' now d.q (at' now d.q - d.x))) else runW k D now
def runP (k : Nat) : List Pass → List Int → Option (List Int × List Pass)
  | [], now => some (now, [])
  | x :: P, now => if x.meet = k then (if at' now x.fr - x.n < 0 then none else some (put' (put' now x.fr (at' now x.fr - x.n)) x.to (at' (put' now x.fr (at' now x.fr - x.n)) x.to + x.n), P)) else some (now, x :: P)
/-- From k meetings on, j further stages. -/
def runK (D : List Due) : Nat → Nat → List Pass → List Int → Option (List Int)
  | _, 0, _, now => some now
  | k, j + 1, P, now => match runW k D now with
    | none => none
    | some now1 => match runP k P now1 with
      | none => none
      | some (now2, P2) => runK D (k + 1) j P2 now2
theorem runW_len {k : Nat} : ∀ {D : List Due} {now r : List Int}, runW k D now = some r → r.length = now.length
  | [], now, r, h => by simp [runW] at h; rw [h]
  | d :: D, now, r, h => by
    simp only [runW] at h
    split at h
    · split at h
      · cases h
      · rw [runW_len h, put'_len]
    · exact runW_len h
theorem runP_len {k : Nat} {P P2 : List Pass} {now r : List Int} (h : runP k P now = some (r, P2)) : r.length = now.length := by
  unfold runP at h
  split at h
  · cases h; rfl
  · split at h
    · split at h
      · cases h
      · cases h; simp [put'_len]
    · cases h; rfl
theorem runK_len {D : List Due} : ∀ {j k : Nat} {P : List Pass} {now r : List Int}, runK D k j P now = some r → r.length = now.length
  | 0, k, P, now, r, h => by simp [runK] at h; rw [h]
  | j + 1, k, P, now, r, h => by
    simp only [runK] at h
    split at h
    · cases h
    · rename_i now1 h1
      split at h
      · cases h
      · rename_i now2 P2 h2
        rw [runK_len h, runP_len h2, runW_len h1]
/-- A stage of wants: it works exactly if everybody has enough. -/
theorem runW_spec {k : Nat} : ∀ {D : List Due} {now : List Int}, (∀ d ∈ D, 0 ≤ d.x ∧ 0 ≤ d.q ∧ d.q < now.length) → (∀ q : Int, 0 ≤ q → q < now.length → give k q D ≤ at' now q) →
    ∃ r, runW k D now = some r ∧ ∀ q : Int, 0 ≤ q → q < now.length → at' r q = at' now q - give k q D
  | [], now, _, _ => ⟨now, rfl, fun q _ _ => by simp [give]⟩
  | d :: D, now, hd, hg => by
    obtain ⟨h1, h2, h3⟩ := hd d (by simp)
    have hD : ∀ e ∈ D, 0 ≤ e.x ∧ 0 ≤ e.q ∧ e.q < now.length := fun e he => hd e (by simp [he])
    simp only [runW]
    split
    · rename_i hk
      have hgd := hg d.q h2 h3
      have hn := give_nonneg (k := k) (q := d.q) (D := D) fun e he => (hD e he).1
      simp only [give, hk, true_and, if_true] at hgd
      rw [if_neg (by omega)]
      have hset := fun q hq => at'_put' (l := now) (i := d.q) (at' now d.q - d.x) q h2 h3 hq
      obtain ⟨r, hr1, hr2⟩ := runW_spec (k := k) (D := D) (now := put' now d.q (at' now d.q - d.x)) (fun e he => by rw [put'_len]; exact hD e he) (fun q h0 hl => by
        rw [put'_len] at hl
        have := hg q h0 hl
        simp only [give, hk, true_and] at this
        rw [hset q h0]
        by_cases e : q = d.q
        · subst e; simp at this ⊢; omega
        · rw [if_neg e]; rw [if_neg (fun h => e h.symm)] at this; omega)
      refine ⟨r, hr1, fun q h0 hl => ?_⟩
      rw [hr2 q h0 (by rw [put'_len]; exact hl), hset q h0]
      simp only [give, hk, true_and]
      by_cases e : q = d.q
      · subst e; simp; omega
      · rw [if_neg e, if_neg (fun h => e h.symm)]; omega
    · rename_i hk
      obtain ⟨r, hr1, hr2⟩ := runW_spec (k := k) (D := D) (now := now) hD (fun q h0 hl => by
        have := hg q h0 hl
        simp only [give, hk, false_and, if_false] at this; omega)
      exact ⟨r, hr1, fun q h0 hl => by rw [hr2 q h0 hl]; simp [give, hk]⟩
/-- .. and only then. -/
theorem runW_back {k : Nat} : ∀ {D : List Due} {now r : List Int}, (∀ d ∈ D, 0 ≤ d.x ∧ 0 ≤ d.q ∧ d.q < now.length) → (∀ q : Int, 0 ≤ q → q < now.length → 0 ≤ at' now q) → runW k D now = some r →
    (∀ q : Int, 0 ≤ q → q < now.length → at' r q = at' now q - give k q D) ∧ (∀ q : Int, 0 ≤ q → q < now.length → 0 ≤ at' r q)
  | [], now, r, _, hn, h => by simp [runW] at h; subst h; exact ⟨fun q _ _ => by simp [give], hn⟩
  | d :: D, now, r, hd, hn, h => by
    obtain ⟨h1, h2, h3⟩ := hd d (by simp)
    have hD : ∀ e ∈ D, 0 ≤ e.x ∧ 0 ≤ e.q ∧ e.q < now.length := fun e he => hd e (by simp [he])
    simp only [runW] at h
    split at h
    · rename_i hk
      split at h
      · cases h
      · rename_i hneg
        have hset := fun q hq => at'_put' (l := now) (i := d.q) (at' now d.q - d.x) q h2 h3 hq
        obtain ⟨q1, q2⟩ := runW_back (D := D) (by rw [put'_len]; exact hD) (fun q h0 hl => by
          rw [put'_len] at hl
          rw [hset q h0]; split
          · omega
          · exact hn q h0 hl) h
        rw [put'_len] at q1 q2
        refine ⟨fun q h0 hl => ?_, q2⟩
        rw [q1 q h0 hl, hset q h0]
        simp only [give, hk, true_and]
        by_cases e : q = d.q
        · subst e; simp; omega
        · rw [if_neg e, if_neg (fun h => e h.symm)]; omega
    · rename_i hk
      obtain ⟨q1, q2⟩ := runW_back (D := D) hD hn h
      exact ⟨fun q h0 hl => by rw [q1 q h0 hl]; simp [give, hk], q2⟩
end Pl

/- Plans, plainly: a flow makes a plan that works. -/
namespace Pl
set_option linter.unusedVariables false
set_option linter.unusedSimpArgs false
/-! ### The network -/
def step' (at_ : List Int) (m : Meet) (n : Int) : List Int := put' (put' at_ m.a n) m.b (n + 1)
def stockE : Int → List Int → List Edge
  | _, [] => []
  | i, s :: S => ⟨0, i, s⟩ :: stockE (i + 1) S
def meetE : List Int → Int → List Meet → List Edge
  | _, _, [] => []
  | at_, n, m :: M => ⟨at' at_ m.a, n, maxC⟩ :: ⟨at' at_ m.b, n + 1, maxC⟩ :: ⟨at' at_ m.a, n + 1, m.cap⟩ :: ⟨at' at_ m.b, n, m.cap⟩ :: meetE (step' at_ m n) (n + 2) M
/-- The nodes of the phones after some meetings. -/
def atJ : List Int → Int → List Meet → Nat → List Int
  | at_, _, _, 0 => at_
  | at_, _, [], _ + 1 => at_
  | at_, n, m :: M, j + 1 => atJ (step' at_ m n) (n + 2) M j
def begin_ : Nat → Int → List Int
  | 0, _ => []
  | p + 1, i => i :: begin_ p (i + 1)
def endE (at_ : List Int) (n : Int) (M : List Meet) (w : Want) : Edge := ⟨at' (atJ at_ n M (upto M w.day)) w.key, 1, w.n⟩
def netE (S : List Int) (M : List Meet) (W : List Want) : List Edge :=
  stockE 2 S ++ (meetE (begin_ S.length 2) (2 + S.length) M ++ W.map (endE (begin_ S.length 2) (2 + S.length) M))
theorem stockE_len : ∀ (i : Int) (S : List Int), (stockE i S).length = S.length
  | _, [] => rfl
  | i, s :: S => by simp [stockE, stockE_len (i + 1) S]
theorem meetE_len : ∀ (at_ : List Int) (n : Int) (M : List Meet), (meetE at_ n M).length = 4 * M.length
  | _, _, [] => rfl
  | at_, n, m :: M => by simp [meetE, meetE_len (step' at_ m n) (n + 2) M]; omega
theorem begin_len : ∀ (p : Nat) (i : Int), (begin_ p i).length = p
  | 0, _ => rfl
  | p + 1, i => by simp [begin_, begin_len p (i + 1)]
theorem begin_at : ∀ (p : Nat) (i q : Int), 0 ≤ q → q < p → at' (begin_ p i) q = i + q
  | 0, i, q, h0, h1 => by omega
  | p + 1, i, q, h0, h1 => by
    by_cases e : q = 0
    · subst e; simp [at', begin_]
    · have ih := begin_at p (i + 1) (q - 1) (by omega) (by omega)
      have : q.toNat = (q - 1).toNat + 1 := by omega
      unfold at' at ih ⊢
      rw [this, begin_, List.getElem?_cons_succ, ih]; omega
theorem net_append : ∀ {E1 E2 : List Edge} {F1 F2 : List Int} (v : Int), F1.length = E1.length → net (E1 ++ E2) (F1 ++ F2) v = net E1 F1 v + net E2 F2 v
  | [], E2, [], F2, v, _ => by simp [net]
  | [], E2, _ :: _, F2, v, h => by simp at h
  | e :: E1, E2, [], F2, v, h => by simp at h
  | e :: E1, E2, x :: F1, F2, v, h => by
    simp only [List.cons_append, net]
    rw [net_append v (by simpa using h)]; omega
structure Nodes (at_ : List Int) (p : Nat) (n : Int) : Prop where
  len : at_.length = p
  lt : ∀ q : Int, 0 ≤ q → q < p → 2 ≤ at' at_ q ∧ at' at_ q < n
  inj : ∀ q r : Int, 0 ≤ q → q < p → 0 ≤ r → r < p → at' at_ q = at' at_ r → q = r
structure MeetOk (p : Nat) (m : Meet) : Prop where
  a0 : 0 ≤ m.a
  a1 : m.a < p
  b0 : 0 ≤ m.b
  b1 : m.b < p
  ne : m.a ≠ m.b
  c0 : 0 ≤ m.cap
  c1 : m.cap ≤ maxC
theorem step'_at {at_ : List Int} {p : Nat} {n : Int} {m : Meet} (hl : at_.length = p) (hm : MeetOk p m) (q : Int) (h0 : 0 ≤ q) : at' (step' at_ m n) q = if q = m.b then n + 1 else if q = m.a then n else at' at_ q := by
  unfold step'
  rw [at'_put' _ _ hm.b0 (by rw [put'_len]; have := hm.b1; omega) h0, at'_put' _ _ hm.a0 (by have := hm.a1; omega) h0]
theorem Nodes.step {at_ : List Int} {p : Nat} {n : Int} {m : Meet} (h : Nodes at_ p n) (hm : MeetOk p m) (hn : 2 ≤ n) : Nodes (step' at_ m n) p (n + 2) := by
  have hs := step'_at (n := n) h.len hm
  have hne := hm.ne
  refine ⟨by simp [step', put'_len, h.len], fun q h0 h1 => ?_, fun q r h0 h1 h2 h3 e => ?_⟩
  · rw [hs q h0]
    have := h.lt q h0 h1
    split
    · omega
    · split <;> omega
  · rw [hs q h0, hs r h2] at e
    have q1 := h.lt q h0 h1
    have q2 := h.lt r h2 h3
    split at e <;> split at e <;> (try split at e) <;> (try split at e) <;> first | omega | exact h.inj q r h0 h1 h2 h3 e
theorem Nodes.start (p : Nat) : Nodes (begin_ p 2) p (2 + p) :=
  ⟨begin_len p 2, fun q h0 h1 => by rw [begin_at p 2 q h0 h1]; omega, fun q r h0 h1 h2 h3 e => by rw [begin_at p 2 q h0 h1, begin_at p 2 r h2 h3] at e; omega⟩
/-! ### What leaves and enters -/
def outM : List Int → Int → List Meet → List Int → Int → Int
  | at_, n, m :: M, f1 :: f2 :: f3 :: f4 :: F, v => (if v = at' at_ m.a then f1 + f3 else 0) + (if v = at' at_ m.b then f2 + f4 else 0) + outM (step' at_ m n) (n + 2) M F v
  | _, _, _, _, _ => 0
def innM : Int → List Meet → List Int → Int → Int
  | n, m :: M, f1 :: f2 :: f3 :: f4 :: F, v => (if v = n then f1 + f4 else 0) + (if v = n + 1 then f2 + f3 else 0) + innM (n + 2) M F v
  | _, _, _, _ => 0
theorem four {F : List Int} {k : Nat} (h : F.length = 4 * (k + 1)) : ∃ f1 f2 f3 f4 G, F = f1 :: f2 :: f3 :: f4 :: G ∧ G.length = 4 * k := by
  match F, h with
  | f1 :: f2 :: f3 :: f4 :: G, h => exact ⟨f1, f2, f3, f4, G, rfl, by simp at h; omega⟩
  | [], h => simp at h
  | [_], h => simp at h; omega
  | [_, _], h => simp at h; omega
  | [_, _, _], h => simp at h; omega
theorem net_meets : ∀ {M : List Meet} {at_ : List Int} {n : Int} {F : List Int} (v : Int), F.length = 4 * M.length → net (meetE at_ n M) F v = outM at_ n M F v - innM n M F v
  | [], at_, n, F, v, h => by simp [meetE, net, outM, innM]
  | m :: M, at_, n, F, v, h => by
    obtain ⟨f1, f2, f3, f4, G, rfl, hG⟩ := four (by simpa using h)
    simp only [meetE, net, outM, innM]
    rw [net_meets v hG]
    repeat' split
    all_goals omega
def outW (at_ : List Int) (n : Int) (M : List Meet) (k : Nat) (v : Int) : List Due → Int
  | [] => 0
  | d :: D => (if k ≤ d.u ∧ v = at' (atJ at_ n M (d.u - k)) d.q then d.x else 0) + outW at_ n M k v D
def now' (at_ : List Int) (k : Nat) (v : Int) : List Due → Int
  | [] => 0
  | d :: D => (if d.u = k ∧ v = at' at_ d.q then d.x else 0) + now' at_ k v D
theorem outW_cons {at_ : List Int} {n : Int} {m : Meet} {M : List Meet} {k : Nat} {v : Int} : ∀ {D : List Due}, outW at_ n (m :: M) k v D = now' at_ k v D + outW (step' at_ m n) (n + 2) M (k + 1) v D
  | [] => by simp [outW, now']
  | d :: D => by
    simp only [outW, now', outW_cons (D := D)]
    by_cases h1 : d.u = k
    · subst h1
      rw [Nat.sub_self, if_neg (c := d.u + 1 ≤ d.u ∧ _) (fun h => by omega)]
      simp only [atJ, Nat.le_refl, true_and]; omega
    · by_cases h2 : k ≤ d.u
      · obtain ⟨j, hj⟩ : ∃ j, d.u - k = j + 1 := ⟨d.u - k - 1, by omega⟩
        rw [hj, show d.u - (k + 1) = j by omega]
        simp only [atJ, h1, h2, false_and, if_false, true_and, show k + 1 ≤ d.u by omega]; omega
      · rw [if_neg (fun h => h2 h.1), if_neg (fun h => h1 h.1), if_neg (fun h => by have := h.1; omega)]; omega
theorem outW_nil {at_ : List Int} {n : Int} {k : Nat} {v : Int} : ∀ {D : List Due}, (∀ d ∈ D, d.u ≤ k) → outW at_ n [] k v D = now' at_ k v D
  | [], _ => rfl
  | d :: D, h => by
    have h1 := h d (by simp)
    simp only [outW, now', outW_nil (D := D) fun e he => h e (by simp [he])]
    by_cases h2 : d.u = k
    · subst h2; simp [atJ]
    · rw [if_neg (fun h => by have := h.1; omega), if_neg (fun h => h2 h.1)]
theorem net_ends {at_ : List Int} {n : Int} {M : List Meet} {v : Int} (hv : v ≠ 1) : ∀ {W : List Want} {X : List Int}, X.length = W.length → net (W.map (endE at_ n M)) X v = outW at_ n M 0 v (dues M W X)
  | [], [], _ => by simp [net, outW, dues]
  | [], _ :: _, h => by simp at h
  | _ :: _, [], h => by simp at h
  | w :: W, x :: X, h => by
    simp only [List.map_cons, net, dues, outW, endE]
    rw [net_ends hv (by simpa using h), if_neg hv]
    simp
theorem net_ends1 {at_ : List Int} {n : Int} {M : List Meet} : ∀ {W : List Want} {X : List Int}, X.length = W.length → (∀ w ∈ W, at' (atJ at_ n M (upto M w.day)) w.key ≠ 1) → net (W.map (endE at_ n M)) X 1 = - sumI X
  | [], [], _, _ => by simp [net, sumI]
  | [], _ :: _, h, _ => by simp at h
  | _ :: _, [], h, _ => by simp at h
  | w :: W, x :: X, h, hw => by
    simp only [List.map_cons, net, endE, sumI]
    rw [net_ends1 (by simpa using h) fun w hw' => hw w (by simp [hw']), if_neg (fun e => hw w (by simp) e.symm)]
    simp; omega
theorem net_stock : ∀ {S X : List Int} {i v : Int}, X.length = S.length → v ≠ 0 → net (stockE i S) X v = - (if i ≤ v ∧ v < i + S.length then at' X (v - i) else 0)
  | [], [], i, v, _, _ => by simp only [stockE, net]; rw [if_neg (by simp)]; rfl
  | [], _ :: _, i, v, h, _ => by simp at h
  | _ :: _, [], i, v, h, _ => by simp at h
  | s :: S, x :: X, i, v, h, hv => by
    simp only [stockE, net]
    rw [net_stock (by simpa using h) hv, if_neg hv]
    by_cases e : v = i
    · subst e
      rw [if_pos rfl, if_neg (by omega), if_pos (by simp; omega)]
      simp [at']
    · rw [if_neg e]
      by_cases h1 : i ≤ v ∧ v < i + ((s :: S).length : Nat)
      · rw [if_pos (by simp at h1; omega), if_pos h1]
        have : (v - i).toNat = (v - (i + 1)).toNat + 1 := by omega
        unfold at'
        rw [this, List.getElem?_cons_succ]; omega
      · rw [if_neg (by simp at h1; omega), if_neg h1]; omega
/-! ### What is needed -/
def need (D : List Due) : Nat → List Meet → List Int → Int → Int
  | k, m :: M, f1 :: f2 :: f3 :: f4 :: F, q => give k q D + (if q = m.a then f1 + f3 else if q = m.b then f2 + f4 else need D (k + 1) M F q)
  | k, _, _, q => give k q D
structure DueOk (p k K : Nat) (d : Due) : Prop where
  x0 : 0 ≤ d.x
  xc : d.x ≤ d.c
  q0 : 0 ≤ d.q
  q1 : d.q < p
  u : d.u ≤ K
theorem now'_give {at_ : List Int} {p : Nat} {n : Int} {k K k0 : Nat} (h : Nodes at_ p n) {q : Int} (h0 : 0 ≤ q) (h1 : q < p) : ∀ {D : List Due}, (∀ d ∈ D, DueOk p k0 K d) → now' at_ k (at' at_ q) D = give k q D
  | [], _ => rfl
  | d :: D, hD => by
    have hd := hD d (by simp)
    simp only [now', give, now'_give h h0 h1 (D := D) (fun e he => hD e (by simp [he]))]
    by_cases e : d.u = k
    · by_cases e2 : d.q = q
      · simp [e, e2]
      · rw [if_neg (fun h' => e2 (h.inj q d.q h0 h1 hd.q0 hd.q1 h'.2).symm), if_neg (fun h' => e2 h'.2)]
    · simp [e]
theorem now'_zero {at_ : List Int} {p : Nat} {k K k0 : Nat} {v : Int} (h : ∀ q : Int, 0 ≤ q → q < p → at' at_ q ≠ v) : ∀ {D : List Due}, (∀ d ∈ D, DueOk p k0 K d) → now' at_ k v D = 0
  | [], _ => rfl
  | d :: D, hD => by
    have hd := hD d (by simp)
    simp only [now', now'_zero h (D := D) (fun e he => hD e (by simp [he]))]
    rw [if_neg (fun h' => h d.q hd.q0 hd.q1 h'.2.symm)]; omega
/-- A node that was left has nothing to give any more. -/
theorem out_left {p K k0 : Nat} {D : List Due} (hD : ∀ d ∈ D, DueOk p k0 K d) : ∀ {M : List Meet} {at_ : List Int} {n v : Int} {k : Nat} {F : List Int}, (∀ m ∈ M, MeetOk p m) → Nodes at_ p n → 2 ≤ n → F.length = 4 * M.length → K = k + M.length → v < n → (∀ q : Int, 0 ≤ q → q < p → at' at_ q ≠ v) →
    outM at_ n M F v + outW at_ n M k v D = 0
  | [], at_, n, v, k, F, _, h, hn, hF, hK, hv, hne => by
    simp only [outM]
    rw [outW_nil fun d hd => by have := (hD d hd).u; simp at hK; omega, now'_zero hne hD]; omega
  | m :: M, at_, n, v, k, F, hM, h, hn, hF, hK, hv, hne => by
    obtain ⟨f1, f2, f3, f4, G, rfl, hG⟩ := four (by simpa using hF)
    have hm := hM m (by simp)
    simp only [outM]
    rw [outW_cons, now'_zero hne hD, if_neg (fun e => hne m.a hm.a0 hm.a1 e.symm), if_neg (fun e => hne m.b hm.b0 hm.b1 e.symm)]
    have ih := out_left hD (M := M) (at_ := step' at_ m n) (n := n + 2) (v := v) (k := k + 1) (F := G) (fun m' hm' => hM m' (by simp [hm'])) (h.step hm hn) (by omega) hG (by simp at hK; omega) (by omega) (fun q h0 h1 => by
      rw [step'_at h.len hm q h0]
      split
      · omega
      · split
        · omega
        · exact hne q h0 h1)
    omega
theorem out_need {p K k0 : Nat} {D : List Due} (hD : ∀ d ∈ D, DueOk p k0 K d) : ∀ {M : List Meet} {at_ : List Int} {n : Int} {k : Nat} {F : List Int}, (∀ m ∈ M, MeetOk p m) → Nodes at_ p n → 2 ≤ n → F.length = 4 * M.length → K = k + M.length → ∀ q : Int, 0 ≤ q → q < p →
    outM at_ n M F (at' at_ q) + outW at_ n M k (at' at_ q) D = need D k M F q
  | [], at_, n, k, F, _, h, hn, hF, hK, q, h0, h1 => by
    simp only [outM, need]
    rw [outW_nil fun d hd => by have := (hD d hd).u; simp at hK; omega, now'_give h h0 h1 hD]; omega
  | m :: M, at_, n, k, F, hM, h, hn, hF, hK, q, h0, h1 => by
    obtain ⟨f1, f2, f3, f4, G, rfl, hG⟩ := four (by simpa using hF)
    have hm := hM m (by simp)
    have hM' : ∀ m' ∈ M, MeetOk p m' := fun m' hm' => hM m' (by simp [hm'])
    have hst := h.step hm hn
    simp only [outM, need]
    rw [outW_cons, now'_give h h0 h1 hD]
    have ea : at' at_ q = at' at_ m.a → q = m.a := h.inj q m.a h0 h1 hm.a0 hm.a1
    have eb : at' at_ q = at' at_ m.b → q = m.b := h.inj q m.b h0 h1 hm.b0 hm.b1
    have hne := hm.ne
    have hlt := h.lt q h0 h1
    by_cases q1 : q = m.a
    · have hl := out_left hD (M := M) (at_ := step' at_ m n) (n := n + 2) (v := at' at_ q) (k := k + 1) (F := G) hM' hst (by omega) hG (by simp at hK; omega) (by omega) (fun r r0 r1 => by
        rw [step'_at h.len hm r r0]
        split
        · omega
        · split
          · omega
          · rename_i n1 n2
            intro e
            exact n2 ((h.inj r q r0 r1 h0 h1 e).trans q1))
      rw [if_pos (by rw [q1]), if_neg (fun e => hne (q1.symm.trans (eb e))), if_pos q1]; omega
    · by_cases q2 : q = m.b
      · have hl := out_left hD (M := M) (at_ := step' at_ m n) (n := n + 2) (v := at' at_ q) (k := k + 1) (F := G) hM' hst (by omega) hG (by simp at hK; omega) (by omega) (fun r r0 r1 => by
          rw [step'_at h.len hm r r0]
          split
          · omega
          · split
            · omega
            · rename_i n1 n2
              intro e
              exact n1 ((h.inj r q r0 r1 h0 h1 e).trans q2))
        rw [if_neg (fun e => q1 (ea e)), if_pos (by rw [q2]), if_neg q1, if_pos q2]; omega
      · have ih := out_need hD (M := M) (at_ := step' at_ m n) (n := n + 2) (k := k + 1) (F := G) hM' hst (by omega) hG (by simp at hK; omega) q h0 h1
        rw [step'_at h.len hm q h0, if_neg q2, if_neg q1] at ih
        rw [if_neg (fun e => q1 (ea e)), if_neg (fun e => q2 (eb e)), if_neg q1, if_neg q2, ← ih]; omega
/-- At each meeting what enters the new nodes is what is needed there. -/
def Cons (D : List Due) : Nat → List Meet → List Int → Prop
  | k, m :: M, f1 :: f2 :: f3 :: f4 :: F => (f1 + f4 = need D (k + 1) M F m.a ∧ f2 + f3 = need D (k + 1) M F m.b) ∧ Cons D (k + 1) M F
  | _, _, _ => True
theorem inn_low : ∀ {M : List Meet} {n v : Int} {F : List Int}, v < n → innM n M F v = 0
  | [], n, v, F, h => by simp [innM]
  | m :: M, n, v, F, h => by
    match F with
    | f1 :: f2 :: f3 :: f4 :: G =>
      simp only [innM]
      rw [inn_low (by omega), if_neg (by omega), if_neg (by omega)]; omega
    | [] => simp [innM]
    | [_] => simp [innM]
    | [_, _] => simp [innM]
    | [_, _, _] => simp [innM]
theorem cons_of {p K k0 : Nat} {D : List Due} (hD : ∀ d ∈ D, DueOk p k0 K d) : ∀ {M : List Meet} {at_ : List Int} {n : Int} {k : Nat} {F : List Int}, (∀ m ∈ M, MeetOk p m) → Nodes at_ p n → 2 ≤ n → F.length = 4 * M.length → K = k + M.length →
    (∀ v : Int, n ≤ v → v < n + 2 * M.length → outM at_ n M F v + outW at_ n M k v D = innM n M F v) → Cons D k M F
  | [], at_, n, k, F, _, _, _, _, _, _ => by simp [Cons]
  | m :: M, at_, n, k, F, hM, h, hn, hF, hK, hv => by
    obtain ⟨f1, f2, f3, f4, G, rfl, hG⟩ := four (by simpa using hF)
    have hm := hM m (by simp)
    have hM' : ∀ m' ∈ M, MeetOk p m' := fun m' hm' => hM m' (by simp [hm'])
    have hst := h.step hm hn
    have hne := hm.ne
    have red : ∀ v : Int, n ≤ v → outM at_ n (m :: M) (f1 :: f2 :: f3 :: f4 :: G) v + outW at_ n (m :: M) k v D = outM (step' at_ m n) (n + 2) M G v + outW (step' at_ m n) (n + 2) M (k + 1) v D := fun v hnv => by
      simp only [outM]
      rw [outW_cons, now'_zero (fun q q0 q1 => by have := h.lt q q0 q1; omega) hD, if_neg (by have := h.lt m.a hm.a0 hm.a1; omega), if_neg (by have := h.lt m.b hm.b0 hm.b1; omega)]; omega
    have na := out_need hD (M := M) (at_ := step' at_ m n) (n := n + 2) (k := k + 1) (F := G) hM' hst (by omega) hG (by simp at hK; omega) m.a hm.a0 hm.a1
    have nb := out_need hD (M := M) (at_ := step' at_ m n) (n := n + 2) (k := k + 1) (F := G) hM' hst (by omega) hG (by simp at hK; omega) m.b hm.b0 hm.b1
    rw [step'_at h.len hm m.a hm.a0, if_neg hne, if_pos rfl] at na
    rw [step'_at h.len hm m.b hm.b0, if_pos rfl] at nb
    have va := hv n (by omega) (by simp; omega)
    have vb := hv (n + 1) (by omega) (by simp; omega)
    rw [red _ (by omega)] at va vb
    simp only [innM] at va vb
    rw [inn_low (by omega), if_pos trivial, if_neg (by omega)] at va
    rw [inn_low (by omega), if_neg (by omega), if_pos trivial] at vb
    refine ⟨⟨by omega, by omega⟩, cons_of hD (M := M) (at_ := step' at_ m n) (n := n + 2) (k := k + 1) (F := G) hM' hst (by omega) hG (by simp at hK; omega) fun v h1 h2 => ?_⟩
    have := hv v (by omega) (by simp; omega)
    rw [red v (by omega)] at this
    simp only [innM] at this
    rw [if_neg (by omega), if_neg (by omega)] at this
    omega
/-! ### The plan of a flow -/
def passK : Nat → List Meet → List Int → List Pass
  | k, m :: M, f1 :: f2 :: f3 :: f4 :: F => if 0 < f3 - f4 then ⟨k, m.a, m.b, f3 - f4⟩ :: passK (k + 1) M F else if f3 - f4 < 0 then ⟨k, m.b, m.a, - (f3 - f4)⟩ :: passK (k + 1) M F else passK (k + 1) M F
  | _, _, _ => []
theorem passK_ge : ∀ {M : List Meet} {k : Nat} {F : List Int}, ∀ x ∈ passK k M F, (k : Int) ≤ x.meet
  | [], k, F, x, hx => by simp [passK] at hx
  | m :: M, k, F, x, hx => by
    match F, hx with
    | f1 :: f2 :: f3 :: f4 :: G, hx =>
      have ih : ∀ x ∈ passK (k + 1) M G, (k : Int) ≤ x.meet := fun x hx => by have := passK_ge x hx; omega
      simp only [passK] at hx
      split at hx
      · rcases List.mem_cons.1 hx with rfl | hx
        · simp
        · exact ih x hx
      · split at hx
        · rcases List.mem_cons.1 hx with rfl | hx
          · simp
          · exact ih x hx
        · exact ih x hx
    | [], hx => simp [passK] at hx
    | [_], hx => simp [passK] at hx
    | [_, _], hx => simp [passK] at hx
    | [_, _, _], hx => simp [passK] at hx
theorem runP_later {k : Nat} {P : List Pass} {now : List Int} (h : ∀ x ∈ P, (k : Int) < x.meet) : runP k P now = some (now, P) := by
  cases P with
  | nil => rfl
  | cons x P =>
    have := h x (by simp)
    simp only [runP]
    rw [if_neg (by omega)]
theorem need_nonneg {D : List Due} (hD : ∀ d ∈ D, 0 ≤ d.x) : ∀ {M : List Meet} {k : Nat} {F : List Int}, (∀ x ∈ F, 0 ≤ x) → ∀ q, 0 ≤ need D k M F q
  | [], k, F, hF, q => by simp only [need]; exact give_nonneg hD
  | m :: M, k, F, hF, q => by
    match F, hF with
    | f1 :: f2 :: f3 :: f4 :: G, hF =>
      have h1 := hF f1 (by simp)
      have h2 := hF f2 (by simp)
      have h3 := hF f3 (by simp)
      have h4 := hF f4 (by simp)
      have ih := need_nonneg hD (M := M) (k := k + 1) (F := G) (fun x hx => hF x (by simp [hx])) q
      have hg := give_nonneg (k := k) (q := q) hD
      simp only [need]
      split
      · omega
      · split <;> omega
    | [], hF => simp only [need]; exact give_nonneg hD
    | [_], hF => simp only [need]; exact give_nonneg hD
    | [_, _], hF => simp only [need]; exact give_nonneg hD
    | [_, _, _], hF => simp only [need]; exact give_nonneg hD
theorem plan_runs {p K k0 : Nat} {D : List Due} (hD : ∀ d ∈ D, DueOk p k0 K d) : ∀ {M : List Meet} {k : Nat} {F : List Int} {now : List Int}, (∀ m ∈ M, MeetOk p m) → F.length = 4 * M.length → (∀ x ∈ F, 0 ≤ x) → Cons D k M F → now.length = p →
    (∀ q : Int, 0 ≤ q → q < p → need D k M F q ≤ at' now q) → ∃ r, runK D k (M.length + 1) (passK k M F) now = some r
  | [], k, F, now, hM, hF, hpos, hc, hl, hneed => by
    obtain ⟨r, hr, _⟩ := runW_spec (k := k) (D := D) (now := now) (fun d hd => by have := hD d hd; exact ⟨this.x0, this.q0, by have := this.q1; omega⟩) (fun q h0 h1 => by have := hneed q h0 (by omega); simpa [need] using this)
    refine ⟨r, ?_⟩
    simp only [List.length_nil, runK, hr, passK, runP]
  | m :: M, k, F, now, hM, hF, hpos, hc, hl, hneed => by
    obtain ⟨f1, f2, f3, f4, G, rfl, hG⟩ := four (by simpa using hF)
    have hm := hM m (by simp)
    have hM' : ∀ m' ∈ M, MeetOk p m' := fun m' hm' => hM m' (by simp [hm'])
    have hne := hm.ne
    have hx0 : ∀ d ∈ D, 0 ≤ d.x := fun d hd => (hD d hd).x0
    have p1 := hpos f1 (by simp)
    have p2 := hpos f2 (by simp)
    have p3 := hpos f3 (by simp)
    have p4 := hpos f4 (by simp)
    have hposG : ∀ x ∈ G, 0 ≤ x := fun x hx => hpos x (by simp [hx])
    obtain ⟨⟨c1, c2⟩, c3⟩ := hc
    have hrest : ∀ q : Int, 0 ≤ (if q = m.a then f1 + f3 else if q = m.b then f2 + f4 else need D (k + 1) M G q) := fun q => by
      have := need_nonneg hx0 (M := M) (k := k + 1) hposG q
      split
      · omega
      · split <;> omega
    obtain ⟨r, hr, hrq⟩ := runW_spec (k := k) (D := D) (now := now) (fun d hd => by have := hD d hd; exact ⟨this.x0, this.q0, by have := this.q1; omega⟩) (fun q h0 h1 => by
      have := hneed q h0 (by omega)
      have h2 := hrest q
      simp only [need] at this; omega)
    have hrl := runW_len hr
    have hleft : ∀ q : Int, 0 ≤ q → q < p → (if q = m.a then f1 + f3 else if q = m.b then f2 + f4 else need D (k + 1) M G q) ≤ at' r q := fun q h0 h1 => by
      have := hneed q h0 h1
      simp only [need] at this
      rw [hrq q h0 (by omega)]; omega
    have ha := hleft m.a hm.a0 hm.a1
    have hb := hleft m.b hm.b0 hm.b1
    rw [if_pos rfl] at ha
    rw [if_neg (fun e => hne e.symm), if_pos rfl] at hb
    have ha1 := hm.a1
    have hb1 := hm.b1
    have ha0 := hm.a0
    have hb0 := hm.b0
    have later : ∀ x ∈ passK (k + 1) M G, (k : Int) < x.meet := fun x hx => by have := passK_ge x hx; omega
    simp only [List.length_cons, runK, hr, passK]
    by_cases g1 : 0 < f3 - f4
    · rw [if_pos g1]
      simp only [runP, if_true]
      rw [if_neg (by omega)]
      have e1 := at'_put' (l := r) (i := m.a) (at' r m.a - (f3 - f4)) m.b hm.a0 (by omega) hm.b0
      rw [if_neg (fun e => hne e.symm)] at e1
      simp only [e1]
      refine plan_runs hD (M := M) (k := k + 1) (F := G) hM' hG hposG c3 (by simp [put'_len, hrl, hl]) fun q h0 h1 => ?_
      rw [at'_put' _ _ hm.b0 (by rw [put'_len]; omega) h0, at'_put' _ _ hm.a0 (by omega) h0]
      have hq := hleft q h0 h1
      split
      · rename_i e; subst e; omega
      · split
        · rename_i e; subst e; omega
        · rename_i e2 e1
          rw [if_neg e1, if_neg e2] at hq; exact hq
    · rw [if_neg g1]
      by_cases g2 : f3 - f4 < 0
      · rw [if_pos g2]
        simp only [runP, if_true]
        rw [if_neg (by omega)]
        have e1 := at'_put' (l := r) (i := m.b) (at' r m.b - - (f3 - f4)) m.a hm.b0 (by omega) hm.a0
        rw [if_neg hne] at e1
        simp only [e1]
        refine plan_runs hD (M := M) (k := k + 1) (F := G) hM' hG hposG c3 (by simp [put'_len, hrl, hl]) fun q h0 h1 => ?_
        rw [at'_put' _ _ hm.a0 (by rw [put'_len]; omega) h0, at'_put' _ _ hm.b0 (by omega) h0]
        have hq := hleft q h0 h1
        split
        · rename_i e; subst e; omega
        · split
          · rename_i e; subst e; omega
          · rename_i e1 e2
            rw [if_neg e1, if_neg e2] at hq; exact hq
      · rw [if_neg g2, runP_later later]
        refine plan_runs hD (M := M) (k := k + 1) (F := G) hM' hG hposG c3 (by omega) fun q h0 h1 => ?_
        have hq := hleft q h0 h1
        by_cases q1 : q = m.a
        · subst q1; omega
        · by_cases q2 : q = m.b
          · subst q2; omega
          · rw [if_neg q1, if_neg q2] at hq; exact hq
end Pl

/- Plans, plainly: no plan that works gives more than a cut lets through; what is left. -/
namespace Pl
set_option linter.unusedVariables false
set_option linter.unusedSimpArgs false
def tot (k : Nat) : List Due → Int
  | [] => 0
  | d :: D => (if k ≤ d.u then d.x else 0) + tot k D
def totNow (k : Nat) : List Due → Int
  | [] => 0
  | d :: D => (if d.u = k then d.x else 0) + totNow k D
theorem tot_cons (k : Nat) : ∀ D : List Due, tot k D = totNow k D + tot (k + 1) D
  | [] => rfl
  | d :: D => by
    simp only [tot, totNow, tot_cons k D]
    by_cases h1 : d.u = k
    · rw [if_pos (by omega), if_pos h1, if_neg (by omega)]; omega
    · by_cases h2 : k ≤ d.u
      · rw [if_pos h2, if_neg h1, if_pos (by omega)]; omega
      · rw [if_neg h2, if_neg h1, if_neg (by omega)]; omega
theorem tot_end {k : Nat} : ∀ {D : List Due}, (∀ d ∈ D, d.u ≤ k) → tot (k + 1) D = 0
  | [], _ => rfl
  | d :: D, h => by
    have := h d (by simp)
    simp only [tot, tot_end (D := D) fun e he => h e (by simp [he])]
    rw [if_neg (by omega)]; omega
def capW (at_ : List Int) (n : Int) (M : List Meet) (k : Nat) (c : Int → Bool) : List Due → Int
  | [] => 0
  | d :: D => (if k ≤ d.u then (if c (at' (atJ at_ n M (d.u - k)) d.q) then d.c else 0) else 0) + capW at_ n M k c D
def capNow (at_ : List Int) (k : Nat) (c : Int → Bool) : List Due → Int
  | [] => 0
  | d :: D => (if d.u = k then (if c (at' at_ d.q) then d.c else 0) else 0) + capNow at_ k c D
theorem capW_cons {at_ : List Int} {n : Int} {m : Meet} {M : List Meet} {k : Nat} {c : Int → Bool} : ∀ {D : List Due}, capW at_ n (m :: M) k c D = capNow at_ k c D + capW (step' at_ m n) (n + 2) M (k + 1) c D
  | [] => rfl
  | d :: D => by
    simp only [capW, capNow, capW_cons (D := D)]
    by_cases h1 : d.u = k
    · subst h1
      have e1 : ¬ (d.u + 1 ≤ d.u) := by omega
      simp only [Nat.sub_self, e1, Nat.le_refl, if_true, if_false, atJ]; omega
    · by_cases h2 : k ≤ d.u
      · obtain ⟨j, hj⟩ : ∃ j, d.u - k = j + 1 := ⟨d.u - k - 1, by omega⟩
        have e1 : k + 1 ≤ d.u := by omega
        simp only [hj, show d.u - (k + 1) = j by omega, h1, h2, e1, if_true, if_false, atJ]; omega
      · rw [if_neg h2, if_neg h1, if_neg (by omega)]; omega
theorem capW_nil {at_ : List Int} {n : Int} {k : Nat} {c : Int → Bool} : ∀ {D : List Due}, (∀ d ∈ D, d.u ≤ k) → capW at_ n [] k c D = capNow at_ k c D
  | [], _ => rfl
  | d :: D, h => by
    have h1 := h d (by simp)
    simp only [capW, capNow, capW_nil (D := D) fun e he => h e (by simp [he])]
    by_cases h2 : d.u = k
    · subst h2; simp [atJ]
    · rw [if_neg (by omega), if_neg h2]
/-- What lies beyond the cut. -/
def bs (c : Int → Bool) (at_ now : List Int) (p : Nat) : Int := sumN p (fun q => if c (at' at_ q) then 0 else at' now q)
theorem stage_le {c : Int → Bool} {at_ : List Int} {p K k0 k : Nat} : ∀ {D : List Due}, (∀ d ∈ D, DueOk p k0 K d) → totNow k D ≤ capNow at_ k c D + sumN p (fun q => if c (at' at_ q) then 0 else give k q D)
  | [], _ => by
    have : sumN p (fun q => if c (at' at_ q) then 0 else give k q []) = 0 := by
      refine (sumN_congr (h := fun _ => 0) fun v _ => ?_).trans (sumN_zero p); simp [give]
    rw [this]; simp [totNow, capNow]
  | d :: D, h => by
    have hd := h d (by simp)
    have ih := stage_le (c := c) (at_ := at_) (k := k) (D := D) fun e he => h e (by simp [he])
    have e : sumN p (fun q => if c (at' at_ q) then 0 else give k q (d :: D)) = sumN p (fun q => (if q = d.q then (if d.u = k then (if c (at' at_ d.q) then 0 else d.x) else 0) else 0) + (if c (at' at_ q) then 0 else give k q D)) := by
      refine sumN_congr fun v _ => ?_
      simp only [give]
      by_cases h1 : (v : Int) = d.q
      · rw [h1, if_pos rfl]
        by_cases h2 : d.u = k <;> simp [h2] <;> split <;> omega
      · have h3 : ¬ (d.u = k ∧ d.q = (v : Int)) := fun h' => h1 h'.2.symm
        simp only [if_neg h1, if_neg h3]; split <;> omega
    rw [e, sumN_add, sumN_one p d.q hd.q0 hd.q1]
    simp only [totNow, capNow]
    have := hd.x0
    have := hd.xc
    split
    · split <;> omega
    · omega
theorem sumN_diff2 {p : Nat} {g1 g2 : Int → Int} {a b : Int} (ha : 0 ≤ a ∧ a < p) (hb : 0 ≤ b ∧ b < p) (hne : a ≠ b) (h : ∀ v : Nat, v < p → (v : Int) ≠ a → (v : Int) ≠ b → g2 v = g1 v) : sumN p g2 = sumN p g1 + (g2 a - g1 a) + (g2 b - g1 b) := by
  have := sumN_two p (fun v => g2 v - g1 v) a b ha hb hne fun v hv h1 h2 => by have := h v hv h1 h2; omega
  rw [sumN_sub] at this
  omega
theorem sumN_le {p : Nat} {g1 g2 : Int → Int} (h : ∀ v : Nat, v < p → g1 v ≤ g2 v) : sumN p g1 ≤ sumN p g2 := by
  induction p with
  | zero => simp [sumN]
  | succ p ih => have := h p (by omega); have := ih fun v hv => h v (by omega); simp only [sumN]; omega
theorem sumN_mem {p : Nat} {g : Int → Int} (h : ∀ v : Nat, v < p → 0 ≤ g v) {q : Int} (h0 : 0 ≤ q) (h1 : q < p) : g q ≤ sumN p g := by
  have := sumN_le (p := p) (g1 := fun v => if v = q then g q else 0) (g2 := g) fun v hv => by
    split
    · rename_i e; rw [e]; omega
    · exact h v hv
  rw [sumN_one p q h0 h1] at this; exact this
theorem sumN_two_le {p : Nat} {g : Int → Int} (h : ∀ v : Nat, v < p → 0 ≤ g v) {a b : Int} (ha : 0 ≤ a ∧ a < p) (hb : 0 ≤ b ∧ b < p) (hne : a ≠ b) : g a + g b ≤ sumN p g := by
  have := sumN_le (p := p) (g1 := fun v => (if v = a then g a else 0) + (if v = b then g b else 0)) (g2 := g) fun v hv => by
    by_cases h1 : (v : Int) = a
    · rw [if_pos h1, if_neg (by omega), h1]; omega
    · by_cases h2 : (v : Int) = b
      · rw [if_neg h1, if_pos h2, h2]; omega
      · rw [if_neg h1, if_neg h2]; have := h v hv; omega
  rw [sumN_add, sumN_one p a ha.1 ha.2, sumN_one p b hb.1 hb.2] at this; exact this
structure PassOk (k : Nat) (M : List Meet) (P : List Pass) : Prop where
  asc : P.Pairwise (fun x y => x.meet < y.meet)
  ok : ∀ x ∈ P, (k : Int) ≤ x.meet ∧ ∃ m, M[(x.meet - k).toNat]? = some m ∧ 1 ≤ x.n ∧ x.n ≤ m.cap ∧ ((x.fr = m.a ∧ x.to = m.b) ∨ (x.fr = m.b ∧ x.to = m.a))
theorem runP_eff {p k : Nat} {m : Meet} {M : List Meet} {P P2 : List Pass} {now now2 : List Int} (hm : MeetOk p m) (hP : PassOk k (m :: M) P) (hl : now.length = p) (hn : ∀ q : Int, 0 ≤ q → q < p → 0 ≤ at' now q) (h : runP k P now = some (now2, P2)) :
    ∃ g, (- m.cap ≤ g ∧ g ≤ m.cap) ∧ (∀ q : Int, 0 ≤ q → at' now2 q = if q = m.a then at' now m.a - g else if q = m.b then at' now m.b + g else at' now q) ∧ PassOk (k + 1) M P2 ∧ (∀ q : Int, 0 ≤ q → q < p → 0 ≤ at' now2 q) := by
  have hne := hm.ne
  have c0 := hm.c0
  have a0 := hm.a0
  have a1 := hm.a1
  have b0 := hm.b0
  have b1 := hm.b1
  have later : ∀ Q : List Pass, Q.Pairwise (fun x y => x.meet < y.meet) → (∀ x ∈ Q, x ∈ P) → (∀ x ∈ Q, (k : Int) < x.meet) → PassOk (k + 1) M Q := fun Q h1 h2 h3 => ⟨h1, fun x hx => by
    obtain ⟨h4, m', h5, h6⟩ := hP.ok x (h2 x hx)
    have := h3 x hx
    refine ⟨by omega, m', ?_, h6⟩
    have e : (x.meet - k).toNat = (x.meet - (k + 1 : Nat)).toNat + 1 := by omega
    rw [e, List.getElem?_cons_succ] at h5; exact h5⟩
  cases P with
  | nil =>
    simp only [runP] at h; cases h
    refine ⟨0, by omega, fun q h0 => ?_, ⟨by simp, fun x hx => by cases hx⟩, hn⟩
    split
    · rename_i e; rw [e]; omega
    · split
      · rename_i e; rw [e]; omega
      · rfl
  | cons x P =>
    have hasc := List.pairwise_cons.1 hP.asc
    obtain ⟨h4, m', h5, h6, h7, h8⟩ := hP.ok x (by simp)
    simp only [runP] at h
    split at h
    · rename_i hk
      split at h
      · cases h
      · rename_i hneg
        cases h
        rw [hk, Int.sub_self] at h5
        simp at h5; subst h5
        have hP2 := later P2 hasc.2 (fun y hy => by simp [hy]) (fun y hy => by have := hasc.1 y hy; omega)
        rcases h8 with ⟨e1, e2⟩ | ⟨e1, e2⟩
        · rw [e1] at hneg
          rw [e1, e2]
          have key : ∀ q : Int, 0 ≤ q → at' (put' (put' now m.a (at' now m.a - x.n)) m.b (at' (put' now m.a (at' now m.a - x.n)) m.b + x.n)) q = if q = m.a then at' now m.a - x.n else if q = m.b then at' now m.b + x.n else at' now q := fun q h0 => by
            have ee := at'_put' (l := now) (i := m.a) (at' now m.a - x.n) m.b a0 (by omega) b0
            rw [if_neg (fun e => hne e.symm)] at ee
            rw [ee, at'_put' _ _ b0 (by rw [put'_len]; omega) h0, at'_put' _ _ a0 (by omega) h0]
            by_cases q1 : q = m.a
            · rw [if_neg (show ¬ q = m.b by omega), if_pos q1, if_pos q1]
            · rw [if_neg q1, if_neg q1]
          refine ⟨x.n, by omega, key, hP2, fun q h0 h1 => ?_⟩
          rw [key q h0]
          have := hn q h0 h1
          have := hn m.b b0 b1
          split
          · omega
          · split <;> omega
        · rw [e1] at hneg
          rw [e1, e2]
          have key : ∀ q : Int, 0 ≤ q → at' (put' (put' now m.b (at' now m.b - x.n)) m.a (at' (put' now m.b (at' now m.b - x.n)) m.a + x.n)) q = if q = m.a then at' now m.a - -x.n else if q = m.b then at' now m.b + -x.n else at' now q := fun q h0 => by
            have ee := at'_put' (l := now) (i := m.b) (at' now m.b - x.n) m.a b0 (by omega) a0
            rw [if_neg hne] at ee
            rw [ee, at'_put' _ _ a0 (by rw [put'_len]; omega) h0, at'_put' _ _ b0 (by omega) h0]
            by_cases q1 : q = m.a
            · rw [if_pos q1, if_pos q1]; omega
            · rw [if_neg q1, if_neg q1]; split <;> omega
          refine ⟨-x.n, by omega, key, hP2, fun q h0 h1 => ?_⟩
          rw [key q h0]
          have := hn q h0 h1
          have := hn m.a a0 a1
          split
          · omega
          · split <;> omega
    · rename_i hk
      cases h
      refine ⟨0, by omega, fun q h0 => ?_, later _ hP.asc (fun y hy => hy) (fun y hy => ?_), hn⟩
      · split
        · rename_i e; rw [e]; omega
        · split
          · rename_i e; rw [e]; omega
          · rfl
      · rcases List.mem_cons.1 hy with rfl | hy
        · omega
        · have := hasc.1 y hy; omega
theorem passOk_nil {k : Nat} {P : List Pass} (h : PassOk k [] P) : P = [] := by
  cases P with
  | nil => rfl
  | cons x P => obtain ⟨_, m, h1, _⟩ := h.ok x (by simp); simp at h1
theorem cut_bound {p K k0 : Nat} {D : List Due} (hD : ∀ d ∈ D, DueOk p k0 K d) (c : Int → Bool) : ∀ {M : List Meet} {at_ : List Int} {n : Int} {k : Nat} {P : List Pass} {now r : List Int}, (∀ m ∈ M, MeetOk p m) → at_.length = p → PassOk k M P → now.length = p → (∀ q : Int, 0 ≤ q → q < p → 0 ≤ at' now q) →
    sumN p (at' now) ≤ maxC → K = k + M.length → runK D k (M.length + 1) P now = some r → tot k D ≤ capC c (meetE at_ n M) + capW at_ n M k c D + bs c at_ now p
  | [], at_, n, k, P, now, r, hM, hal, hP, hl, hn, hs, hK, h => by
    simp only [List.length_nil, runK] at h
    split at h
    · cases h
    · rename_i now1 h1
      have hu : ∀ d ∈ D, d.u ≤ k := fun d hd => by have := (hD d hd).u; simp at hK; omega
      obtain ⟨q1, q2⟩ := runW_back (fun d hd => by have := hD d hd; exact ⟨this.x0, this.q0, by have := this.q1; omega⟩) (fun q h0 hh => hn q h0 (by omega)) h1
      rw [tot_cons, tot_end hu, capW_nil hu]
      have hst := stage_le (c := c) (at_ := at_) (k := k) hD
      have : sumN p (fun q => if c (at' at_ q) then 0 else give k q D) ≤ bs c at_ now p := sumN_le fun v hv => by
        have h1 := q1 v (by omega) (by omega)
        have h2 := q2 v (by omega) (by omega)
        split <;> omega
      simp only [meetE, capC]; omega
  | m :: M, at_, n, k, P, now, r, hM, hal, hP, hl, hn, hs, hK, h => by
    simp only [List.length_cons, runK] at h
    split at h
    · cases h
    · rename_i now1 h1
      split at h
      · cases h
      · rename_i now2 P2 h2
        have hm := hM m (by simp)
        have hne := hm.ne
        obtain ⟨q1, q2⟩ := runW_back (fun d hd => by have := hD d hd; exact ⟨this.x0, this.q0, by have := this.q1; omega⟩) (fun q h0 hh => hn q h0 (by omega)) h1
        have hl1 := runW_len h1
        rw [hl] at q1 q2
        obtain ⟨g, ⟨g1, g2⟩, hg, hP2, hn2⟩ := runP_eff (M := M) hm hP (by omega) q2 h2
        have hl2 := runP_len h2
        have hs1 : sumN p (at' now1) ≤ sumN p (at' now) := sumN_le fun v hv => by
          rw [q1 v (by omega) (by omega)]
          have := give_nonneg (k := k) (q := v) (D := D) fun d hd => (hD d hd).x0
          omega
        have ra : 0 ≤ m.a ∧ m.a < p := ⟨hm.a0, hm.a1⟩
        have rb : 0 ≤ m.b ∧ m.b < p := ⟨hm.b0, hm.b1⟩
        have ga := hg m.a ra.1
        have gb := hg m.b rb.1
        rw [if_pos rfl] at ga
        rw [if_neg (fun e => hne e.symm), if_pos rfl] at gb
        have hs2 : sumN p (at' now2) = sumN p (at' now1) := by
          rw [sumN_diff2 (g1 := at' now1) ra rb hne fun v hv h1 h2 => by rw [hg v (by omega), if_neg h1, if_neg h2], ga, gb]; omega
        have ih := cut_bound hD c (M := M) (at_ := step' at_ m n) (n := n + 2) (k := k + 1) (P := P2) (now := now2) (r := r) (fun m' hm' => hM m' (by simp [hm'])) (by simp [step', put'_len, hal]) hP2 (by omega) hn2 (by omega) (by simp at hK; omega) h
        have hst := stage_le (c := c) (at_ := at_) (k := k) hD
        have hb1 : bs c at_ now1 p + sumN p (fun q => if c (at' at_ q) then 0 else give k q D) = bs c at_ now p := by
          unfold bs
          rw [← sumN_add]
          refine sumN_congr fun v hv => ?_
          rw [q1 v (by omega) (by omega)]
          split <;> omega
        have hab := sumN_two_le (g := at' now1) (fun v hv => q2 v (by omega) (by omega)) ra rb hne
        have pa := q2 m.a ra.1 ra.2
        have pb := q2 m.b rb.1 rb.2
        have pa2 := hn2 m.a ra.1 ra.2
        have pb2 := hn2 m.b rb.1 rb.2
        rw [ga] at pa2
        rw [gb] at pb2
        have sa := step'_at (n := n) hal hm m.a ra.1
        have sb := step'_at (n := n) hal hm m.b rb.1
        rw [if_neg hne, if_pos rfl] at sa
        rw [if_pos rfl] at sb
        have hb2 : bs c (step' at_ m n) now2 p = bs c at_ now1 p + ((if c n then 0 else at' now1 m.a - g) - (if c (at' at_ m.a) then 0 else at' now1 m.a)) + ((if c (n + 1) then 0 else at' now1 m.b + g) - (if c (at' at_ m.b) then 0 else at' now1 m.b)) := by
          unfold bs
          rw [sumN_diff2 (g1 := fun q => if c (at' at_ q) then 0 else at' now1 q) ra rb hne fun v hv h1 h2 => by simp only [step'_at (n := n) hal hm v (by omega), hg v (by omega), if_neg h1, if_neg h2]]
          simp only [sa, sb, ga, gb]
        rw [tot_cons, capW_cons]
        simp only [meetE, capC]
        have hcap := hm.c0
        have hmx : at' now1 m.a + at' now1 m.b ≤ maxC := by omega
        have e4 : bs c (step' at_ m n) now2 p ≤ bs c at_ now1 p + ((if c (at' at_ m.a) && !c n then maxC else 0) + ((if c (at' at_ m.b) && !c (n + 1) then maxC else 0) + ((if c (at' at_ m.a) && !c (n + 1) then m.cap else 0) + (if c (at' at_ m.b) && !c n then m.cap else 0)))) := by
          rw [hb2]
          cases c (at' at_ m.a) <;> cases c (at' at_ m.b) <;> cases c n <;> cases c (n + 1) <;> simp <;> omega
        omega
theorem runK_sum {p K k0 : Nat} {D : List Due} (hD : ∀ d ∈ D, DueOk p k0 K d) : ∀ {M : List Meet} {k : Nat} {P : List Pass} {now r : List Int}, (∀ m ∈ M, MeetOk p m) → PassOk k M P → now.length = p → (∀ q : Int, 0 ≤ q → q < p → 0 ≤ at' now q) →
    K = k + M.length → runK D k (M.length + 1) P now = some r → sumN p (at' r) + tot k D = sumN p (at' now) ∧ (∀ q : Int, 0 ≤ q → q < p → 0 ≤ at' r q)
  | [], k, P, now, r, hM, hP, hl, hn, hK, h => by
    simp only [List.length_nil, runK] at h
    split at h
    · cases h
    · rename_i now1 h1
      have := passOk_nil hP
      subst this
      simp only [runP] at h
      cases h
      have hu : ∀ d ∈ D, d.u ≤ k := fun d hd => by have := (hD d hd).u; simp at hK; omega
      obtain ⟨q1, q2⟩ := runW_back (fun d hd => by have := hD d hd; exact ⟨this.x0, this.q0, by have := this.q1; omega⟩) (fun q h0 hh => hn q h0 (by omega)) h1
      rw [hl] at q1 q2
      refine ⟨?_, q2⟩
      rw [tot_cons, tot_end hu]
      have : sumN p (at' r) + sumN p (fun q => give k q D) = sumN p (at' now) := by
        rw [← sumN_add]
        exact sumN_congr fun v hv => by rw [q1 v (by omega) (by omega)]; omega
      have hgs : ∀ D : List Due, (∀ d ∈ D, DueOk p k0 K d) → sumN p (fun q => give k q D) = totNow k D := by
        intro D
        induction D with
        | nil => intro _; simp only [give, totNow]; exact sumN_zero p
        | cons d D ih =>
          intro hD
          have hd := hD d (by simp)
          have e : sumN p (fun q => give k q (d :: D)) = sumN p (fun q => (if q = d.q then (if d.u = k then d.x else 0) else 0) + give k q D) := sumN_congr fun v hv => by
            simp only [give]
            by_cases h1 : (v : Int) = d.q
            · rw [h1, if_pos rfl]; simp
            · rw [if_neg h1, if_neg (fun h' => h1 h'.2.symm)]
          rw [e, sumN_add, sumN_one p d.q hd.q0 hd.q1, ih fun e he => hD e (by simp [he])]
          rfl
      have := hgs D hD
      omega
  | m :: M, k, P, now, r, hM, hP, hl, hn, hK, h => by
    simp only [List.length_cons, runK] at h
    split at h
    · cases h
    · rename_i now1 h1
      split at h
      · cases h
      · rename_i now2 P2 h2
        have hm := hM m (by simp)
        have hne := hm.ne
        obtain ⟨q1, q2⟩ := runW_back (fun d hd => by have := hD d hd; exact ⟨this.x0, this.q0, by have := this.q1; omega⟩) (fun q h0 hh => hn q h0 (by omega)) h1
        have hl1 := runW_len h1
        rw [hl] at q1 q2
        obtain ⟨g, ⟨g1, g2⟩, hg, hP2, hn2⟩ := runP_eff (M := M) hm hP (by omega) q2 h2
        have hl2 := runP_len h2
        have ra : 0 ≤ m.a ∧ m.a < p := ⟨hm.a0, hm.a1⟩
        have rb : 0 ≤ m.b ∧ m.b < p := ⟨hm.b0, hm.b1⟩
        have ga := hg m.a ra.1
        have gb := hg m.b rb.1
        rw [if_pos rfl] at ga
        rw [if_neg (fun e => hne e.symm), if_pos rfl] at gb
        have hs2 : sumN p (at' now2) = sumN p (at' now1) := by
          rw [sumN_diff2 (g1 := at' now1) ra rb hne fun v hv h1 h2 => by rw [hg v (by omega), if_neg h1, if_neg h2], ga, gb]; omega
        have ih := runK_sum hD (M := M) (k := k + 1) (P := P2) (now := now2) (r := r) (fun m' hm' => hM m' (by simp [hm'])) hP2 (by omega) hn2 (by simp at hK; omega) h
        have hs1 : sumN p (at' now1) + sumN p (fun q => give k q D) = sumN p (at' now) := by
          rw [← sumN_add]
          exact sumN_congr fun v hv => by rw [q1 v (by omega) (by omega)]; omega
        have hgs : ∀ D : List Due, (∀ d ∈ D, DueOk p k0 K d) → sumN p (fun q => give k q D) = totNow k D := by
          intro D
          induction D with
          | nil => intro _; simp only [give, totNow]; exact sumN_zero p
          | cons d D ih =>
            intro hD
            have hd := hD d (by simp)
            have e : sumN p (fun q => give k q (d :: D)) = sumN p (fun q => (if q = d.q then (if d.u = k then d.x else 0) else 0) + give k q D) := sumN_congr fun v hv => by
              simp only [give]
              by_cases h1 : (v : Int) = d.q
              · rw [h1, if_pos rfl]; simp
              · rw [if_neg h1, if_neg (fun h' => h1 h'.2.symm)]
            rw [e, sumN_add, sumN_one p d.q hd.q0 hd.q1, ih fun e he => hD e (by simp [he])]
            rfl
        have := hgs D hD
        refine ⟨?_, ih.2⟩
        rw [tot_cons]
        omega
theorem sumN_front (n : Nat) (g : Int → Int) : sumN (n + 1) g = g 0 + sumN n (fun v => g (v + 1)) := by
  induction n with
  | zero => simp [sumN]
  | succ n ih =>
    have e : sumN (n + 1 + 1) g = sumN (n + 1) g + g ((n + 1 : Nat) : Int) := rfl
    rw [e, ih]
    simp only [sumN]
    rw [show ((n + 1 : Nat) : Int) = (n : Int) + 1 by omega]; omega
theorem sumI_sumN : ∀ (l : List Int), sumN l.length (at' l) = sumI l
  | [] => rfl
  | x :: l => by
    rw [List.length_cons, sumN_front, sumI, ← sumI_sumN l]
    have e : sumN l.length (fun v => at' (x :: l) (v + 1)) = sumN l.length (at' l) := sumN_congr fun v hv => by
      unfold at'
      rw [show ((v : Int) + 1).toNat = (v : Int).toNat + 1 by omega, List.getElem?_cons_succ]
    rw [e]
    simp [at']
end Pl

/- Plans, plainly: what Right, Run and Check say; the plan of a greatest flow is accepted; none that works is better than one that is accepted. -/
namespace Pl
set_option linter.unusedVariables false
set_option linter.unusedSimpArgs false
def stockB : List Int → Int → Bool
  | [], _ => true
  | n :: S, rest => decide (0 ≤ n ∧ n ≤ rest) && stockB S (rest - n)
def meetB (p : Int) (m : Meet) : Bool := decide (0 ≤ m.day ∧ m.day ≤ 1048576) && decide (0 ≤ m.a ∧ m.a ≤ p - 1) && decide (0 ≤ m.b ∧ m.b ≤ p - 1) && !decide (m.a = m.b) && decide (0 ≤ m.cap ∧ m.cap ≤ maxC)
def wantB (p : Int) (w : Want) : Bool := decide (0 ≤ w.day ∧ w.day ≤ 1048576) && decide (0 ≤ w.key ∧ w.key ≤ p - 1) && decide (0 ≤ w.n ∧ w.n ≤ maxC)
def sortedB : List Meet → Bool
  | a :: b :: r => decide (a.day ≤ b.day) && sortedB (b :: r)
  | _ => true
def rightB (S : List Int) (M : List Meet) (W : List Want) : Bool :=
  decide (1 ≤ S.length ∧ S.length ≤ 60 ∧ M.length ≤ 200 ∧ W.length ≤ 200) && stockB S maxC && M.all (meetB S.length) && W.all (wantB S.length) && sortedB M
structure Right (S : List Int) (M : List Meet) (W : List Want) : Prop where
  p1 : 1 ≤ S.length
  p2 : S.length ≤ 60
  m : M.length ≤ 200
  w : W.length ≤ 200
  s0 : ∀ x ∈ S, 0 ≤ x
  sum : sumI S ≤ maxC
  meet : ∀ m ∈ M, MeetOk S.length m ∧ 0 ≤ m.day ∧ m.day ≤ 1048576
  want : ∀ w ∈ W, (0 ≤ w.day ∧ w.day ≤ 1048576) ∧ (0 ≤ w.key ∧ w.key < S.length) ∧ (0 ≤ w.n ∧ w.n ≤ maxC)
  sorted : sortedB M = true
theorem sumI_nonneg : ∀ {S : List Int}, (∀ x ∈ S, 0 ≤ x) → 0 ≤ sumI S
  | [], _ => by simp [sumI]
  | x :: S, h => by have := h x (by simp); have := sumI_nonneg (S := S) fun y hy => h y (by simp [hy]); simp only [sumI]; omega
theorem stockB_iff : ∀ {S : List Int} {rest : Int}, 0 ≤ rest → (stockB S rest = true ↔ (∀ x ∈ S, 0 ≤ x) ∧ sumI S ≤ rest)
  | [], rest, h => by simp [stockB, sumI]; exact h
  | x :: S, rest, h => by
    simp only [stockB, Bool.and_eq_true, decide_eq_true_eq, sumI, List.forall_mem_cons]
    constructor
    · rintro ⟨⟨h1, h2⟩, h3⟩
      have := (stockB_iff (by omega)).1 h3
      exact ⟨⟨h1, this.1⟩, by omega⟩
    · rintro ⟨⟨h1, h2⟩, h3⟩
      have := sumI_nonneg h2
      exact ⟨⟨h1, by omega⟩, (stockB_iff (by omega)).2 ⟨h2, by omega⟩⟩
theorem rightB_iff {S : List Int} {M : List Meet} {W : List Want} : rightB S M W = true ↔ Right S M W := by
  unfold rightB
  simp only [Bool.and_eq_true, decide_eq_true_eq, List.all_eq_true]
  rw [stockB_iff (by decide)]
  constructor
  · rintro ⟨⟨⟨⟨⟨h1, h2, h3, h4⟩, h5, h6⟩, h7⟩, h8⟩, h9⟩
    refine ⟨h1, h2, h3, h4, h5, h6, fun m hm => ?_, fun w hw => ?_, h9⟩
    · have := h7 m hm
      simp only [meetB, Bool.and_eq_true, decide_eq_true_eq, Bool.not_eq_true', decide_eq_false_iff_not] at this
      exact ⟨⟨by omega, by omega, by omega, by omega, this.1.2, by omega, by omega⟩, by omega, by omega⟩
    · have := h8 w hw
      simp only [wantB, Bool.and_eq_true, decide_eq_true_eq] at this
      omega
  · intro h
    refine ⟨⟨⟨⟨⟨h.p1, h.p2, h.m, h.w⟩, h.s0, h.sum⟩, fun m hm => ?_⟩, fun w hw => ?_⟩, h.sorted⟩
    · obtain ⟨h1, h2, h3⟩ := h.meet m hm
      simp only [meetB, Bool.and_eq_true, decide_eq_true_eq, Bool.not_eq_true', decide_eq_false_iff_not]
      have := h1.a0; have := h1.a1; have := h1.b0; have := h1.b1; have := h1.c0; have := h1.c1
      exact ⟨⟨⟨⟨by omega, by omega⟩, by omega⟩, h1.ne⟩, by omega⟩
    · have := h.want w hw
      simp only [wantB, Bool.and_eq_true, decide_eq_true_eq]
      omega
def metB : List Want → List Int → Bool
  | w :: W, x :: X => decide (0 ≤ x ∧ x ≤ w.n) && metB W X
  | [], [] => true
  | _, _ => false
def passB (M : List Meet) (x : Pass) : Bool := match M[x.meet.toNat]? with
  | some m => decide (1 ≤ x.n) && decide (x.n ≤ m.cap) && decide (min x.fr x.to = min m.a m.b) && decide (max x.fr x.to = max m.a m.b)
  | none => false
def formP (M : List Meet) : Int → List Pass → Bool
  | _, [] => true
  | last, x :: P => decide (last < x.meet ∧ x.meet < M.length) && passB M x && formP M x.meet P
def formedB (M : List Meet) (W : List Want) (P : List Pass) (X : List Int) : Bool := metB W X && formP M (-1) P
def runAll (S : List Int) (M : List Meet) (W : List Want) (P : List Pass) (X : List Int) : Int × List Int :=
  bif rightB S M W then (bif formedB M W P X then (match runK (dues M W X) 0 (M.length + 1) P S with | none => (24, []) | some r => (0, r)) else (2, [])) else (1, [])
def cutF (c : List Bool) (v : Int) : Bool := (c[v.toNat]?).getD false
def nodesN (S : List Int) (M : List Meet) : Int := 2 + S.length + 2 * M.length
def checkE (S : List Int) (M : List Meet) (W : List Want) (P : List Pass) (X : List Int) (c : List Bool) : Int :=
  if (runAll S M W P X).1 = 0 then (if (c.length : Int) = nodesN S M ∧ cutF c 0 = true ∧ cutF c 1 = false ∧ capC (cutF c) (netE S M W) = sumI X then 0 else 21) else (runAll S M W P X).1
/-! ### From the codes to what they mean -/
theorem metB_iff : ∀ {W : List Want} {X : List Int}, metB W X = true ↔ X.length = W.length ∧ ∀ (i : Nat) w x, W[i]? = some w → X[i]? = some x → 0 ≤ x ∧ x ≤ w.n
  | [], [] => by simp [metB]
  | [], _ :: _ => by simp [metB]
  | _ :: _, [] => by simp [metB]
  | w :: W, x :: X => by
    simp only [metB, Bool.and_eq_true, decide_eq_true_eq, metB_iff (W := W) (X := X), List.length_cons]
    constructor
    · rintro ⟨h1, h2, h3⟩
      refine ⟨by omega, fun i w' x' e1 e2 => ?_⟩
      cases i with
      | zero => simp at e1 e2; subst e1 e2; exact h1
      | succ i => exact h3 i w' x' (by simpa using e1) (by simpa using e2)
    · rintro ⟨h1, h2⟩
      exact ⟨h2 0 w x (by simp) (by simp), by omega, fun i w' x' e1 e2 => h2 (i + 1) w' x' (by simpa using e1) (by simpa using e2)⟩
theorem dues_ok {p : Nat} {M : List Meet} : ∀ {W : List Want} {X : List Int}, metB W X = true → (∀ w ∈ W, 0 ≤ w.key ∧ w.key < p) → ∀ d ∈ dues M W X, DueOk p 0 M.length d
  | [], [], _, _, d, hd => by simp [dues] at hd
  | [], _ :: _, h, _, d, hd => by simp [dues] at hd
  | _ :: _, [], h, _, d, hd => by simp [dues] at hd
  | w :: W, x :: X, h, hw, d, hd => by
    simp only [metB, Bool.and_eq_true, decide_eq_true_eq] at h
    simp only [dues] at hd
    rcases List.mem_cons.1 hd with rfl | hd
    · have := hw w (by simp)
      exact ⟨h.1.1, h.1.2, this.1, this.2, upto_le _ _⟩
    · exact dues_ok h.2 (fun w' hw' => hw w' (by simp [hw'])) d hd
theorem tot_dues {M : List Meet} : ∀ {W : List Want} {X : List Int}, X.length = W.length → tot 0 (dues M W X) = sumI X
  | [], [], _ => rfl
  | [], _ :: _, h => by simp at h
  | _ :: _, [], h => by simp at h
  | w :: W, x :: X, h => by simp only [dues, tot, sumI, tot_dues (W := W) (X := X) (by simpa using h), Nat.zero_le, if_true]
theorem capW_dues {at_ : List Int} {n : Int} {M : List Meet} {c : Int → Bool} (h1 : c 1 = false) : ∀ {W : List Want} {X : List Int}, X.length = W.length → capW at_ n M 0 c (dues M W X) = capC c (W.map (endE at_ n M))
  | [], [], _ => rfl
  | [], _ :: _, h => by simp at h
  | _ :: _, [], h => by simp at h
  | w :: W, x :: X, h => by
    simp only [dues, capW, List.map_cons, capC, capW_dues h1 (W := W) (X := X) (by simpa using h), Nat.zero_le, if_true, endE, h1, Nat.sub_zero, Bool.not_false, Bool.and_true]
theorem formP_ok {M : List Meet} {p : Nat} (hM : ∀ m ∈ M, MeetOk p m) : ∀ {P : List Pass} {last : Int}, -1 ≤ last → formP M last P = true → PassOk 0 M P ∧ ∀ x ∈ P, last < x.meet
  | [], last, _, _ => ⟨⟨by simp, fun x hx => by cases hx⟩, fun x hx => by cases hx⟩
  | x :: P, last, hl, h => by
    simp only [formP, Bool.and_eq_true, decide_eq_true_eq] at h
    obtain ⟨⟨h1, h2⟩, h3⟩ := h
    obtain ⟨⟨q1, q2⟩, q3⟩ := formP_ok hM (P := P) (last := x.meet) (by omega) h3
    refine ⟨⟨List.pairwise_cons.2 ⟨q3, q1⟩, fun y hy => ?_⟩, fun y hy => ?_⟩
    · rcases List.mem_cons.1 hy with rfl | hy
      · refine ⟨by omega, ?_⟩
        unfold passB at h2
        split at h2
        · rename_i m hm
          have hne := (hM m (List.mem_of_getElem? hm)).ne
          simp only [Bool.and_eq_true, decide_eq_true_eq] at h2
          exact ⟨m, by simpa using hm, by omega, by omega, by omega⟩
        · cases h2
      · exact q2 y hy
    · rcases List.mem_cons.1 hy with rfl | hy
      · omega
      · have := q3 y hy; omega
theorem at'_nonneg {S : List Int} (h : ∀ x ∈ S, 0 ≤ x) (q : Int) : 0 ≤ at' S q := by
  unfold at'
  cases e : S[q.toNat]? with
  | none => simp
  | some x => simpa using h x (List.mem_of_getElem? e)
theorem runAll_ok {S : List Int} {M : List Meet} {W : List Want} {P : List Pass} {X r : List Int} (h : runAll S M W P X = (0, r)) : rightB S M W = true ∧ formedB M W P X = true ∧ runK (dues M W X) 0 (M.length + 1) P S = some r := by
  unfold runAll at h
  cases h1 : rightB S M W
  · rw [h1] at h; simp at h
  · cases h2 : formedB M W P X
    · rw [h1, h2] at h; simp at h
    · rw [h1, h2] at h
      simp only [cond_true] at h
      split at h
      · simp at h
      · rename_i r' hr
        simp at h; subst h
        exact ⟨rfl, rfl, hr⟩
theorem runAll_of {S : List Int} {M : List Meet} {W : List Want} {P : List Pass} {X r : List Int} (h1 : rightB S M W = true) (h2 : formedB M W P X = true) (h3 : runK (dues M W X) 0 (M.length + 1) P S = some r) : runAll S M W P X = (0, r) := by
  unfold runAll; rw [h1, h2, h3]; rfl
theorem runAll_zero {S : List Int} {M : List Meet} {W : List Want} {P : List Pass} {X : List Int} (h : (runAll S M W P X).1 = 0) : ∃ r, runAll S M W P X = (0, r) := ⟨(runAll S M W P X).2, Prod.ext h rfl⟩
theorem cap_stock {c : Int → Bool} (h0 : c 0 = true) : ∀ {S : List Int} {i : Int}, capC c (stockE i S) = sumN S.length (fun q => if c (i + q) then 0 else at' S q)
  | [], i => rfl
  | s :: S, i => by
    simp only [stockE, capC, List.length_cons, sumN_front, h0, Bool.true_and, cap_stock h0 (S := S) (i := i + 1)]
    have e : sumN S.length (fun v => if c (i + (v + 1)) then 0 else at' (s :: S) (v + 1)) = sumN S.length (fun q => if c (i + 1 + q) then 0 else at' S q) := sumN_congr fun v hv => by
      rw [show i + ((v : Int) + 1) = i + 1 + v by omega]
      have : at' (s :: S) ((v : Int) + 1) = at' S v := by
        unfold at'
        rw [show ((v : Int) + 1).toNat = (v : Int).toNat + 1 by omega, List.getElem?_cons_succ]
      rw [this]
    rw [e, Int.add_zero]
    have : at' (s :: S) 0 = s := by simp [at']
    rw [this]
    cases c i <;> simp
theorem capC_append (c : Int → Bool) : ∀ (A B : List Edge), capC c (A ++ B) = capC c A + capC c B
  | [], B => by simp [capC]
  | e :: A, B => by simp only [List.cons_append, capC, capC_append c A B]; omega
/-- No plan that works gives more than a cut lets through. -/
theorem weak {S : List Int} {M : List Meet} {W : List Want} {P : List Pass} {X r : List Int} (h : runAll S M W P X = (0, r)) {c : Int → Bool} (h0 : c 0 = true) (h1 : c 1 = false) : sumI X ≤ capC c (netE S M W) := by
  obtain ⟨hr, hf, hk⟩ := runAll_ok h
  have R := rightB_iff.1 hr
  simp only [formedB, Bool.and_eq_true] at hf
  have hM := fun m hm => (R.meet m hm).1
  have hl := (metB_iff.1 hf.1).1
  have b := cut_bound (dues_ok hf.1 fun w hw => (R.want w hw).2.1) c (at_ := begin_ S.length 2) (n := 2 + S.length) hM (begin_len _ _) (formP_ok hM (by omega) hf.2).1 rfl (fun q _ _ => at'_nonneg R.s0 q) (by rw [sumI_sumN]; exact R.sum) (by omega) hk
  rw [tot_dues hl, capW_dues h1 hl] at b
  rw [netE, capC_append, capC_append, cap_stock h0]
  have e : bs c (begin_ S.length 2) S S.length = sumN S.length (fun q => if c (2 + q) then 0 else at' S q) := sumN_congr fun v hv => by rw [begin_at _ _ _ (by omega) (by omega)]
  rw [e] at b
  omega
/-- What is left in the end. -/
theorem run_left {S : List Int} {M : List Meet} {W : List Want} {P : List Pass} {X r : List Int} (h : runAll S M W P X = (0, r)) : r.length = S.length ∧ sumI r + sumI X = sumI S ∧ ∀ x ∈ r, 0 ≤ x := by
  obtain ⟨hr, hf, hk⟩ := runAll_ok h
  have R := rightB_iff.1 hr
  simp only [formedB, Bool.and_eq_true] at hf
  have hM := fun m hm => (R.meet m hm).1
  have hl := (metB_iff.1 hf.1).1
  have hrl := runK_len hk
  obtain ⟨b1, b2⟩ := runK_sum (dues_ok hf.1 fun w hw => (R.want w hw).2.1) hM (formP_ok hM (by omega) hf.2).1 rfl (fun q _ _ => at'_nonneg R.s0 q) (by omega) hk
  rw [tot_dues hl, ← hrl, sumI_sumN, hrl, sumI_sumN] at b1
  refine ⟨hrl, b1, fun x hx => ?_⟩
  obtain ⟨i, hi, he⟩ := List.getElem_of_mem hx
  have := b2 i (by omega) (by omega)
  unfold at' at this
  rw [Int.toNat_natCast, List.getElem?_eq_getElem hi, he] at this
  simpa using this
/-- None that works is better than one that is accepted. -/
theorem best {S : List Int} {M : List Meet} {W : List Want} {P P' : List Pass} {X X' r : List Int} {c : List Bool} (h : checkE S M W P X c = 0) (h' : runAll S M W P' X' = (0, r)) : sumI X' ≤ sumI X := by
  unfold checkE at h
  split at h
  · split at h
    · rename_i hc
      have := weak h' hc.2.1 hc.2.2.1
      omega
    · simp at h
  · rename_i h1 ; exact (h1 h).elim
theorem check_run {S : List Int} {M : List Meet} {W : List Want} {P : List Pass} {X : List Int} {c : List Bool} (h : checkE S M W P X c = 0) : ∃ r, runAll S M W P X = (0, r) := by
  unfold checkE at h
  split at h
  · rename_i h1; exact runAll_zero h1
  · rename_i h1; exact (h1 h).elim
end Pl

/- Plans, plainly: the plan of a greatest flow is accepted. -/
namespace Pl
set_option linter.unusedVariables false
set_option linter.unusedSimpArgs false
theorem nodes_atJ {p : Nat} : ∀ {M : List Meet} {at_ : List Int} {n : Int} {j : Nat}, (∀ m ∈ M, MeetOk p m) → Nodes at_ p n → 2 ≤ n → Nodes (atJ at_ n M j) p (n + 2 * M.length)
  | [], at_, n, 0, hM, h, hn => by simpa [atJ] using h
  | [], at_, n, j + 1, hM, h, hn => by simpa [atJ] using h
  | m :: M, at_, n, 0, hM, h, hn => ⟨h.len, fun q h0 h1 => by have := h.lt q h0 h1; simp only [atJ]; omega, h.inj⟩
  | m :: M, at_, n, j + 1, hM, h, hn => by
    have := nodes_atJ (M := M) (j := j) (fun m' hm' => hM m' (by simp [hm'])) (h.step (hM m (by simp)) hn) (by omega)
    simp only [atJ]
    rw [show n + 2 * ((m :: M).length : Int) = n + 2 + 2 * (M.length : Int) by simp; omega]
    exact this
theorem meetE_range {p : Nat} : ∀ {M : List Meet} {at_ : List Int} {n : Int}, (∀ m ∈ M, MeetOk p m) → Nodes at_ p n → 2 ≤ n → ∀ e ∈ meetE at_ n M, 0 ≤ e.f ∧ e.f < n + 2 * M.length ∧ 0 ≤ e.t ∧ e.t < n + 2 * M.length
  | [], at_, n, _, _, _, e, he => by simp [meetE] at he
  | m :: M, at_, n, hM, h, hn, e, he => by
    have hm := hM m (by simp)
    have ha := h.lt m.a hm.a0 hm.a1
    have hb := h.lt m.b hm.b0 hm.b1
    simp only [meetE, List.mem_cons] at he
    have hl : ((m :: M).length : Int) = M.length + 1 := by simp
    rw [hl]
    rcases he with rfl | rfl | rfl | rfl | he
    · exact ⟨by simp only; omega, by simp only; omega, by simp only; omega, by simp only; omega⟩
    · exact ⟨by simp only; omega, by simp only; omega, by simp only; omega, by simp only; omega⟩
    · exact ⟨by simp only; omega, by simp only; omega, by simp only; omega, by simp only; omega⟩
    · exact ⟨by simp only; omega, by simp only; omega, by simp only; omega, by simp only; omega⟩
    · have := meetE_range (M := M) (fun m' hm' => hM m' (by simp [hm'])) (h.step hm hn) (by omega) e he
      omega
theorem stockE_range : ∀ {S : List Int} {i : Int}, 0 ≤ i → ∀ e ∈ stockE i S, e.f = 0 ∧ 0 ≤ e.t ∧ e.t < i + S.length
  | [], i, _, e, he => by simp [stockE] at he
  | s :: S, i, hi, e, he => by
    simp only [stockE, List.mem_cons] at he
    have hl : ((s :: S).length : Int) = S.length + 1 := by simp
    rw [hl]
    rcases he with rfl | he
    · exact ⟨rfl, hi, by simp only; omega⟩
    · have := stockE_range (S := S) (i := i + 1) (by omega) e he
      omega
theorem netE_len (S : List Int) (M : List Meet) (W : List Want) : (netE S M W).length = S.length + (4 * M.length + W.length) := by
  simp [netE, stockE_len, meetE_len]
theorem netE_range {S : List Int} {M : List Meet} {W : List Want} (R : Right S M W) : ∀ e ∈ netE S M W, 0 ≤ e.f ∧ e.f < nodesN S M ∧ 0 ≤ e.t ∧ e.t < nodesN S M := by
  have hM := fun m hm => (R.meet m hm).1
  have hp := R.p1
  intro e he
  unfold nodesN
  simp only [netE, List.mem_append, List.mem_map] at he
  rcases he with he | he | ⟨w, hw, rfl⟩
  · have := stockE_range (by omega) e he; omega
  · have := meetE_range hM (Nodes.start S.length) (by omega) e he; omega
  · obtain ⟨_, h1, _⟩ := R.want w hw
    have := (nodes_atJ (j := upto M w.day) hM (Nodes.start S.length) (by omega)).lt w.key h1.1 h1.2
    simp only [endE]; omega
def BndL (E : List Edge) (F : List Int) : Prop := ∀ (i : Nat) e x, E[i]? = some e → F[i]? = some x → 0 ≤ x ∧ x ≤ e.c
theorem bnd_split {E1 E2 : List Edge} {F1 F2 : List Int} (hl : F1.length = E1.length) (h : BndL (E1 ++ E2) (F1 ++ F2)) : BndL E1 F1 ∧ BndL E2 F2 := by
  refine ⟨fun i e x h1 h2 => ?_, fun i e x h1 h2 => ?_⟩
  · have l1 := (List.getElem?_eq_some_iff.1 h1).1
    exact h i e x (by rw [List.getElem?_append_left l1]; exact h1) (by rw [List.getElem?_append_left (by omega)]; exact h2)
  · exact h (E1.length + i) e x (by rw [List.getElem?_append_right (by omega)]; simpa using h1) (by rw [List.getElem?_append_right (by omega)]; rw [hl]; simpa using h2)
theorem bnd_nonneg {E : List Edge} {F : List Int} (hl : F.length = E.length) (h : BndL E F) : ∀ x ∈ F, 0 ≤ x := by
  intro x hx
  obtain ⟨i, hi, he⟩ := List.getElem_of_mem hx
  exact (h i _ x (List.getElem?_eq_getElem (by omega)) (by rw [List.getElem?_eq_getElem hi, he])).1
theorem bnd_stock : ∀ {S X : List Int} {i : Int}, BndL (stockE i S) X → X.length = S.length → ∀ q : Int, at' X q ≤ at' S q
  | [], [], i, _, _, q => by simp [at']
  | [], _ :: _, i, _, h, q => by simp at h
  | _ :: _, [], i, _, h, q => by simp at h
  | s :: S, x :: X, i, h, hl, q => by
    have h0 := h 0 ⟨0, i, s⟩ x (by simp [stockE]) (by simp)
    by_cases e : q.toNat = 0
    · unfold at'; rw [e]; simpa using h0.2
    · have ih := bnd_stock (S := S) (X := X) (i := i + 1) (fun j e' x' h1 h2 => h (j + 1) e' x' (by simpa [stockE] using h1) (by simpa using h2)) (by simpa using hl) (q - 1)
      have hq : q.toNat = (q - 1).toNat + 1 := by omega
      unfold at' at ih ⊢
      rw [hq, List.getElem?_cons_succ, List.getElem?_cons_succ]; exact ih
theorem bnd_ends {at_ : List Int} {n : Int} {M : List Meet} {W : List Want} {X : List Int} (h : BndL (W.map (endE at_ n M)) X) (hl : X.length = W.length) : metB W X = true := by
  refine metB_iff.2 ⟨hl, fun i w x h1 h2 => ?_⟩
  have := h i (endE at_ n M w) x (by simp [h1]) h2
  simpa [endE] using this
theorem form_pass {M0 : List Meet} : ∀ {M : List Meet} {at_ : List Int} {n : Int} {k : Nat} {F : List Int} {last : Int}, (∀ (j : Nat) m, M[j]? = some m → M0[k + j]? = some m) → BndL (meetE at_ n M) F → F.length = 4 * M.length → last < k → formP M0 last (passK k M F) = true
  | [], at_, n, k, F, last, _, _, _, _ => by simp [passK, formP]
  | m :: M, at_, n, k, F, last, hM, hb, hl, hlast => by
    obtain ⟨f1, f2, f3, f4, G, rfl, hG⟩ := four (by simpa using hl)
    have b3 := hb 2 ⟨at' at_ m.a, n + 1, m.cap⟩ f3 (by simp [meetE]) (by simp)
    have b4 := hb 3 ⟨at' at_ m.b, n, m.cap⟩ f4 (by simp [meetE]) (by simp)
    simp only at b3 b4
    have hm := hM 0 m (by simp)
    rw [Nat.add_zero] at hm
    have hk := (List.getElem?_eq_some_iff.1 hm).1
    have ih : ∀ last : Int, last < k + 1 → formP M0 last (passK (k + 1) M G) = true := fun last hlt => form_pass (M := M) (at_ := step' at_ m n) (n := n + 2) (fun j m' h => by have := hM (j + 1) m' (by simpa using h); rw [show k + 1 + j = k + (j + 1) by omega]; exact this) (fun i e x h1 h2 => hb (i + 4) e x (by simpa [meetE] using h1) (by simpa using h2)) hG (by omega)
    simp only [passK]
    split
    · simp only [formP, passB, Int.toNat_natCast, hm, Bool.and_eq_true, decide_eq_true_eq]
      exact ⟨⟨⟨hlast, by omega⟩, ⟨⟨by omega, by omega⟩, trivial⟩, trivial⟩, ih _ (by omega)⟩
    · split
      · simp only [formP, passB, Int.toNat_natCast, hm, Bool.and_eq_true, decide_eq_true_eq]
        exact ⟨⟨⟨hlast, by omega⟩, ⟨⟨by omega, by omega⟩, by omega⟩, by omega⟩, ih _ (by omega)⟩
      · exact ih _ (by omega)
theorem plan_ok {S : List Int} {M : List Meet} {W : List Want} {F : List Int} {c : List Bool} (hr : rightB S M W = true) (hcl : (c.length : Int) = nodesN S M) (h : Max (netE S M W) (nodesN S M).toNat 0 1 F (cutF c)) :
    checkE S M W (passK 0 M ((F.drop S.length).take (4 * M.length))) (F.drop (S.length + 4 * M.length)) c = 0 := by
  have R := rightB_iff.1 hr
  have hM := fun m hm => (R.meet m hm).1
  have hp := R.p1
  have hN : (((nodesN S M).toNat : Nat) : Int) = nodesN S M := by unfold nodesN; omega
  have hval := h.value (fun e he => by rw [hN]; exact netE_range R e he) ⟨by omega, by rw [hN]; unfold nodesN; omega⟩ ⟨by omega, by rw [hN]; unfold nodesN; omega⟩ (by omega)
  have hFl := h.len
  rw [netE_len] at hFl
  generalize hFm : (F.drop S.length).take (4 * M.length) = Fm
  generalize hFw : F.drop (S.length + 4 * M.length) = Fw
  obtain ⟨Fs, hFs⟩ : ∃ Fs, F.take S.length = Fs := ⟨_, rfl⟩
  have hsplit : F = Fs ++ (Fm ++ Fw) := by
    rw [← hFs, ← hFm, ← hFw, ← List.drop_drop, List.take_append_drop, List.take_append_drop]
  have ls : Fs.length = S.length := by rw [← hFs, List.length_take]; omega
  have lm : Fm.length = 4 * M.length := by rw [← hFm, List.length_take, List.length_drop]; omega
  have lw : Fw.length = W.length := by rw [← hFw, List.length_drop]; omega
  have hb : BndL (netE S M W) F := h.bnd
  rw [hsplit, netE] at hb
  obtain ⟨bS, hb⟩ := bnd_split (by rw [stockE_len, ls]) hb
  obtain ⟨bM, bW⟩ := bnd_split (by rw [meetE_len, lm]) hb
  have hmet := bnd_ends bW lw
  have hform : formedB M W (passK 0 M Fm) Fw = true := by
    simp only [formedB, Bool.and_eq_true]
    exact ⟨hmet, form_pass (fun j m hj => by simpa using hj) bM lm (by omega)⟩
  have hD := dues_ok (M := M) hmet fun w hw => (R.want w hw).2.1
  have hst := Nodes.start S.length
  have hnet : ∀ v : Int, v ≠ 0 → v ≠ 1 → net (netE S M W) F v = - (if 2 ≤ v ∧ v < 2 + S.length then at' Fs (v - 2) else 0) + ((outM (begin_ S.length 2) (2 + S.length) M Fm v - innM (2 + S.length) M Fm v) + outW (begin_ S.length 2) (2 + S.length) M 0 v (dues M W Fw)) := fun v h0 h1 => by
    rw [hsplit, netE, net_append v (by rw [stockE_len, ls]), net_append v (by rw [meetE_len, lm]), net_stock ls h0, net_meets v lm, net_ends h1 lw]
  have hzero : ∀ v : Int, 2 ≤ v → v < nodesN S M → net (netE S M W) F v = 0 := fun v h2 hv => by
    have := h.net v.toNat (by omega) (by omega) (by omega)
    rw [show ((v.toNat : Nat) : Int) = v by omega] at this
    exact this
  have hcons : Cons (dues M W Fw) 0 M Fm := cons_of hD hM hst (by omega) lm (by omega) fun v h1 h2 => by
    have e1 := hzero v (by omega) (by unfold nodesN; omega)
    rw [hnet v (by omega) (by omega), if_neg (by omega)] at e1
    omega
  obtain ⟨r, hrun⟩ := plan_runs hD (M := M) (k := 0) (F := Fm) (now := S) hM lm (bnd_nonneg (by rw [meetE_len, lm]) bM) hcons rfl fun q h0 h1 => by
    have e1 := hzero (2 + q) (by omega) (by unfold nodesN; omega)
    rw [hnet _ (by omega) (by omega), if_pos (by omega), inn_low (by omega)] at e1
    have e2 := out_need hD (F := Fm) (k := 0) hM hst (by omega) lm (by omega) q h0 h1
    rw [begin_at _ _ _ h0 h1] at e2
    have e3 := bnd_stock bS ls q
    rw [show 2 + q - 2 = q by omega] at e1
    omega
  have hra := runAll_of hr hform hrun
  have hsum : capC (cutF c) (netE S M W) = sumI Fw := by
    have e1 := hval.2
    rw [hsplit, netE, net_append _ (by rw [stockE_len, ls]), net_append _ (by rw [meetE_len, lm]), net_stock ls (by omega), if_neg (by omega), net_meets _ lm, inn_low (by omega),
      net_ends1 lw (fun w hw => by have := (nodes_atJ (j := upto M w.day) hM hst (by omega)).lt w.key (R.want w hw).2.1.1 (R.want w hw).2.1.2; omega)] at e1
    have e2 := out_left (D := []) (p := S.length) (K := M.length) (k0 := 0) (fun d hd => by cases hd) (v := 1) (k := 0) (F := Fm) hM hst (by omega) lm (by omega) (by omega) (fun q h0 h1 => by have := hst.lt q h0 h1; omega)
    simp only [outW] at e2
    rw [← netE] at e1
    omega
  unfold checkE
  rw [hra]
  simp only [if_true]
  rw [if_pos ⟨hcl, h.cs, h.ct, hsum⟩]
end Pl

/- Plans, plainly: the beginning of a plan that works; a pass that is too great. -/
namespace Pl
set_option linter.unusedVariables false
set_option linter.unusedSimpArgs false
theorem at'_ext {a b : List Int} {p : Nat} (ha : a.length = p) (hb : b.length = p) (h : ∀ q : Int, 0 ≤ q → q < p → at' a q = at' b q) : a = b := by
  apply List.ext_getElem (by omega)
  intro i h1 h2
  have := h i (by omega) (by omega)
  unfold at' at this
  rw [Int.toNat_natCast, List.getElem?_eq_getElem h1, List.getElem?_eq_getElem h2] at this
  simpa using this
def early (k : Nat) (P : List Pass) : List Pass := P.filter (fun x : Pass => decide (x.meet < (k : Int)))
theorem runW_give {p k K k0 : Nat} {D D' : List Due} {now r : List Int} (hD : ∀ d ∈ D, DueOk p k0 K d) (hD' : ∀ d ∈ D', DueOk p k0 K d) (hl : now.length = p) (hn : ∀ q : Int, 0 ≤ q → q < p → 0 ≤ at' now q) (hg : ∀ q : Int, 0 ≤ q → q < p → give k q D' = give k q D) (h : runW k D now = some r) : runW k D' now = some r := by
  have ok : ∀ {E : List Due}, (∀ d ∈ E, DueOk p k0 K d) → ∀ d ∈ E, 0 ≤ d.x ∧ 0 ≤ d.q ∧ d.q < now.length := fun hE d hd => ⟨(hE d hd).x0, (hE d hd).q0, by have := (hE d hd).q1; omega⟩
  obtain ⟨q1, q2⟩ := runW_back (ok hD) (fun q h0 hh => hn q h0 (by omega)) h
  rw [hl] at q1 q2
  obtain ⟨r', hr', hq⟩ := runW_spec (k := k) (ok hD') (fun q h0 hh => by
    have e1 := q1 q h0 (by omega)
    have e2 := q2 q h0 (by omega)
    rw [hg q h0 (by omega)]; omega)
  rw [hr']
  have l1 := runW_len hr'
  have l2 := runW_len h
  have e : r' = r := at'_ext (by omega) (by omega) (p := p) fun q h0 h1 => by rw [q1 q h0 h1, hq q h0 (by omega), hg q h0 h1]
  rw [e]
theorem runP_first {i k : Nat} {P P2 : List Pass} {now now2 : List Int} (hasc : P.Pairwise (fun x y => x.meet < y.meet)) (hge : ∀ x ∈ P, (i : Int) ≤ x.meet) (hik : i < k) (h : runP i P now = some (now2, P2)) :
    runP i (early k P) now = some (now2, early k P2) := by
  cases P with
  | nil => simp only [runP] at h; cases h; rfl
  | cons x P =>
    have hc := List.pairwise_cons.1 hasc
    simp only [runP] at h
    by_cases hx : x.meet = i
    · rw [if_pos hx] at h
      split at h
      · cases h
      · rename_i hneg
        cases h
        unfold early
        rw [List.filter_cons, if_pos (by simp; omega)]
        simp only [runP]
        rw [if_pos hx, if_neg hneg]
    · rw [if_neg hx] at h
      cases h
      refine runP_later fun y hy => ?_
      have hm := (List.mem_filter.1 hy).1
      rcases List.mem_cons.1 hm with rfl | hm
      · have := hge y (by simp); omega
      · have := hc.1 y hm
        have := hge x (by simp)
        omega
theorem run_first {p K k0 k : Nat} {D D' : List Due} (hD : ∀ d ∈ D, DueOk p k0 K d) (hD' : ∀ d ∈ D', DueOk p k0 K d) (hg : ∀ (j : Nat) (q : Int), j ≤ k → 0 ≤ q → q < p → give j q D' = give j q D) :
    ∀ {n i : Nat} {M : List Meet} {P : List Pass} {now r : List Int}, (∀ m ∈ M, MeetOk p m) → PassOk i M P → now.length = p → (∀ q : Int, 0 ≤ q → q < p → 0 ≤ at' now q) → i + n = k → n ≤ M.length → runK D i (M.length + 1) P now = some r →
    ∃ r', runK D' i (n + 1) (early k P) now = some r'
  | 0, i, M, P, now, r, hM, hP, hl, hn, hk, hnM, h => by
    simp only [runK] at h
    split at h
    · cases h
    · rename_i now1 h1
      have e := runW_give hD hD' hl hn (fun q h0 hh => hg i q (by omega) h0 hh) h1
      have hf : early k P = [] := List.filter_eq_nil_iff.2 fun x hx => by have := (hP.ok x hx).1; simp; omega
      refine ⟨now1, ?_⟩
      simp only [runK, e, hf, runP]
  | n + 1, i, [], P, now, r, hM, hP, hl, hn, hk, hnM, h => by simp at hnM
  | n + 1, i, m :: M, P, now, r, hM, hP, hl, hn, hk, hnM, h => by
    simp only [List.length_cons, runK] at h
    split at h
    · cases h
    · rename_i now1 h1
      split at h
      · cases h
      · rename_i now2 P2 h2
        have hm := hM m (by simp)
        have e := runW_give hD hD' hl hn (fun q h0 hh => hg i q (by omega) h0 hh) h1
        have hl1 := runW_len h1
        obtain ⟨q1, q2⟩ := runW_back (fun d hd => by have := hD d hd; exact ⟨this.x0, this.q0, by have := this.q1; omega⟩) (fun q h0 hh => hn q h0 (by omega)) h1
        rw [hl] at q2
        obtain ⟨g, _, _, hP2, hn2⟩ := runP_eff (M := M) hm hP (by omega) q2 h2
        have e2 := runP_first (k := k) hP.asc (fun x hx => (hP.ok x hx).1) (by omega) h2
        have hl2 := runP_len h2
        obtain ⟨r', hr'⟩ := run_first hD hD' hg (n := n) (i := i + 1) (M := M) (P := P2) (now := now2) (r := r) (fun m' hm' => hM m' (by simp [hm'])) hP2 (by omega) hn2 (by omega) (by simp at hnM; omega) h
        refine ⟨r', ?_⟩
        simp only [runK, e, e2]
        exact hr'
/-! ### The beginning of the meetings -/
theorem upto_take : ∀ (M : List Meet) (k : Nat) (d : Int), upto (M.take k) d = min (upto M d) k
  | [], k, d => by simp [upto]
  | m :: M, 0, d => by simp [upto]
  | m :: M, k + 1, d => by
    simp only [List.take_succ_cons, upto, upto_take M k d]
    split <;> omega
theorem upto_sorted : ∀ {M : List Meet}, sortedB M = true → ∀ {k : Nat} {m : Meet} {d : Int}, M[k]? = some m → (m.day ≤ d ↔ k < upto M d)
  | [], _, k, m, d, h => by simp at h
  | [x], _, k, m, d, h => by
    cases k with
    | zero => simp at h; subst h; simp [upto]; split <;> omega
    | succ k => simp at h
  | x :: y :: r, hs, k, m, d, h => by
    simp only [sortedB, Bool.and_eq_true, decide_eq_true_eq] at hs
    have ih := fun k m d => upto_sorted hs.2 (k := k) (m := m) (d := d)
    have e : upto (x :: y :: r) d = if x.day ≤ d then upto (y :: r) d + 1 else 0 := rfl
    rw [e]
    cases k with
    | zero => simp at h; subst h; split <;> omega
    | succ k =>
      have := ih k m d (by simpa using h)
      by_cases hx : x.day ≤ d
      · rw [if_pos hx]; omega
      · rw [if_neg hx]
        have h0 := ih 0 y d (by simp)
        constructor
        · intro hmd
          have := this.1 hmd
          have : y.day ≤ d := h0.2 (by omega)
          omega
        · intro hh; omega
def lessX (k : Nat) (M : List Meet) : List Want → List Int → List Int
  | w :: W, x :: X => (match M[k]? with | some m => if m.day ≤ w.day then 0 else x | none => x) :: lessX k M W X
  | _, _ => []
theorem lessX_len {k : Nat} {M : List Meet} : ∀ {W : List Want} {X : List Int}, X.length = W.length → (lessX k M W X).length = W.length
  | [], [], _ => rfl
  | [], _ :: _, h => by simp at h
  | _ :: _, [], h => by simp at h
  | w :: W, x :: X, h => by simp only [lessX, List.length_cons]; rw [lessX_len (by simpa using h)]
theorem lessX_met {k : Nat} {M : List Meet} : ∀ {W : List Want} {X : List Int}, metB W X = true → metB W (lessX k M W X) = true
  | [], [], _ => rfl
  | [], _ :: _, h => by simp [metB] at h
  | _ :: _, [], h => by simp [metB] at h
  | w :: W, x :: X, h => by
    simp only [metB, Bool.and_eq_true, decide_eq_true_eq] at h
    simp only [lessX, metB, Bool.and_eq_true, decide_eq_true_eq]
    refine ⟨?_, lessX_met h.2⟩
    split
    · split <;> omega
    · omega
theorem lessX_give {k : Nat} {M : List Meet} (hs : sortedB M = true) (hk : k ≤ M.length) {j : Nat} {q : Int} (hj : j ≤ k) : ∀ {W : List Want} {X : List Int}, X.length = W.length → give j q (dues (M.take k) W (lessX k M W X)) = give j q (dues M W X)
  | [], [], _ => rfl
  | [], _ :: _, h => by simp at h
  | _ :: _, [], h => by simp at h
  | w :: W, x :: X, h => by
    simp only [lessX, dues, give, lessX_give hs hk hj (W := W) (X := X) (by simpa using h), upto_take]
    congr 1
    have hle := upto_le M w.day
    cases e : M[k]? with
    | none =>
      have : M.length ≤ k := List.getElem?_eq_none_iff.1 e
      rw [show min (upto M w.day) k = upto M w.day by omega]
    | some m =>
      have := upto_sorted hs (d := w.day) e
      by_cases hd : m.day ≤ w.day
      · have := this.1 hd
        simp only [if_pos hd]
        have h1 : ¬ (upto M w.day = j ∧ w.key = q) := fun h => by omega
        rw [if_neg h1]; split <;> rfl
      · simp only [if_neg hd]
        rw [show min (upto M w.day) k = upto M w.day by omega]
theorem sorted_take : ∀ {M : List Meet} {k : Nat}, sortedB M = true → sortedB (M.take k) = true
  | [], k, _ => by simp [sortedB]
  | [x], 0, _ => by simp [sortedB]
  | [x], k + 1, _ => by simp [sortedB]
  | x :: y :: r, 0, _ => by simp [sortedB]
  | x :: y :: r, 1, _ => by simp [sortedB]
  | x :: y :: r, k + 2, h => by
    simp only [sortedB, Bool.and_eq_true] at h
    have := sorted_take (M := y :: r) (k := k + 1) h.2
    simp only [List.take_succ_cons, sortedB, Bool.and_eq_true] at this ⊢
    exact ⟨h.1, this⟩
theorem right_take {S : List Int} {M : List Meet} {W : List Want} (R : Right S M W) (k : Nat) : Right S (M.take k) W :=
  ⟨R.p1, R.p2, by have := R.m; rw [List.length_take]; omega, R.w, R.s0, R.sum, fun m hm => R.meet m (List.mem_of_mem_take hm), R.want, sorted_take R.sorted⟩
theorem formP_take {M : List Meet} {k : Nat} (hk : k ≤ M.length) : ∀ {P : List Pass} {last last' : Int}, -1 ≤ last → formP M last P = true → last' ≤ last → formP (M.take k) last' (early k P) = true
  | [], last, last', _, _, _ => by simp [formP, early]
  | x :: P, last, last', h0, h, hl => by
    simp only [formP, Bool.and_eq_true, decide_eq_true_eq] at h
    obtain ⟨⟨h1, h2⟩, h3⟩ := h
    unfold early
    rw [List.filter_cons]
    split
    · rename_i hx
      simp only [decide_eq_true_eq] at hx
      simp only [formP, Bool.and_eq_true, decide_eq_true_eq]
      refine ⟨⟨⟨by omega, by rw [List.length_take]; omega⟩, ?_⟩, formP_take hk (by omega) h3 (Int.le_refl _)⟩
      unfold passB at h2 ⊢
      split at h2
      · rename_i m hm
        have hlt : x.meet.toNat < k := by omega
        rw [List.getElem?_take_of_lt hlt, hm]; exact h2
      · cases h2
    · exact formP_take hk (by omega) h3 (by omega)
theorem runs_first {S : List Int} {M : List Meet} {W : List Want} {P : List Pass} {X r : List Int} (h : runAll S M W P X = (0, r)) {k : Nat} (hk : k ≤ M.length) : ∃ r', runAll S (M.take k) W (early k P) (lessX k M W X) = (0, r') := by
  obtain ⟨hr, hf, hrun⟩ := runAll_ok h
  have R := rightB_iff.1 hr
  simp only [formedB, Bool.and_eq_true] at hf
  have hM := fun m hm => (R.meet m hm).1
  have hl := (metB_iff.1 hf.1).1
  have hmet := lessX_met (k := k) (M := M) hf.1
  have hlen : (M.take k).length = k := by rw [List.length_take]; omega
  have hD' : ∀ d ∈ dues (M.take k) W (lessX k M W X), DueOk S.length 0 M.length d := fun d hd => by
    have := dues_ok (M := M.take k) hmet (fun w hw => (R.want w hw).2.1) d hd
    exact ⟨this.x0, this.xc, this.q0, this.q1, by have := this.u; omega⟩
  obtain ⟨r', hr'⟩ := run_first (k := k) (dues_ok (M := M) hf.1 fun w hw => (R.want w hw).2.1) hD' (fun j q hj _ _ => lessX_give R.sorted hk hj hl) (n := k) (i := 0) hM (formP_ok hM (by omega) hf.2).1 rfl (fun q _ _ => at'_nonneg R.s0 q) (by omega) hk hrun
  refine ⟨r', runAll_of (rightB_iff.2 (right_take R k)) ?_ (by rw [hlen]; exact hr')⟩
  simp only [formedB, Bool.and_eq_true]
  exact ⟨hmet, formP_take hk (by omega) hf.2 (Int.le_refl _)⟩
/-! ### A pass that is too great -/
theorem run_great {p K k0 : Nat} {D : List Due} (hD : ∀ d ∈ D, DueOk p k0 K d) {B : Int} : ∀ {M : List Meet} {k : Nat} {P : List Pass} {now : List Int}, (∀ m ∈ M, MeetOk p m) → PassOk k M P → now.length = p → (∀ q : Int, 0 ≤ q → q < p → 0 ≤ at' now q) → sumN p (at' now) ≤ B → (∃ x ∈ P, B < x.n) →
    runK D k (M.length + 1) P now = none
  | [], k, P, now, hM, hP, hl, hn, hs, ⟨x, hx, _⟩ => by rw [passOk_nil hP] at hx; cases hx
  | m :: M, k, P, now, hM, hP, hl, hn, hs, ⟨x, hx, hB⟩ => by
    simp only [List.length_cons, runK]
    split
    · rfl
    · rename_i now1 h1
      have hm := hM m (by simp)
      obtain ⟨q1, q2⟩ := runW_back (fun d hd => by have := hD d hd; exact ⟨this.x0, this.q0, by have := this.q1; omega⟩) (fun q h0 hh => hn q h0 (by omega)) h1
      have hl1 := runW_len h1
      rw [hl] at q1 q2
      have hs1 : sumN p (at' now1) ≤ sumN p (at' now) := sumN_le fun v hv => by
        rw [q1 v (by omega) (by omega)]
        have := give_nonneg (k := k) (q := v) (D := D) fun d hd => (hD d hd).x0
        omega
      split
      · rfl
      · rename_i now2 P2 h2
        have hl2 := runP_len h2
        have ra : 0 ≤ m.a ∧ m.a < p := ⟨hm.a0, hm.a1⟩
        have rb : 0 ≤ m.b ∧ m.b < p := ⟨hm.b0, hm.b1⟩
        obtain ⟨g, _, hg, hP2, hn2⟩ := runP_eff (M := M) hm hP (by omega) q2 h2
        have ga := hg m.a ra.1
        have gb := hg m.b rb.1
        rw [if_pos rfl] at ga
        rw [if_neg (fun e => hm.ne e.symm), if_pos rfl] at gb
        have hs2 : sumN p (at' now2) = sumN p (at' now1) := by
          rw [sumN_diff2 (g1 := at' now1) ra rb hm.ne fun v hv h1 h2 => by rw [hg v (by omega), if_neg h1, if_neg h2], ga, gb]; omega
        refine run_great hD (M := M) (k := k + 1) (P := P2) (now := now2) (fun m' hm' => hM m' (by simp [hm'])) hP2 (by omega) hn2 (by omega) ⟨x, ?_, hB⟩
        cases P with
        | nil => cases hx
        | cons y P =>
          simp only [runP] at h2
          split at h2
          · rename_i hy
            split at h2
            · cases h2
            · rename_i hneg
              cases h2
              rcases List.mem_cons.1 hx with rfl | hx
              · exfalso
                obtain ⟨_, m', h5, _, _, h8⟩ := hP.ok x (by simp)
                rw [hy, Int.sub_self] at h5
                simp at h5; subst h5
                have hfr : 0 ≤ x.fr ∧ x.fr < p := by rcases h8 with ⟨e, _⟩ | ⟨e, _⟩ <;> rw [e] <;> assumption
                have := sumN_mem (g := at' now1) (fun v hv => q2 v (by omega) (by omega)) hfr.1 hfr.2
                omega
              · exact hx
          · cases h2; exact hx
theorem runs_great {S : List Int} {M : List Meet} {W : List Want} {P : List Pass} {X r : List Int} (h : runAll S M W P X = (0, r)) {j : Nat} {x : Pass} (hj : P[j]? = some x) :
    (runAll S M W (P.set j { x with n := sumI S + 1 }) X).1 = 24 ∨ (runAll S M W (P.set j { x with n := sumI S + 1 }) X).1 = 2 := by
  obtain ⟨hr, hf, hrun⟩ := runAll_ok h
  have R := rightB_iff.1 hr
  have hM := fun m hm => (R.meet m hm).1
  unfold runAll
  rw [hr]
  cases hf' : formedB M W (P.set j { x with n := sumI S + 1 }) X
  · right; rfl
  · left
    simp only [formedB, Bool.and_eq_true] at hf'
    have := run_great (B := sumI S) (dues_ok (M := M) hf'.1 fun w hw => (R.want w hw).2.1) hM (formP_ok hM (by omega) hf'.2).1 rfl (fun q _ _ => at'_nonneg R.s0 q) (by rw [sumI_sumN]; exact Int.le_refl _) ⟨{ x with n := sumI S + 1 }, List.mem_iff_getElem?.2 ⟨j, by rw [List.getElem?_set]; simp [(List.getElem?_eq_some_iff.1 hj).1]⟩, by simp only; omega⟩
    simp only [cond_true, this]
end Pl

/- Networks, plainly: the arcs of the nodes, edge by edge. -/
namespace Pl
set_option linter.unusedVariables false
set_option linter.unusedSimpArgs false
structure ArcsTo (E : List Edge) (O : List (List Int)) (n m : Nat) : Prop where
  len : O.length = n
  ok : ∀ (v : Nat) l a, O[v]? = some l → a ∈ l → 0 ≤ a ∧ a / 2 < m ∧ tail E a = v
  all : ∀ (i : Nat) e, i < m → E[i]? = some e → (∃ l, O[e.f.toNat]? = some l ∧ (2 * i : Int) ∈ l) ∧ (∃ l, O[e.t.toNat]? = some l ∧ (2 * i + 1 : Int) ∈ l)
  few : ∀ l ∈ O, l.length ≤ 2 * m
theorem ArcsTo.start (E : List Edge) (n : Nat) : ArcsTo E (List.replicate n []) n 0 :=
  ⟨by simp, fun v l a h ha => (by rw [List.eq_of_mem_replicate (List.mem_of_getElem? h)] at ha; cases ha), fun i e hi => by omega, fun l hl => by rw [List.eq_of_mem_replicate hl]; simp⟩
theorem ArcsTo.done {E : List Edge} {O : List (List Int)} {n : Nat} (h : ArcsTo E O n E.length) (hE : ∀ e ∈ E, 0 ≤ e.f ∧ e.f < n ∧ 0 ≤ e.t ∧ e.t < n) : Arcs E O n :=
  ⟨h.len, hE, fun v l a h1 h2 => h.ok v l a h1 h2, fun i e hi => h.all i e (List.getElem?_eq_some_iff.1 hi).1 hi⟩
theorem ArcsTo.step {E : List Edge} {O : List (List Int)} {n m : Nat} (h : ArcsTo E O n m) {e : Edge} (he : E[m]? = some e) (hr : 0 ≤ e.f ∧ e.f < n ∧ 0 ≤ e.t ∧ e.t < n) {l1 l2 : List Int} (h1 : O[e.f.toNat]? = some l1) (h2 : (O.set e.f.toNat (l1 ++ [(2 * m : Int)]))[e.t.toNat]? = some l2) :
    ArcsTo E ((O.set e.f.toNat (l1 ++ [(2 * m : Int)])).set e.t.toNat (l2 ++ [(2 * m + 1 : Int)])) n (m + 1) := by
  have hf : e.f.toNat < O.length := (List.getElem?_eq_some_iff.1 h1).1
  have ht : e.t.toNat < O.length := by have := h.len; omega
  have e0 : ((2 * m : Int) / 2).toNat = m := by omega
  have e1 : ((2 * m + 1 : Int) / 2).toNat = m := by omega
  have t0 : tail E (2 * m) = e.f := by simp only [tail, e0, he]; rw [if_pos (by omega)]
  have t1 : tail E (2 * m + 1) = e.t := by simp only [tail, e1, he]; rw [if_neg (by omega)]
  have mono : ∀ (v : Nat) l a, O[v]? = some l → a ∈ l → ∃ l', ((O.set e.f.toNat (l1 ++ [(2 * m : Int)])).set e.t.toNat (l2 ++ [(2 * m + 1 : Int)]))[v]? = some l' ∧ a ∈ l' := by
    intro v l a hv ha
    have step1 : ∃ l', (O.set e.f.toNat (l1 ++ [(2 * m : Int)]))[v]? = some l' ∧ a ∈ l' := by
      by_cases c : e.f.toNat = v
      · subst c
        rw [h1] at hv; cases hv
        exact ⟨l1 ++ [(2 * m : Int)], by rw [List.getElem?_set]; simp [hf], by simp [ha]⟩
      · exact ⟨l, by rw [List.getElem?_set_ne c]; exact hv, ha⟩
    obtain ⟨l', q1, q2⟩ := step1
    by_cases c : e.t.toNat = v
    · subst c
      rw [h2] at q1; cases q1
      exact ⟨l2 ++ [(2 * m + 1 : Int)], by rw [List.getElem?_set]; simp [ht], by simp [q2]⟩
    · exact ⟨l', by rw [List.getElem?_set_ne c]; exact q1, q2⟩
  refine ⟨by simp [h.len], fun v l a hv ha => ?_, fun i x hi hx => ?_, fun l hl => ?_⟩
  · have key : ∀ (v : Nat) l a, (O.set e.f.toNat (l1 ++ [(2 * m : Int)]))[v]? = some l → a ∈ l → 0 ≤ a ∧ a / 2 < (m + 1 : Nat) ∧ tail E a = v := by
      intro v l a hv ha
      rcases get_set hv with ⟨rfl, rfl, _⟩ | ⟨_, hv⟩
      · rcases List.mem_append.1 ha with ha | ha
        · obtain ⟨q1, q2, q3⟩ := h.ok _ l1 a h1 ha
          exact ⟨q1, by omega, q3⟩
        · simp at ha; subst ha
          exact ⟨by omega, by omega, by rw [t0]; omega⟩
      · obtain ⟨q1, q2, q3⟩ := h.ok v l a hv ha
        exact ⟨q1, by omega, q3⟩
    rcases get_set hv with ⟨rfl, rfl, _⟩ | ⟨_, hv⟩
    · rcases List.mem_append.1 ha with ha | ha
      · exact key _ l2 a h2 ha
      · simp at ha; subst ha
        exact ⟨by omega, by omega, by rw [t1]; omega⟩
    · exact key v l a hv ha
  · by_cases him : i < m
    · obtain ⟨⟨a1, p1, p2⟩, ⟨a2, q1, q2⟩⟩ := h.all i x him hx
      exact ⟨mono _ a1 _ p1 p2, mono _ a2 _ q1 q2⟩
    · have : i = m := by omega
      subst this
      rw [he] at hx; cases hx
      refine ⟨?_, ⟨l2 ++ [(2 * i + 1 : Int)], by rw [List.getElem?_set]; simp [ht], by simp⟩⟩
      by_cases c : e.t.toNat = e.f.toNat
      · rw [c] at h2
        rw [List.getElem?_set] at h2
        simp [hf] at h2
        exact ⟨l2 ++ [(2 * i + 1 : Int)], by rw [← c, List.getElem?_set]; simp [ht], by rw [← h2]; simp⟩
      · exact ⟨l1 ++ [(2 * i : Int)], by rw [List.getElem?_set_ne c, List.getElem?_set]; simp [hf], by simp⟩
  · have f1 : ∀ l ∈ O.set e.f.toNat (l1 ++ [(2 * m : Int)]), l.length ≤ 2 * m + 1 := fun l hl => by
      rcases List.mem_or_eq_of_mem_set hl with hl | hl
      · have := h.few l hl; omega
      · subst hl; have := h.few l1 (List.mem_of_getElem? h1); simp; omega
    rcases List.mem_or_eq_of_mem_set hl with hl | hl
    · have := f1 l hl; omega
    · subst hl; have := f1 l2 (List.mem_of_getElem? h2); simp; omega
end Pl
