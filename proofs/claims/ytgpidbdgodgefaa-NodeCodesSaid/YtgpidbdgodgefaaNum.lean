/- Floats by their bits: which are NaN, which are equal; num's and the document's Same. Whatever the program. Conditions: as the theorems name them. -/
import Derived.WalkKit
import Ieee.Arith
namespace Go.Proofs.Ytgpidbdgodgefaa

/-- The bits of a NaN. -/
def isN (b : Nat) : Prop := 9218868437227405312 < b % 9223372036854775808
instance (b : Nat) : Decidable (isN b) := inferInstanceAs (Decidable (_ < _))
/-- The magnitude and the place of a rung below infinity's. -/
def mg (r : Nat) : Nat := if r < 4503599627370496 then r else 4503599627370496 + r % 4503599627370496
def plc (r : Nat) : Nat := if r < 4503599627370496 then 0 else r / 4503599627370496 - 1
def sg (b : Nat) : Bool := b / 9223372036854775808 % 2 == 1

theorem read_nan (b : Nat) (h : isN b) : Ieee.double.read b = .nan (sg b) (b % 9223372036854775808 - 9218868437227405312) := by
  unfold isN at h
  have e1 : Ieee.double.signWeight = 9223372036854775808 := by decide
  have e2 : Ieee.double.binade = 4503599627370496 := by decide
  have e3 : Ieee.double.infRung = 9218868437227405312 := by decide
  unfold Ieee.Format.read
  rw [e1, e2, e3]
  dsimp only
  rw [if_neg (by omega), if_neg (by omega), if_neg (by omega)]
  rfl
theorem read_inf (b : Nat) (h : b % 9223372036854775808 = 9218868437227405312) : Ieee.double.read b = .infinity (sg b) := by
  have e1 : Ieee.double.signWeight = 9223372036854775808 := by decide
  have e2 : Ieee.double.binade = 4503599627370496 := by decide
  have e3 : Ieee.double.infRung = 9218868437227405312 := by decide
  unfold Ieee.Format.read
  rw [e1, e2, e3]
  dsimp only
  rw [if_neg (by omega), if_neg (by omega), if_pos h]
  rfl
theorem read_num (b : Nat) (h : b % 9223372036854775808 < 9218868437227405312) : Ieee.double.read b = .number (sg b) (mg (b % 9223372036854775808)) (-1074 + plc (b % 9223372036854775808)) := by
  have e1 : Ieee.double.signWeight = 9223372036854775808 := by decide
  have e2 : Ieee.double.binade = 4503599627370496 := by decide
  have e3 : Ieee.double.infRung = 9218868437227405312 := by decide
  have e4 : Ieee.double.leastPlace = -1074 := by decide
  unfold Ieee.Format.read mg plc
  rw [e1, e2, e3, e4]
  dsimp only
  by_cases h1 : b % 9223372036854775808 < 4503599627370496
  · rw [if_pos h1, if_pos h1, if_pos h1]; rfl
  · rw [if_neg h1, if_neg h1, if_neg h1, if_pos h]; rfl

theorem mg_mono (r q : Nat) (h : r < q) : mg r <<< (plc r - min (plc r) (plc q)) < mg q <<< (plc q - min (plc r) (plc q)) := by
  have hp : plc r ≤ plc q := by unfold plc; split <;> split <;> omega
  rw [Nat.min_eq_left hp, Nat.sub_self, Nat.shiftLeft_zero, Nat.shiftLeft_eq]
  by_cases he : plc r = plc q
  · rw [he, Nat.sub_self, Nat.pow_zero, Nat.mul_one]
    revert he; unfold plc mg; split <;> split <;> intro he <;> omega
  · have h1 : mg r < 2 * 4503599627370496 := by unfold mg; split <;> omega
    have h2 : 4503599627370496 ≤ mg q := by
      unfold mg
      split
      · exfalso; apply he; unfold plc; rw [if_pos (by omega), if_pos (by assumption)]
      · omega
    have h3 : 2 ^ 1 ≤ 2 ^ (plc q - plc r) := Nat.pow_le_pow_right (by decide) (by omega)
    calc mg r < 4503599627370496 * 2 := by omega
      _ ≤ mg q * 2 ^ (plc q - plc r) := Nat.mul_le_mul h2 h3

theorem shl_zero (n k : Nat) : n <<< k = 0 ↔ n = 0 := by
  rw [Nat.shiftLeft_eq]
  constructor
  · intro h
    rcases Nat.mul_eq_zero.1 h with h | h
    · exact h
    · have := Nat.two_pow_pos k; omega
  · rintro rfl; simp

theorem mg_zero (r : Nat) : mg r = 0 ↔ r = 0 := by
  unfold mg; split <;> omega

theorem signed_eq (s t : Bool) (m n a b : Nat) : Ieee.signed s m a = Ieee.signed t n b ↔ (m <<< a = n <<< b ∧ (s = t ∨ m <<< a = 0)) := by
  unfold Ieee.signed
  generalize m <<< a = x
  generalize n <<< b = y
  cases s <;> cases t <;> simp only [Bool.false_eq_true, if_true, if_false, reduceCtorEq, false_or, true_or, and_true] <;> omega

theorem cmp_int (x y : Int) : compare x y = .eq ↔ x = y := by
  rw [Int.compare_eq_ite_lt] 
  by_cases h1 : x < y
  · rw [if_pos h1]; constructor
    · intro h; cases h
    · intro h; omega
  · rw [if_neg h1]
    by_cases h2 : y < x
    · rw [if_pos h2]; constructor
      · intro h; cases h
      · intro h; omega
    · rw [if_neg h2]; constructor
      · intro _; omega
      · intro _; rfl

/-- Which words are equal as numbers. -/
theorem order_eq (a b : Nat) (ha : a < 18446744073709551616) (hb : b < 18446744073709551616) :
    Ieee.double.order a b = some .eq ↔ (¬ isN a ∧ ¬ isN b ∧ (a = b ∨ (a % 9223372036854775808 = 0 ∧ b % 9223372036854775808 = 0))) := by
  unfold Ieee.Format.order
  by_cases hna : isN a
  · rw [read_nan a hna]
    constructor
    · intro h; cases h
    · intro h; exact absurd hna h.1
  by_cases hnb : isN b
  · rw [read_nan b hnb]
    constructor
    · intro h; revert h; cases Ieee.double.read a <;> (intro h; cases h)
    · intro h; exact absurd hnb h.2.1
  have hna' := hna; have hnb' := hnb
  unfold isN at hna hnb
  have hsa : ∀ s : Bool, sg a = s ↔ a / 9223372036854775808 = (if s then 1 else 0) := by
    intro s; unfold sg; cases s <;> simp <;> omega
  have hsb : ∀ s : Bool, sg b = s ↔ b / 9223372036854775808 = (if s then 1 else 0) := by
    intro s; unfold sg; cases s <;> simp <;> omega
  have key : sg a = sg b → a % 9223372036854775808 = b % 9223372036854775808 → a = b := by
    intro h1 h2
    have h3 := (hsa (sg b)).1 h1
    have h4 := (hsb (sg b)).1 rfl
    omega
  by_cases hia : a % 9223372036854775808 = 9218868437227405312
  · rw [read_inf a hia]
    by_cases hib : b % 9223372036854775808 = 9218868437227405312
    · rw [read_inf b hib]
      show some (compare (sg b).toNat (sg a).toNat) = some .eq ↔ _
      constructor
      · intro h
        refine ⟨hna', hnb', .inl (key ?_ (by omega))⟩
        revert h
        cases sg a <;> cases sg b <;> simp <;> decide
      · rintro ⟨_, _, h⟩
        have : a = b := by omega
        subst this
        cases sg a <;> decide
    · rw [read_num b (by omega)]
      show some (if sg a then Ordering.lt else .gt) = some .eq ↔ _
      constructor
      · intro h; revert h; cases sg a <;> intro h <;> cases h
      · rintro ⟨_, _, h⟩; omega
  · rw [read_num a (by omega)]
    by_cases hib : b % 9223372036854775808 = 9218868437227405312
    · rw [read_inf b hib]
      show some (if sg b then Ordering.gt else .lt) = some .eq ↔ _
      constructor
      · intro h; revert h; cases sg b <;> intro h <;> cases h
      · rintro ⟨_, _, h⟩; omega
    · rw [read_num b (by omega)]
      generalize hr : a % 9223372036854775808 = r at *
      generalize hq : b % 9223372036854775808 = q at *
      show some (compare (Ieee.signed (sg a) (mg r) ((-1074 + (plc r : Int)) - min (-1074 + (plc r : Int)) (-1074 + (plc q : Int))).toNat) (Ieee.signed (sg b) (mg q) ((-1074 + (plc q : Int)) - min (-1074 + (plc r : Int)) (-1074 + (plc q : Int))).toNat)) = some .eq ↔ _
      have e1 : ((-1074 + (plc r : Int)) - min (-1074 + (plc r : Int)) (-1074 + (plc q : Int))).toNat = plc r - min (plc r) (plc q) := by omega
      have e2 : ((-1074 + (plc q : Int)) - min (-1074 + (plc r : Int)) (-1074 + (plc q : Int))).toNat = plc q - min (plc r) (plc q) := by omega
      rw [e1, e2, Option.some.injEq, cmp_int, signed_eq]
      have hrq : mg r <<< (plc r - min (plc r) (plc q)) = mg q <<< (plc q - min (plc r) (plc q)) ↔ r = q := by
        constructor
        · intro h
          rcases Nat.lt_trichotomy r q with hl | hl | hl
          · have := mg_mono r q hl; omega
          · exact hl
          · have := mg_mono q r hl
            rw [Nat.min_comm (plc q) (plc r)] at this
            omega
        · rintro rfl; rfl
      rw [hrq, shl_zero, mg_zero]
      constructor
      · rintro ⟨h1, h2 | h2⟩
        · exact ⟨hna', hnb', .inl (key h2 h1)⟩
        · exact ⟨hna', hnb', .inr ⟨h2, by omega⟩⟩
      · rintro ⟨_, _, h | h⟩
        · subst h
          exact ⟨by omega, .inl rfl⟩
        · exact ⟨by omega, .inr h.1⟩

/-- The bits with every NaN as the one. -/
def plainB (b : Nat) : Nat := if isN b then 9221120237041090561 else b
theorem plainB_lt {b : Nat} (h : b < 18446744073709551616) : plainB b < 18446744073709551616 := by
  unfold plainB; split
  · decide
  · exact h
theorem plainB_idem (b : Nat) : plainB (plainB b) = plainB b := by
  unfold plainB
  by_cases h : isN b
  · rw [if_pos h]
    have : isN 9221120237041090561 := by decide
    rw [if_pos this]
  · rw [if_neg h, if_neg h]
/-- Is it as it is stored? -/
theorem plainB_self {b : Nat} : plainB b = b ↔ (isN b → b = 9221120237041090561) := by
  unfold plainB
  by_cases h : isN b
  · rw [if_pos h]
    constructor
    · intro e _; exact e.symm
    · intro e; exact (e h).symm
  · rw [if_neg h]
    constructor
    · intro _ h'; exact absurd h' h
    · intro _; rfl

theorem nan_bool (b : Nat) (h : b < 18446744073709551616) : (FloatKind.f64.format.order b b != some .eq) = decide (isN b) := by
  have := order_eq b b h h
  by_cases hn : isN b
  · have h1 : ¬ (Ieee.double.order b b = some .eq) := fun e => (this.1 e).1 hn
    show (Ieee.double.order b b != some .eq) = _
    simp [hn, h1]
  · have h1 : Ieee.double.order b b = some .eq := this.2 ⟨hn, hn, .inl rfl⟩
    show (Ieee.double.order b b != some .eq) = _
    simp [hn, h1]
theorem zero_bool (b : Nat) (h : b < 18446744073709551616) : (FloatKind.f64.format.order b 0 == some .eq) = (b % 9223372036854775808 == 0) := by
  have := order_eq b 0 h (by decide)
  show (Ieee.double.order b 0 == some Ordering.eq) = (b % 9223372036854775808 == 0)
  by_cases hz : b % 9223372036854775808 = 0
  · have h1 : Ieee.double.order b 0 = some .eq := this.2 ⟨by unfold isN; omega, by decide, .inr ⟨hz, rfl⟩⟩
    rw [h1, hz]; rfl
  · have h1 : Ieee.double.order b 0 ≠ some .eq := fun e => by
      obtain ⟨_, _, e⟩ := this.1 e
      omega
    rw [beq_false_of_ne h1, beq_false_of_ne hz]
/-- What is no NaN stands somehow to what is none. -/
theorem order_some {a b : Nat} (ha : ¬ isN a) (hb : ¬ isN b) : ∃ o, FloatKind.f64.format.order a b = some o := by
  show ∃ o, Ieee.double.order a b = some o
  unfold Ieee.Format.order
  have h1 : ∀ x, ¬ isN x → (∃ s, Ieee.double.read x = .infinity s) ∨ ∃ s m i, Ieee.double.read x = .number s m i := by
    intro x hx
    unfold isN at hx
    by_cases h : x % 9223372036854775808 = 9218868437227405312
    · exact .inl ⟨_, read_inf x h⟩
    · exact .inr ⟨_, _, _, read_num x (by omega)⟩
  rcases h1 a ha with ⟨s, e⟩ | ⟨s, m, i, e⟩ <;> rcases h1 b hb with ⟨s', e'⟩ | ⟨s', m', i', e'⟩ <;> rw [e, e'] <;> exact ⟨_, rfl⟩

/-- num's two sides of a number. -/
def sideN (b : Nat) : Int := if isN b then 1 else 0
def sideZ (b : Nat) : Int := if b = 9223372036854775808 then -1 else 0
end Go.Proofs.Ytgpidbdgodgefaa
