/- Plain laws on numbers as bytes: what is laid is taken again. Conditions: as the theorems name them. -/
import Derived.Test.YtgpidbdgodgefaaGet
namespace Go.Proofs.Ytgpidbdgodgefaa

theorem num_foldl : ∀ (l : List UInt8) (v : Nat), l.foldl (fun v c => v * 256 + c.toNat) v = v * 256 ^ l.length + num l
  | [], v => by simp [num]
  | c :: l, v => by
    have h1 := num_foldl l (v * 256 + c.toNat)
    have h2 := num_foldl l (0 * 256 + c.toNat)
    rw [List.foldl_cons, h1]
    unfold num
    rw [List.foldl_cons, h2]
    unfold num
    rw [List.length_cons, Nat.pow_succ, Nat.add_mul, Nat.zero_mul, Nat.zero_add, Nat.mul_assoc, Nat.mul_comm 256, Nat.add_assoc]
theorem num_cons (c : UInt8) (l : List UInt8) : num (c :: l) = c.toNat * 256 ^ l.length + num l := by
  have := num_foldl l (0 * 256 + c.toNat)
  rw [Nat.zero_mul, Nat.zero_add] at this
  unfold num
  rw [List.foldl_cons, Nat.zero_mul, Nat.zero_add]
  exact this
theorem num_be (n v : Nat) : num (be n v) = v % 256 ^ n := by
  induction n with
  | zero => simp [be, num, Nat.mod_one]
  | succ n ih =>
    rw [be, num_cons, be_length, ih, UInt8.toNat_ofNat', Nat.shiftRight_eq_div_pow]
    have e : 2 ^ (8 * n) = 256 ^ n := by rw [Nat.pow_mul]
    have e2 : v % (256 ^ n * 256) = v % 256 ^ n + 256 ^ n * (v / 256 ^ n % 256) := Nat.mod_mul
    rw [e, Nat.pow_succ 256 n, e2, Nat.mul_comm (256 ^ n), Nat.add_comm]

theorem taken_lack (bs : List UInt8) (n : Int) : taken bs true n = ([], [], true) := by unfold taken; rw [if_pos (.inl rfl)]
theorem taken_short (bs : List UInt8) (lack : Bool) (n : Nat) (h : bs.length < n) : taken bs lack n = ([], [], true) := by
  unfold taken; rw [if_pos (.inr (.inr (by omega)))]
theorem taken_long (bs : List UInt8) (n : Nat) (h : n ≤ bs.length) : taken bs false n = (bs.take n, bs.drop n, false) := by
  unfold taken
  rw [if_neg (by simp; omega)]
  simp
theorem textTaken_lack (bs : List UInt8) : textTaken bs true = ([], [], true) := by
  unfold textTaken
  rw [taken_lack, taken_lack]

/-- What is laid ahead is taken. -/
theorem taken_append (xs ys : List UInt8) (n : Nat) (h : xs.length = n) : taken (xs ++ ys) false n = (xs, ys, false) := by
  rw [taken_long _ _ (by simp; omega)]
  subst h
  simp
theorem textTaken_append (xs ys : List UInt8) (h : xs.length < 65536) : textTaken (texted xs ++ ys) false = (xs, ys, false) := by
  unfold textTaken texted
  have h2 : taken (be 2 xs.length ++ xs ++ ys) false 2 = (be 2 xs.length, xs ++ ys, false) := by
    rw [List.append_assoc]
    exact taken_append _ _ 2 (be_length _ _)
  rw [h2]
  dsimp only
  rw [num_be, Nat.mod_eq_of_lt (by simpa using h)]
  exact taken_append xs ys xs.length rfl

/-- The chain of OctetSizes: what is cut off anywhere lacks. -/
theorem sizes_chain (pre : List UInt8) (h : pre.length < 17 ∨ pre.length - 17 < num ((pre.drop 15).take 2)) :
    let s1 := taken pre false 1
    let s2 := taken s1.2.1 s1.2.2 2
    let s3 := taken s2.2.1 s2.2.2 4
    let s4 := taken s3.2.1 s3.2.2 8
    textTaken s4.2.1 s4.2.2 = ([], [], true) := by
  intro s1 s2 s3 s4
  by_cases h1 : pre.length < 1
  · have e1 : s1 = ([], [], true) := taken_short _ _ 1 h1
    have e2 : s2 = ([], [], true) := by show taken s1.2.1 s1.2.2 2 = _; rw [e1]; exact taken_lack _ _
    have e3 : s3 = ([], [], true) := by show taken s2.2.1 s2.2.2 4 = _; rw [e2]; exact taken_lack _ _
    have e4 : s4 = ([], [], true) := by show taken s3.2.1 s3.2.2 8 = _; rw [e3]; exact taken_lack _ _
    rw [e4]; exact textTaken_lack _
  have e1 : s1 = (pre.take 1, pre.drop 1, false) := taken_long _ 1 (by omega)
  by_cases h2 : pre.length < 3
  · have e2 : s2 = ([], [], true) := by show taken s1.2.1 s1.2.2 2 = _; rw [e1]; exact taken_short _ _ 2 (by simp; omega)
    have e3 : s3 = ([], [], true) := by show taken s2.2.1 s2.2.2 4 = _; rw [e2]; exact taken_lack _ _
    have e4 : s4 = ([], [], true) := by show taken s3.2.1 s3.2.2 8 = _; rw [e3]; exact taken_lack _ _
    rw [e4]; exact textTaken_lack _
  have e2 : s2.2 = (pre.drop 3, false) := by
    show (taken s1.2.1 s1.2.2 2).2 = _; rw [e1]
    have := taken_long (pre.drop 1) 2 (by simp; omega)
    exact (congrArg Prod.snd this).trans (by simp)
  by_cases h3 : pre.length < 7
  · have e3 : s3 = ([], [], true) := by show taken s2.2.1 s2.2.2 4 = _; rw [e2]; exact taken_short _ _ 4 (by simp; omega)
    have e4 : s4 = ([], [], true) := by show taken s3.2.1 s3.2.2 8 = _; rw [e3]; exact taken_lack _ _
    rw [e4]; exact textTaken_lack _
  have e3 : s3.2 = (pre.drop 7, false) := by
    show (taken s2.2.1 s2.2.2 4).2 = _; rw [e2]
    have := taken_long (pre.drop 3) 4 (by simp; omega)
    exact (congrArg Prod.snd this).trans (by simp)
  by_cases h4 : pre.length < 15
  · have e4 : s4 = ([], [], true) := by show taken s3.2.1 s3.2.2 8 = _; rw [e3]; exact taken_short _ _ 8 (by simp; omega)
    rw [e4]; exact textTaken_lack _
  have e4 : s4.2 = (pre.drop 15, false) := by
    show (taken s3.2.1 s3.2.2 8).2 = _; rw [e3]
    have := taken_long (pre.drop 7) 8 (by simp; omega)
    exact (congrArg Prod.snd this).trans (by simp)
  rw [e4]
  unfold textTaken
  by_cases h5 : pre.length < 17
  · have e5 : taken (pre.drop 15) false 2 = ([], [], true) := taken_short _ _ 2 (by simp; omega)
    dsimp only
    rw [e5]
    exact taken_lack _ _
  · have e5 : taken (pre.drop 15) false 2 = ((pre.drop 15).take 2, (pre.drop 15).drop 2, false) := taken_long _ 2 (by simp; omega)
    dsimp only
    rw [e5]
    exact taken_short _ _ _ (by simp; omega)
end Go.Proofs.Ytgpidbdgodgefaa
