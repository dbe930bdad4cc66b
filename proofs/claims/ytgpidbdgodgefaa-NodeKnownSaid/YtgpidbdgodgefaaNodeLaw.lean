/- The plain law of nodes' bytes: what is laid is read back, what is read is laid so. No program. Conditions: as the theorems name them. -/
import Derived.Test.YtgpidbdgodgefaaRead
import Derived.Test.YtgpidbdgodgefaaPlain1
namespace Go.Proofs.Ytgpidbdgodgefaa
open Go.RowKit

theorem num_inj : ∀ (l l' : List UInt8), l.length = l'.length → num l = num l' → l = l'
  | [], [], _, _ => rfl
  | [], _ :: _, h, _ => by cases h
  | _ :: _, [], h, _ => by cases h
  | c :: l, c' :: l', h, e => by
    have hl : l.length = l'.length := by simpa using h
    rw [num_cons, num_cons, ← hl] at e
    have h1 := num_lt l
    have h2 := num_lt l'
    rw [← hl] at h2
    have hp : 0 < 256 ^ l.length := Nat.pow_pos (by decide)
    have hc : c.toNat = c'.toNat := by
      have e1 : (c.toNat * 256 ^ l.length + num l) / 256 ^ l.length = c.toNat := by
        rw [Nat.mul_comm, Nat.mul_add_div hp, Nat.div_eq_of_lt h1, Nat.add_zero]
      have e2 : (c'.toNat * 256 ^ l.length + num l') / 256 ^ l.length = c'.toNat := by
        rw [Nat.mul_comm, Nat.mul_add_div hp, Nat.div_eq_of_lt h2, Nat.add_zero]
      rw [← e1, ← e2, e]
    have hn : num l = num l' := by
      rw [hc] at e
      omega
    rw [UInt8.toNat.inj hc, num_inj l l' hl hn]
theorem be_num (l : List UInt8) : be l.length (num l) = l := by
  refine num_inj _ _ (be_length _ _) ?_
  rw [num_be, Nat.mod_eq_of_lt (num_lt l)]
theorem taken_ok {bs : List UInt8} {lack : Bool} {n : Nat} (h : (taken bs lack n).2.2 = false) : lack = false ∧ bs = (taken bs lack n).1 ++ (taken bs lack n).2.1 ∧ (taken bs lack n).1.length = n := by
  unfold taken at h ⊢
  split at h
  · cases h
  · rename_i hc
    rw [if_neg hc]
    refine ⟨by cases lack <;> simp at hc ⊢, by simp, ?_⟩
    simp
    omega
theorem textTaken_ok {bs : List UInt8} {lack : Bool} (h : (textTaken bs lack).2.2 = false) : lack = false ∧ bs = texted (textTaken bs lack).1 ++ (textTaken bs lack).2.1 := by
  unfold textTaken at h ⊢
  obtain ⟨h1, h2, h3⟩ := taken_ok (n := num (taken bs lack 2).1) h
  obtain ⟨k1, k2, k3⟩ := taken_ok (n := 2) h1
  refine ⟨k1, ?_⟩
  have e : be 2 (taken (taken bs lack 2).2.1 (taken bs lack 2).2.2 (num (taken bs lack 2).1)).1.length = (taken bs lack 2).1 := by
    rw [h3]
    have := be_num (taken bs lack 2).1
    rw [show (taken bs lack 2).1.length = 2 from k3] at this
    exact this
  unfold texted
  rw [e, List.append_assoc]
  exact k2.trans (congrArg _ h2)

theorem u64_nat (k : Nat) (h : k < 18446744073709551616) : u64 (k : Int) = k := by unfold u64; omega

/-- What is taken without lack was laid so. -/
theorem take_back {bs : List UInt8} {lack : Bool} (h : (tk4 bs lack).2.2 = false) : lack = false ∧ bs = layB (takeNode bs lack) ++ (tk4 bs lack).2.1 := by
  obtain ⟨a1, a2⟩ := textTaken_ok (bs := (tk3 bs lack).2.1) (lack := (tk3 bs lack).2.2) h
  obtain ⟨b1, b2, b3⟩ := taken_ok (bs := (tk2 bs lack).2.1) (lack := (tk2 bs lack).2.2) (n := 8) a1
  obtain ⟨c1, c2, c3⟩ := taken_ok (bs := (tk1 bs lack).2.1) (lack := (tk1 bs lack).2.2) (n := 2) b1
  obtain ⟨d1, d2, d3⟩ := taken_ok (bs := bs) (lack := lack) (n := 1) c1
  refine ⟨d1, ?_⟩
  have e1 : be 1 (u64 ((num (tk1 bs lack).1 : Nat) : Int)) = (tk1 bs lack).1 := by
    have h1 := num_lt (tk1 bs lack).1
    have h2 : (tk1 bs lack).1.length = 1 := d3
    have h3 := be_num (tk1 bs lack).1
    rw [h2] at h1 h3
    rw [u64_nat _ (by omega), h3]
  have e2 : be 2 (u64 ((num (tk2 bs lack).1 : Nat) : Int)) = (tk2 bs lack).1 := by
    have h1 := num_lt (tk2 bs lack).1
    have h2 : (tk2 bs lack).1.length = 2 := c3
    have h3 := be_num (tk2 bs lack).1
    rw [h2] at h1 h3
    rw [u64_nat _ (by omega), h3]
  have e3 : be 8 (num (tk3 bs lack).1) = (tk3 bs lack).1 := by
    have h2 : (tk3 bs lack).1.length = 8 := b3
    have h3 := be_num (tk3 bs lack).1
    rw [h2] at h3
    exact h3
  have d2' : bs = (tk1 bs lack).1 ++ (tk1 bs lack).2.1 := d2
  have c2' : (tk1 bs lack).2.1 = (tk2 bs lack).1 ++ (tk2 bs lack).2.1 := c2
  have b2' : (tk2 bs lack).2.1 = (tk3 bs lack).1 ++ (tk3 bs lack).2.1 := b2
  have a2' : (tk3 bs lack).2.1 = texted (tk4 bs lack).1 ++ (tk4 bs lack).2.1 := a2
  have hl : layB (takeNode bs lack) = (tk1 bs lack).1 ++ (tk2 bs lack).1 ++ (tk3 bs lack).1 ++ texted (tk4 bs lack).1 := by
    unfold layB takeNode
    dsimp only
    rw [e1, e2, e3]
  rw [hl, List.append_assoc, ← a2', List.append_assoc, ← b2', List.append_assoc, ← c2', ← d2']

theorem rightN_kind {n : NodeV} (h : rightN n = true) : 1 ≤ n.kind ∧ n.kind ≤ 3 ∧ 0 ≤ n.mode ∧ n.mode ≤ 4095 ∧ plainB n.time = n.time := by
  unfold rightN dataN at h
  simp only [Bool.and_eq_true, decide_eq_true_eq, beq_iff_eq] at h
  obtain ⟨h1, h2, h3, h4⟩ := h
  refine ⟨?_, ?_, h2, h3, h4⟩ <;>
  · split at h1
    · omega
    · split at h1
      · omega
      · split at h1
        · omega
        · cases h1
/-- What is laid is taken back. -/
theorem take_laid {n : NodeV} (h : rightN n = true) (ht : n.time < 18446744073709551616) (ys : List UInt8) :
    takeNode (layB n ++ ys) false = n ∧ (tk4 (layB n ++ ys) false).2.1 = ys ∧ (tk4 (layB n ++ ys) false).2.2 = false := by
  obtain ⟨h1, h2, h3, h4, _⟩ := rightN_kind h
  have hl := rightN_len h
  have e1 : tk1 (layB n ++ ys) false = (be 1 (u64 n.kind), be 2 (u64 n.mode) ++ (be 8 n.time ++ (texted n.bs ++ ys)), false) := by
    unfold tk1 layB
    rw [List.append_assoc, List.append_assoc, List.append_assoc]
    exact taken_append _ _ 1 (be_length _ _)
  have e2 : tk2 (layB n ++ ys) false = (be 2 (u64 n.mode), be 8 n.time ++ (texted n.bs ++ ys), false) := by
    unfold tk2
    rw [e1]
    exact taken_append _ _ 2 (be_length _ _)
  have e3 : tk3 (layB n ++ ys) false = (be 8 n.time, texted n.bs ++ ys, false) := by
    unfold tk3
    rw [e2]
    exact taken_append _ _ 8 (be_length _ _)
  have e4 : tk4 (layB n ++ ys) false = (n.bs, ys, false) := by
    unfold tk4
    rw [e3]
    exact textTaken_append _ _ (by omega)
  refine ⟨?_, by rw [e4], by rw [e4]⟩
  unfold takeNode
  rw [e1, e2, e3, e4]
  obtain ⟨k, m, t, xs⟩ := n
  simp only [num_be, NodeV.mk.injEq]
  dsimp only at h1 h2 h3 h4 ht
  unfold u64
  refine ⟨by omega, by omega, Nat.mod_eq_of_lt ht, trivial⟩
theorem readN_laid {n : NodeV} (h : rightN n = true) (ht : n.time < 18446744073709551616) : readN (layB n) = some n := by
  obtain ⟨h1, h2, h3⟩ := take_laid h ht []
  rw [List.append_nil] at h1 h2 h3
  unfold readN takeOk
  rw [h1, h2, h3, h]
  simp
theorem readN_back {bs : List UInt8} {n : NodeV} (h : readN bs = some n) : layB n = bs ∧ rightN n = true ∧ n.time < 18446744073709551616 := by
  unfold readN at h
  split at h
  · rename_i hc
    obtain rfl : takeNode bs false = n := by simpa using h
    obtain ⟨hok, hr⟩ := hc
    unfold takeOk at hok
    simp only [Bool.and_eq_true, Bool.not_eq_true'] at hok
    obtain ⟨_, h2⟩ := take_back hok.1
    rw [hr, List.append_nil] at h2
    exact ⟨h2.symm, hok.2, takeNode_time _ _⟩
  · cases h
/-- Two have the same bytes just where they are the same. -/
theorem layB_same {a b : NodeV} (ha : rightN a = true) (hb : rightN b = true) (ta : a.time < 18446744073709551616) (tb : b.time < 18446744073709551616) : (layB a = layB b) ↔ sameN a b = true := by
  have pa := (rightN_kind ha).2.2.2.2
  have pb := (rightN_kind hb).2.2.2.2
  have e : sameN a b = true ↔ a = b := by
    obtain ⟨k, m, t, xs⟩ := a
    obtain ⟨k', m', t', xs'⟩ := b
    unfold sameN sameT
    dsimp only at pa pb ⊢
    simp only [Bool.and_eq_true, beq_iff_eq, pa, pb, NodeV.mk.injEq]
  rw [e]
  constructor
  · intro h
    have h1 := readN_laid ha ta
    rw [h, readN_laid hb tb] at h1
    exact (Option.some.inj h1).symm
  · intro h; rw [h]

theorem nmB_zero (k : Nat) : (0 : UInt8) ∉ nmB k := by
  unfold nmB
  split <;> decide
theorem pathLoop_zero : ∀ (k n : Nat) (p : List UInt8), (0 : UInt8) ∉ p → (0 : UInt8) ∉ pathLoop k n p
  | 0, _, _, h => h
  | k + 1, n, p, h => by
    unfold pathLoop
    refine pathLoop_zero k _ _ ?_
    have h2 := nmB_zero (n / 7 % 6)
    simp only [List.mem_append, not_or]
    exact ⟨⟨h, by decide⟩, h2⟩
theorem linkB_zero (m : Int) : (0 : UInt8) ∉ linkB m := by
  have h : (0 : UInt8) ∉ pathB m := pathLoop_zero _ _ _ (nmB_zero _)
  unfold linkB
  simp only [List.mem_append, not_or]
  exact ⟨by split <;> decide, by split <;> decide, h⟩
/-- A node of a raw one may be. -/
theorem handNode_right (k m t : Int) (x : Nat) (d : List UInt8) : rightN (handNode k m t x d) = true := by
  have h1 := linkB_len m
  have h2 := linkB_zero m
  unfold rightN dataN handNode
  dsimp only
  rw [plainB_idem]
  have hk : k % 3 = 0 ∨ k % 3 = 1 ∨ k % 3 = 2 := by omega
  have hm1 : 0 ≤ m % 4096 := by omega
  have hm2 : m % 4096 ≤ 4095 := by omega
  rcases hk with e | e | e <;> rw [e] <;> simp [hm1, hm2, h2] <;> omega
theorem handNode_time (k m t : Int) (x : Nat) (d : List UInt8) (hx : x < 18446744073709551616) : (handNode k m t x d).time < 18446744073709551616 := plainB_lt (timeB_lt t x hx)
end Go.Proofs.Ytgpidbdgodgefaa
