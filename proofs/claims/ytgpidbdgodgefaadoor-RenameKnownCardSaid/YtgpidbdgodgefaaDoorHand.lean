/- The contracts of Name and Path of package pentimentohand. Conditions: as the theorems name them. -/
import Derived.Test.YtgpidbdgodgefaaDoorCore
import Derived.Test.YtgpidbdgodgefaaDoorChecked
import Derived.Laws.Strings
namespace Go.Proofs.YtgpidbdgodgefaaDoor
open Go.RowKit

set_option maxHeartbeats 400000 in
theorem pick_any (n m : Int) (w : World) (hm : 0 < m) (hm2 : m ≤ 9223372036854775807) (_hn : -9223372036854775808 ≤ n) (_hn2 : n ≤ 9223372036854775807) :
    Calls Tryd.prog 36 #[.int .i64 n, .int .i64 m] w fun e w' => e = .returned (.int .i64 (n % m)) ∧ w = w' := by
  go_enter Tryd.func36, Tryd.ntmps36
  go_wp2
  · have h : n.tmod m < 0 := by assumption
    have h3 := Int.emod_nonneg n (show m ≠ 0 by omega)
    have h4 := Int.emod_lt_of_pos n hm
    go_ret
    refine ⟨?_, rfl⟩
    have e := tmod_neg_emod n m hm h
    simp only [Array.getD]
    simp [e]
    rw [IntWalk.wrap64_in _ (by omega)]
  · have h : 0 ≤ n.tmod m := by assumption
    go_ret
    refine ⟨?_, rfl⟩
    have e := tmod_nonneg_emod n m hm h
    simp [e]

/-- The six names. -/
def nmB : Nat → List UInt8
  | 0 => [97]
  | 1 => [98]
  | 2 => [99]
  | 3 => [100, 46, 101]
  | 4 => [102, 45, 49]
  | _ => [255]
theorem nmB_len (k : Nat) : 1 ≤ (nmB k).length ∧ (nmB k).length ≤ 3 := by
  unfold nmB
  split <;> decide
/-- The steps of Path. -/
def pathLoop : Nat → Nat → List UInt8 → List UInt8
  | 0, _, p => p
  | k + 1, n, p => pathLoop k (n / 7) ((p ++ [47]) ++ nmB (n / 7 % 6))
def pathN (m : Nat) : List UInt8 := pathLoop (m / 6 % 3) m (nmB (m % 6))
def pathB (n : Int) : List UInt8 := pathN (n % 1073741824).toNat
theorem pathLoop_len : ∀ (k n : Nat) (p : List UInt8), p.length ≤ (pathLoop k n p).length ∧ (pathLoop k n p).length ≤ p.length + 4 * k
  | 0, _, p => ⟨Nat.le_refl _, Nat.le_refl _⟩
  | k + 1, n, p => by
    have h1 := pathLoop_len k (n / 7) ((p ++ [47]) ++ nmB (n / 7 % 6))
    have h2 := nmB_len (n / 7 % 6)
    unfold pathLoop
    simp only [List.length_append, List.length_singleton] at h1
    omega
theorem pathB_len (n : Int) : 1 ≤ (pathB n).length ∧ (pathB n).length ≤ 11 := by
  unfold pathB pathN
  generalize (n % 1073741824).toNat = m
  have h1 := pathLoop_len (m / 6 % 3) m (nmB (m % 6))
  have h2 := nmB_len (m % 6)
  omega

theorem bytes_append (xs ys : List UInt8) : (⟨xs.toArray⟩ : ByteArray) ++ ⟨ys.toArray⟩ = ⟨(xs ++ ys).toArray⟩ := by
  refine ByteArray.ext ?_
  simp [ByteArray.data_append]
theorem run_cat (xs ys : List UInt8) (h : xs.length + ys.length ≤ 9223372036854775807) (w : World) : (Op.stringOp .add ⟨xs.toArray⟩ ⟨ys.toArray⟩).run Tryd.prog w = .ok (.string ⟨(xs ++ ys).toArray⟩) w := by
  rw [← bytes_append]
  exact run_string_add_sum _ _ _ (by simpa [ByteArray.size] using h)

set_option maxRecDepth 100000 in
set_option maxHeartbeats 400000 in
theorem Name_any (n : Int) (w : World) (hn : -9223372036854775808 ≤ n) (hn2 : n ≤ 9223372036854775807) :
    Calls Tryd.prog 18 #[.int .i64 n] w fun e w' => e = .returned (.string ⟨(nmB (n % 6).toNat).toArray⟩) ∧ w = w' := by
  have x0 : ∀ w : World, (Instr.index 78 (.agg #[.string ⟨#[97]⟩, .string ⟨#[98]⟩, .string ⟨#[99]⟩, .string ⟨#[100, 46, 101]⟩, .string ⟨#[102, 45, 49]⟩, .string ⟨#[255]⟩]) (.int .i64 0)).run Tryd.prog w = .ok (.string ⟨#[97]⟩) w := fun w => by kernel_rfl
  have x1 : ∀ w : World, (Instr.index 78 (.agg #[.string ⟨#[97]⟩, .string ⟨#[98]⟩, .string ⟨#[99]⟩, .string ⟨#[100, 46, 101]⟩, .string ⟨#[102, 45, 49]⟩, .string ⟨#[255]⟩]) (.int .i64 1)).run Tryd.prog w = .ok (.string ⟨#[98]⟩) w := fun w => by kernel_rfl
  have x2 : ∀ w : World, (Instr.index 78 (.agg #[.string ⟨#[97]⟩, .string ⟨#[98]⟩, .string ⟨#[99]⟩, .string ⟨#[100, 46, 101]⟩, .string ⟨#[102, 45, 49]⟩, .string ⟨#[255]⟩]) (.int .i64 2)).run Tryd.prog w = .ok (.string ⟨#[99]⟩) w := fun w => by kernel_rfl
  have x3 : ∀ w : World, (Instr.index 78 (.agg #[.string ⟨#[97]⟩, .string ⟨#[98]⟩, .string ⟨#[99]⟩, .string ⟨#[100, 46, 101]⟩, .string ⟨#[102, 45, 49]⟩, .string ⟨#[255]⟩]) (.int .i64 3)).run Tryd.prog w = .ok (.string ⟨#[100, 46, 101]⟩) w := fun w => by kernel_rfl
  have x4 : ∀ w : World, (Instr.index 78 (.agg #[.string ⟨#[97]⟩, .string ⟨#[98]⟩, .string ⟨#[99]⟩, .string ⟨#[100, 46, 101]⟩, .string ⟨#[102, 45, 49]⟩, .string ⟨#[255]⟩]) (.int .i64 4)).run Tryd.prog w = .ok (.string ⟨#[102, 45, 49]⟩) w := fun w => by kernel_rfl
  have x5 : ∀ w : World, (Instr.index 78 (.agg #[.string ⟨#[97]⟩, .string ⟨#[98]⟩, .string ⟨#[99]⟩, .string ⟨#[100, 46, 101]⟩, .string ⟨#[102, 45, 49]⟩, .string ⟨#[255]⟩]) (.int .i64 5)).run Tryd.prog w = .ok (.string ⟨#[255]⟩) w := fun w => by kernel_rfl
  go_enter Tryd.func18, Tryd.ntmps18
  go_wp2_with fail
  refine (pick_any n 6 _ (by decide) (by decide) hn hn2).mono ?_
  rintro e w' ⟨rfl, rfl⟩
  have h0 := Int.emod_nonneg n (show (6 : Int) ≠ 0 by decide)
  have h1 := Int.emod_lt_of_pos n (show (0 : Int) < 6 by decide)
  obtain ⟨c, hcn⟩ : ∃ c, n % 6 = c := ⟨_, rfl⟩
  have HC := Lib.hid hcn
  rw [hcn] at h0 h1
  rw [hcn]
  clear hcn
  have hc : c = 0 ∨ c = 1 ∨ c = 2 ∨ c = 3 ∨ c = 4 ∨ c = 5 := by omega
  clear h0 h1
  rcases hc with rfl | rfl | rfl | rfl | rfl | rfl
  all_goals
    go_wp2
    go_ret
    rw [HC.out]
    exact ⟨rfl, rfl⟩

set_option maxHeartbeats 400000 in
theorem Path_any (n : Int) (w : World) (hn : -9223372036854775808 ≤ n) (hn2 : n ≤ 9223372036854775807) :
    Calls Tryd.prog 16 #[.int .i64 n] w fun e w' => e = .returned (.string ⟨(pathB n).toArray⟩) ∧ w = w' := by
  go_enter Tryd.func16, Tryd.ntmps16
  go_wp2_with fail
  refine (pick_any n 1073741824 _ (by decide) (by decide) hn hn2).mono ?_
  rintro e w' ⟨rfl, rfl⟩
  have h0 := Int.emod_nonneg n (show (1073741824 : Int) ≠ 0 by decide)
  have h1 := Int.emod_lt_of_pos n (show (0 : Int) < 1073741824 by decide)
  obtain ⟨m, hm⟩ : ∃ m : Nat, n % 1073741824 = (m : Int) := ⟨(n % 1073741824).toNat, by omega⟩
  have HP : Hid (pathB n = pathN m) := by
    show _ = _
    unfold pathB
    rw [hm]
    simp
  rw [hm]
  have hml : m < 1073741824 := by omega
  clear h0 h1 hm
  go_wp2_with fail
  refine (Name_any (m : Int) _ (by omega) (by omega)).mono ?_
  rintro e w' ⟨rfl, rfl⟩
  rw [show ((m : Int) % 6).toNat = m % 6 by omega]
  go_wp2_with fail
  go_loop [0, 3, 4] (fun n p k => ∃ (m' j : Nat) (pb : List UInt8), n = .int .i64 m' ∧ p = .string ⟨pb.toArray⟩ ∧ k = .int .i64 j ∧ m' < 1073741824 ∧ pb.length + 4 * j ≤ 20 ∧ Hid (pathLoop j m' pb = pathN m)) (fun _ _ k => (intOf k).toNat)
  case atStart => exact ⟨m, m / 6 % 3, nmB (m % 6), rfl, rfl, by congr 1, hml, by have := nmB_len (m % 6); omega, rfl⟩
  case round =>
    obtain ⟨m', j, pb, rfl, rfl, rfl, hm', hlen, HL⟩ := hrel
    cases j with
    | zero =>
      go_wp2
      go_ret
      exact ⟨by rw [HP.out, ← HL.out]; rfl, rfl⟩
    | succ j =>
      have hj : ((j + 1 : Nat) : Int) = (j : Int) + 1 := by omega
      rw [hj]
      have hcat := run_cat pb [47] (by simp; omega)
      go_wp2_with fail
      refine (Name_any ((m' : Int) / 7) _ (by omega) (by omega)).mono ?_
      rintro e w' ⟨rfl, rfl⟩
      rw [show ((m' : Int) / 7 % 6).toNat = m' / 7 % 6 by omega]
      have hl2 := nmB_len (m' / 7 % 6)
      have hcat2 := run_cat (pb ++ [47]) (nmB (m' / 7 % 6)) (by simp; omega)
      have hd : (m' : Int) / 7 = ((m' / 7 : Nat) : Int) := by omega
      rw [hd]
      clear hd hj hcat
      have HL2 : Hid (pathLoop j (m' / 7) ((pb ++ [47]) ++ nmB (m' / 7 % 6)) = pathN m) := HL.out
      have hlen2 : ((pb ++ [47]) ++ nmB (m' / 7 % 6)).length + 4 * j ≤ 20 := by simp; omega
      have hm2 : m' / 7 < 1073741824 := by omega
      clear hl2 HL hlen
      generalize (pb ++ [47]) ++ nmB (m' / 7 % 6) = pb2 at *
      generalize m' / 7 = m2 at *
      go_wp2
      go_round
      case rel => exact ⟨m2, j, pb2, rfl, rfl, by go_num, hm2, hlen2, HL2⟩
      case measure => simp [intOf]
end Go.Proofs.YtgpidbdgodgefaaDoor
