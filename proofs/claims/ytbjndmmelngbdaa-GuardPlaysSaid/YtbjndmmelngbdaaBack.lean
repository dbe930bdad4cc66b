/- The contracts of the function back of package guard, deferred, in each mode of the frame below it. Conditions: the cells that it reads are there. -/
import Derived.Test.YtbjndmmelngbdaaRows
import Derived.WalkKit
import Derived.WalkSpells
import Derived.WalkLawsBesides
import Derived.Lib.Hide
import Derived.LaidEql
import Derived.LaidEqlPtr
namespace Go.Proofs.Ytbjndmmelngbdaa
open Go.RowKit

theorem tmod_neg_emod (n m : Int) (hm : 0 < m) (h : n.tmod m < 0) : n.tmod m + m = n % m := by
  have h1 := Int.tmod_eq_emod (a := n) (b := m)
  have h2 := Int.emod_nonneg n (show m ≠ 0 by omega)
  have h3 := Int.emod_lt_of_pos n hm
  rw [h1] at h ⊢
  have : (m.natAbs : Int) = m := by omega
  split at h
  · omega
  · rename_i hc
    rw [if_neg hc]; omega

theorem tmod_nonneg_emod (n m : Int) (hm : 0 < m) (h : 0 ≤ n.tmod m) : n.tmod m = n % m := by
  have h1 := Int.tmod_eq_emod (a := n) (b := m)
  have h2 := Int.emod_nonneg n (show m ≠ 0 by omega)
  have h3 := Int.emod_lt_of_pos n hm
  rw [h1] at h ⊢
  have : (m.natAbs : Int) = m := by omega
  split at h
  · rename_i hc
    rw [if_pos hc]; omega
  · omega

set_option maxHeartbeats 400000 in
theorem pick_any (n m : Int) (w : World) (hm : 0 < m) (hm2 : m ≤ 9223372036854775807)  (hn : -9223372036854775808 ≤ n) (hn2 : n ≤ 9223372036854775807) :
    Calls Try.prog 7 #[.int .i64 n, .int .i64 m] w fun e w' => e = .returned (.int .i64 (n % m)) ∧ w = w' := by
  go_enter Try.func7, Try.ntmps7
  go_wp2
  · have h : n.tmod m < 0 := by assumption
    have h3 := Int.emod_nonneg n (show m ≠ 0 by omega)
    have h4 := Int.emod_lt_of_pos n hm
    go_ret
    refine ⟨?_, rfl⟩
    have e := tmod_neg_emod n m hm h
    simp only [Array.getD]
    simp [e]
    rw [IntWalk.wrap64_in _ (by omega)]
  · have h : 0 ≤ n.tmod m := by assumption
    go_ret
    refine ⟨?_, rfl⟩
    have e := tmod_nonneg_emod n m hm h
    simp [e]


set_option maxHeartbeats 400000 in
theorem back_idle (g e : Addr) (w : World) :
    CallsD Try.prog 27 #[.pointer (some g), .pointer (some e)] .returning w fun x u' w' => x = .returned (.tuple #[]) ∧ u' = .returning ∧ w = w' := by
  refine callsD_of_wpS Try.func27 rfl fun c₀ cs hu => ?_
  simp only [Try.ntmps27, List.size_toArray, List.length_cons, List.length_nil, Nat.reduceAdd, Nat.reduceSub, Array.replicate_succ,
     Array.replicate_zero, List.push_toArray, List.append_toArray, List.nil_append, List.cons_append]
  apply wpS_seq
  apply wpS_region
  simp [wpOpsS, go_sem, recoverD, hu, Exit.thenS]
  apply wpS_of_wp
  have HU := Lib.hid hu; clear hu
  go_wp2
  cases c₀
  have HU2 := HU.out
  simp_all [bodyPostS, results, Try.results27]


theorem ta_given (v : Value) (w : World) : (Instr.typeAssert (.iface 53 v) 20 53 true).run Try.prog w = .ok (.tuple #[v, .bool true]) w := by
  simp [Instr.typeAssert, go_sem, Try.underlying53]

theorem ta_string (v : Value) (w : World) : (Instr.typeAssert (.iface 9 v) 20 53 true).run Try.prog w = .ok (.tuple #[.agg #[.pointer none], .bool false]) w := by
  simp [Instr.typeAssert, go_sem, Try.underlying53]

theorem neq_ptr_same {P : Program} (w : World) {tp te : TypeId} {j : TypeInfo} (a : Addr) (hp : P.underlying tp = some (.pointer te)) (hte : P.info? te = some j) :
    (binOp .neq tp (.pointer (some a)) (.pointer (some a))).run P w = .ok (.bool false) w := by
  have h : ∀ d : Nat, (Op.equalIn (d + 1) tp (.pointer (some a)) (.pointer (some a))).run P w = .ok true w := fun d => by
    simp [Op.equalIn, run_underlying hp, sizeOf, typeInfo, hte, run_sameAddr_same]
  simp only [binOp]
  simp [Op.equal, Op.maxDepth, h 9999]

theorem neq_ptr_other {P : Program} (w : World) {tp te : TypeId} {j : TypeInfo} {a b : Addr} {ca cb : Array Value} {ta tb : TypeId} (hp : P.underlying tp = some (.pointer te)) (hte : P.info? te = some j) (hsz : j.size ≠ 0)
    (hne : a ≠ b) (ha : w.heap[a.block]? = some (.cells ca ta (0, 0))) (hb : w.heap[b.block]? = some (.cells cb tb (0, 0))) :
    (binOp .neq tp (.pointer (some a)) (.pointer (some b))).run P w = .ok (.bool true) w := by
  have h : ∀ d : Nat, (Op.equalIn (d + 1) tp (.pointer (some a)) (.pointer (some b))).run P w = .ok false w := fun d => by
    simp [Op.equalIn, run_underlying hp, sizeOf, typeInfo, hte, hsz, run_sameAddr_other w hne ha hb]
  simp only [binOp]
  simp [Op.equal, Op.maxDepth, h 9999]

theorem neq_given_same (a : Addr) (w : World) : (binOp .neq 27 (.pointer (some a)) (.pointer (some a))).run Try.prog w = .ok (.bool false) w :=
  neq_ptr_same w a Try.underlying27 (te := 47) (j := (Try.prog.info? 47).get (by kernel_rfl)) (by kernel_rfl)

abbrev pe (v : Value) (r : Bool) : PanicEntry := { v := v, recovered := r }
abbrev givenV (g : Addr) : Value := .iface 53 (.agg #[.pointer (some g)])

set_option maxHeartbeats 400000 in
theorem back_own (g e : Addr) (x y : Int) (older : List PanicEntry) (w : World) (hg : w.cell? g = some (.int .i64 x)) (he : w.cell? e = some (.int .i64 y)) (hz : w.frozen? e = false) (hgb : g.block < w.heap.size) (heb : e.block < w.heap.size) :
    CallsD Try.prog 27 #[.pointer (some g), .pointer (some e)] (.panicking (pe (givenV g) false :: older)) w fun e' u' w' => e' = .returned (.tuple #[]) ∧ u' = (.panicking (pe (givenV g) true :: older)) ∧ w' = (w.alloc (.cells #[.pointer (some g)] 53)).setCell e (.int .i64 x) := by
  refine callsD_of_wpS Try.func27 rfl fun c₀ cs hu => ?_
  simp only [Try.ntmps27, List.size_toArray, List.length_cons, List.length_nil, Nat.reduceAdd, Nat.reduceSub, Array.replicate_succ,
     Array.replicate_zero, List.push_toArray, List.append_toArray, List.nil_append, List.cons_append]
  apply wpS_seq
  apply wpS_region
  simp [wpOpsS, go_sem, recoverD, hu, Exit.thenS]
  apply wpS_of_wp
  have HU := Lib.hid hu; clear hu
  have hta := ta_given
  have heql : ∀ (v : Value) (w : World), (binOp BinOp.eql 20 (.iface 53 v) .nilIface).run Try.prog w = .ok (.bool false) w := fun v w => by kernel_rfl
  have hne := neq_given_same
  have hc1 : (w.alloc (.cells #[.pointer (some g)] 53)).cell? g = some (.int .i64 x) := by rw [World.cell?_alloc_lt w _ g hgb]; exact hg
  have hc2 : (w.alloc (.cells #[.pointer (some g)] 53)).cell? e = some (.int .i64 y) := by rw [World.cell?_alloc_lt w _ e heb]; exact he
  have hc3 : (w.alloc (.cells #[.pointer (some g)] 53)).frozen? e = false := by rw [Below.frozen ((Below.refl w.heap.size w).alloc (Nat.le_refl _) _) heb]; exact hz
  clear hg he hz
  go_wp2
  cases c₀
  have HU2 := HU.out
  simp_all [bodyPostS, results, Try.results27]

set_option maxHeartbeats 400000 in
theorem back_other (g g' e : Addr) (older : List PanicEntry) (w : World) {ca cb : Array Value} {ta tb : TypeId} (hne : g' ≠ g) (ha : w.heap[g.block]? = some (.cells ca ta (0, 0))) (hb : w.heap[g'.block]? = some (.cells cb tb (0, 0))) :
    CallsD Try.prog 27 #[.pointer (some g), .pointer (some e)] (.panicking (pe (givenV g') false :: older)) w fun e' u' w' => e' = .panicked [pe (givenV g') false] ∧ u' = (.panicking (pe (givenV g') true :: older)) ∧ w' = (w.alloc (.cells #[.pointer (some g')] 53)) := by
  refine callsD_of_wpS Try.func27 rfl fun c₀ cs hu => ?_
  simp only [Try.ntmps27, List.size_toArray, List.length_cons, List.length_nil, Nat.reduceAdd, Nat.reduceSub, Array.replicate_succ,
     Array.replicate_zero, List.push_toArray, List.append_toArray, List.nil_append, List.cons_append]
  apply wpS_seq
  apply wpS_region
  simp [wpOpsS, go_sem, recoverD, hu, Exit.thenS]
  apply wpS_of_wp
  have HU := Lib.hid hu; clear hu
  have hta := ta_given
  have heql : ∀ (v : Value) (w : World), (binOp BinOp.eql 20 (.iface 53 v) .nilIface).run Try.prog w = .ok (.bool false) w := fun v w => by kernel_rfl
  have hlt1 : g.block < w.heap.size := by
    by_cases h : g.block < w.heap.size
    · exact h
    · rw [Array.getElem?_eq_none (by omega)] at ha; cases ha
  have hlt2 : g'.block < w.heap.size := by
    by_cases h : g'.block < w.heap.size
    · exact h
    · rw [Array.getElem?_eq_none (by omega)] at hb; cases hb
  have hne : (binOp .neq 27 (.pointer (some g')) (.pointer (some g))).run Try.prog (w.alloc (.cells #[.pointer (some g')] 53)) = .ok (.bool true) (w.alloc (.cells #[.pointer (some g')] 53)) :=
    neq_ptr_other _ Try.underlying27 (te := 47) (j := (Try.prog.info? 47).get (by kernel_rfl)) (by kernel_rfl) (by intro h; revert h; exact of_decide_eq_false (by kernel_rfl)) hne (by rw [Below.heap_alloc _ _ _ hlt2]; exact hb) (by rw [Below.heap_alloc _ _ _ hlt1]; exact ha)
  clear ha hb
  go_wp2
  clear hne
  cases c₀
  have HU2 := HU.out
  simp_all [bodyPostS, results, Try.results27]

set_option maxHeartbeats 400000 in
theorem back_string (g e : Addr) (s : ByteArray) (older : List PanicEntry) (w : World) :
    CallsD Try.prog 27 #[.pointer (some g), .pointer (some e)] (.panicking (pe (.iface 9 (.string s)) false :: older)) w fun e' u' w' => e' = .panicked [pe (.iface 9 (.string s)) false] ∧ u' = (.panicking (pe (.iface 9 (.string s)) true :: older)) ∧ w' = w := by
  refine callsD_of_wpS Try.func27 rfl fun c₀ cs hu => ?_
  simp only [Try.ntmps27, List.size_toArray, List.length_cons, List.length_nil, Nat.reduceAdd, Nat.reduceSub, Array.replicate_succ,
     Array.replicate_zero, List.push_toArray, List.append_toArray, List.nil_append, List.cons_append]
  apply wpS_seq
  apply wpS_region
  simp [wpOpsS, go_sem, recoverD, hu, Exit.thenS]
  apply wpS_of_wp
  have HU := Lib.hid hu; clear hu
  have hta := ta_string
  have heql : ∀ (v : Value) (w : World), (binOp BinOp.eql 20 (.iface 9 v) .nilIface).run Try.prog w = .ok (.bool false) w := fun v w => by kernel_rfl
  go_wp2
  cases c₀
  have HU2 := HU.out
  simp_all [bodyPostS, results, Try.results27]
end Go.Proofs.Ytbjndmmelngbdaa
