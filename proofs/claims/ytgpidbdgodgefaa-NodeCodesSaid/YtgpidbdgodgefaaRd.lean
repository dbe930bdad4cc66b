/- The contracts of the readers' Raw, the program's and the document's, of NewReader and of Few. Conditions: as the theorems name them. -/
import Derived.Test.YtgpidbdgodgefaaTime
namespace Go.Proofs.Ytgpidbdgodgefaa
open Go.RowKit

/-- A reader: what is left, and whether it lacks. -/
def Rd (T : TypeId) (w : World) (p : Nat) (row : Option Nat) (bs : List UInt8) (lack : Bool) : Prop :=
  ∃ a c, w.heap[p]? = some (.cells #[.slice a bs.length c, .bool lack] T (0, 0)) ∧ Sl w (.slice a bs.length c) a c bs ∧ blk a = row ∧ ∀ b, row = some b → b ≠ p ∧ b < w.heap.size

theorem Rd.keep {T : TypeId} {w w' : World} {p : Nat} {row : Option Nat} {bs : List UInt8} {lack : Bool} {S : Nat → Prop} (h : Rd T w p row bs lack) (k : Kp S w w') (hp : ¬ S p) (hn : ∀ b, row = some b → ¬ S b) : Rd T w' p row bs lack := by
  obtain ⟨a, c, h1, h2, h3, h4⟩ := h
  subst h3
  exact ⟨a, c, k.hp h1 hp, h2.keep k hn, rfl, fun b hb => ⟨(h4 b hb).1, Nat.lt_of_lt_of_le (h4 b hb).2 k.size⟩⟩
theorem Rd.lt {T : TypeId} {w : World} {p : Nat} {row : Option Nat} {bs : List UInt8} {lack : Bool} (h : Rd T w p row bs lack) : p < w.heap.size := by
  obtain ⟨a, c, h1, _⟩ := h
  exact hp_lt h1

/-- What is taken, what is left, and whether it lacks. -/
def taken (bs : List UInt8) (lack : Bool) (n : Int) : List UInt8 × List UInt8 × Bool :=
  if lack = true ∨ n < 0 ∨ (bs.length : Int) < n then ([], [], true) else (bs.take n.toNat, bs.drop n.toNat, false)

/-- A slice from its head on. -/
theorem sl_head {P : Program} {t e : TypeId} {i : TypeInfo} (I : ByteInfo P t e i) {w : World} {a : Option Addr} {c : Nat} {bs : List UInt8} (h : Sl w (.slice a bs.length c) a c bs) (n : Nat) (hn : n ≤ bs.length) :
    (∀ w', (Instr.slice t (.slice a bs.length c) none (some (.int .i64 n)) none).run P w' = .ok (.slice a n c) w') ∧ Sl w (.slice a n c) a c (bs.take n) := by
  have hlen : (bs.take n).length = n := by simp; omega
  have hle := h.le
  refine ⟨fun w' => ?_, ⟨by rw [hlen], by omega, h.max, h.nocap, fun j hj => ?_⟩⟩
  · cases a with
    | none =>
      have hc := h.nocap rfl
      have hn0 : n = 0 := by omega
      subst hc
      subst hn0
      simp [Instr.slice, Instr.sliceBounds, Instr.sliceBound, asIntOf, run_underlying I.sl, sizeOf, typeInfo, I.info]
    | some ad =>
      have h1 : n ≤ c := by omega
      have h0 : ad.add 0 = ad := by simp [Addr.add]
      simp [Instr.slice, Instr.sliceBounds, Instr.sliceBound, asIntOf, run_underlying I.sl, sizeOf, typeInfo, I.info, h1, h0]
  · rw [hlen] at hj
    obtain ⟨b, off, e1, hc⟩ := h.seg j (by omega)
    exact ⟨b, off, e1, by rw [hc]; simp⟩

/-- A slice from a place on. -/
theorem sl_tail {P : Program} {t e : TypeId} {i : TypeInfo} (I : ByteInfo P t e i) {w : World} {a : Option Addr} {c : Nat} {bs : List UInt8} (h : Sl w (.slice a bs.length c) a c bs) (n : Nat) (hn : n ≤ bs.length) :
    ∃ a2, (∀ w', (Instr.slice t (.slice a bs.length c) (some (.int .i64 n)) none none).run P w' = .ok (.slice a2 (bs.length - n) (c - n)) w') ∧ Sl w (.slice a2 (bs.length - n) (c - n)) a2 (c - n) (bs.drop n) ∧ blk a2 = blk a := by
  have hle := h.le
  have hlen : (bs.drop n).length = bs.length - n := by simp
  have hmax := h.max
  cases a with
  | none =>
    have hc := h.nocap rfl
    have hn0 : n = 0 := by omega
    have hb : bs = [] := List.eq_nil_of_length_eq_zero (by omega)
    subst hc
    subst hn0
    subst hb
    refine ⟨none, fun w' => ?_, ⟨rfl, Nat.le_refl _, Nat.zero_le _, fun _ => rfl, fun j hj => absurd hj (by simp)⟩, rfl⟩
    simp [Instr.slice, Instr.sliceBounds, Instr.sliceBound, asIntOf, run_underlying I.sl, sizeOf, typeInfo, I.info]
  | some ad =>
    refine ⟨some (if c = n then ad else ad.add n), fun w' => ?_, ⟨by rw [hlen], by omega, by omega, fun h => (by cases h), fun j hj => ?_⟩, ?_⟩
    · have h1 : ¬ bs.length < n := by omega
      by_cases hcn : c = n
      · simp [Instr.slice, Instr.sliceBounds, Instr.sliceBound, asIntOf, run_underlying I.sl, sizeOf, typeInfo, I.info, I.size, h1, hcn]
      · simp [Instr.slice, Instr.sliceBounds, Instr.sliceBound, asIntOf, run_underlying I.sl, sizeOf, typeInfo, I.info, I.size, h1, hcn]
    · rw [hlen] at hj
      obtain ⟨b, off, e1, hc⟩ := h.seg (n + j) (by omega)
      cases e1
      rw [if_neg (by omega), Addr.add_lit]
      refine ⟨b, off + n, rfl, ?_⟩
      rw [Nat.add_assoc, hc]
      simp
    · by_cases hcn : c = n
      · rw [if_pos hcn]
      · rw [if_neg hcn]
        simp only [blk, Option.map]
        congr 1
        unfold Addr.add
        split <;> rfl

set_option maxHeartbeats 400000 in
theorem NewReader_any (x : Value) (a : Option Addr) (c : Nat) (xs : List UInt8) (w : World) (hx : Sl w x a c xs) (hb : xs.length ≤ 140737488355328) :
    Calls Try.prog 30 #[x] w fun e w' => ∃ p row, e = .returned (.pointer (some ⟨p, 0, none⟩)) ∧ w.heap.size ≤ p ∧ (∀ b, row = some b → w.heap.size ≤ b) ∧ Rd 86 w' p row xs false ∧ Kp (fun _ => False) w w' := by
  obtain ⟨ti, I⟩ := byteInfo
  have h1 := owns_empty w w.heap.size 5 (Nat.le_refl _)
  have h2 := hx.keep (S := fun _ => False) ((Kp.refl _ w).alloc (.cells #[] 5)) (fun _ _ => id)
  have HO := Lib.hid h1; have HX := Lib.hid h2
  have he := hx.eq
  subst he
  clear h1 h2 hx
  go_enter Try.func30, Try.ntmps30
  go_wp2_with (at_builtin; refine wpList_append_sl rfl I w.heap.size (.tmp 3) (.tmp 4) rfl (.slice (some ⟨w.heap.size, 0, none⟩) 0 0) [] rfl HO.out (by simp) (.slice a xs.length c) a c xs rfl HX.out (by simpa using hb) ?_)
  intro v' w' hown' hgr hfr'
  obtain ⟨a', c', h1, h2, h3⟩ := sl_of_owns (by simpa using hown')
  have he := h1.eq
  subst he
  have HS := Lib.hid h1; have HG' := Lib.hid hgr; have H3 := Lib.hid h3
  clear hown' hgr hfr' h1 h2 h3
  go_wp2
  go_ret
  refine ⟨w'.heap.size, blk a', rfl, by have := HG'.out.size; simp at this; omega, fun b hb => (H3.out b hb).1, ⟨a', c', hp_new _ _, HS.out.keep (S := fun _ => False) ((Kp.refl _ _).alloc _) (fun _ _ => id), rfl, fun b hb => ?_⟩, ?_⟩
  · have := (H3.out b hb).2
    exact ⟨by omega, by simp; omega⟩
  · exact (((Kp.refl (fun _ => False) w).alloc _).grown HG'.out (fun k hk => by cases hk; exact .inr (Nat.le_refl _))).alloc _

set_option maxHeartbeats 400000 in
theorem Few_any (x : Value) (a : Option Addr) (c : Nat) (xs : List UInt8) (n : Nat) (w : World) (hx : Sl w x a c xs) (hb : xs.length ≤ 140737488355328) (hn : n ≤ 9223372036854775807) :
    Calls Try.prog 31 #[x, .int .i64 n] w (Given w (xs.take n)) := by
  obtain ⟨ti, I⟩ := byteInfo
  have h1 := owns_empty w w.heap.size 5 (Nat.le_refl _)
  have h2 := hx.keep (S := fun _ => False) ((Kp.refl _ w).alloc (.cells #[] 5)) (fun _ _ => id)
  have he := hx.eq
  subst he
  by_cases hlt : n < xs.length
  · obtain ⟨hsl, h3⟩ := sl_head I h2 n (by omega)
    have hlen : (xs.take n).length = n := by simp; omega
    have HO := Lib.hid h1; have HX := Lib.hid h3; have HL := Lib.hid hlen
    have HB := Lib.hid hb
    clear h1 h2 h3 hx hlen hb
    go_enter Try.func31, Try.ntmps31
    go_wp2_with (at_builtin; refine wpList_append_sl rfl I w.heap.size (.tmp 5) (.tmp 11) rfl (.slice (some ⟨w.heap.size, 0, none⟩) 0 0) [] rfl HO.out (by simp) (.slice a n c) a c (xs.take n) rfl HX.out (by rw [HL.out]; have := HB.out; simp; omega) ?_)
    intro v' w' hown' hgr hfr'
    have HO' := Lib.hid hown'; have HG' := Lib.hid hgr
    clear hown' hgr hfr'
    go_wp2
    go_ret
    exact ⟨_, rfl, by simpa using HO'.out, ((Kp.refl (fun _ => False) w).alloc _).grown HG'.out (fun k hk => by cases hk; exact .inr (Nat.le_refl _))⟩
  · obtain ⟨hsl, h3⟩ := sl_head I h2 xs.length (Nat.le_refl _)
    rw [List.take_length] at h3
    have HO := Lib.hid h1; have HX := Lib.hid h3
    have HB := Lib.hid hb
    rw [List.take_of_length_le (by omega)]
    clear h1 h2 h3 hx
    go_enter Try.func31, Try.ntmps31
    go_wp2_with (at_builtin; refine wpList_append_sl rfl I w.heap.size (.tmp 5) (.tmp 11) rfl (.slice (some ⟨w.heap.size, 0, none⟩) 0 0) [] rfl HO.out (by simp) (.slice a xs.length c) a c xs rfl HX.out (by simpa using HB.out) ?_)
    intro v' w' hown' hgr hfr'
    have HO' := Lib.hid hown'; have HG' := Lib.hid hgr
    clear hown' hgr hfr'
    go_wp2
    go_ret
    exact ⟨_, rfl, by simpa using HO'.out, ((Kp.refl (fun _ => False) w).alloc _).grown HG'.out (fun k hk => by cases hk; exact .inr (Nat.le_refl _))⟩
end Go.Proofs.Ytgpidbdgodgefaa
