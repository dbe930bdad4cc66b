/- The contracts of node.Take and node.Read. Conditions: as the theorems name them. -/
import Derived.Test.YtgpidbdgodgefaaLay
namespace Go.Proofs.Ytgpidbdgodgefaa
open Go.RowKit

/-- What a node's four parts are taken of. -/
def tk1 (bs : List UInt8) (lack : Bool) := taken bs lack 1
def tk2 (bs : List UInt8) (lack : Bool) := taken (tk1 bs lack).2.1 (tk1 bs lack).2.2 2
def tk3 (bs : List UInt8) (lack : Bool) := taken (tk2 bs lack).2.1 (tk2 bs lack).2.2 8
def tk4 (bs : List UInt8) (lack : Bool) := textTaken (tk3 bs lack).2.1 (tk3 bs lack).2.2
/-- The node that is taken. -/
def takeNode (bs : List UInt8) (lack : Bool) : NodeV := ⟨num (tk1 bs lack).1, num (tk2 bs lack).1, num (tk3 bs lack).1, (tk4 bs lack).1⟩
def takeOk (bs : List UInt8) (lack : Bool) : Bool := !(tk4 bs lack).2.2 && rightN (takeNode bs lack)
theorem tk3_rest (bs : List UInt8) (lack : Bool) : (tk1 bs lack).2.1.length ≤ bs.length ∧ (tk2 bs lack).2.1.length ≤ bs.length ∧ (tk3 bs lack).2.1.length ≤ bs.length := by
  have h1 := taken_rest bs lack 1
  have h2 := taken_rest (tk1 bs lack).2.1 (tk1 bs lack).2.2 2
  have h3 := taken_rest (tk2 bs lack).2.1 (tk2 bs lack).2.2 8
  unfold tk3 tk2 tk1 at *
  omega
theorem taken_max (bs : List UInt8) (lack : Bool) (n : Int) : (taken bs lack n).1.length ≤ bs.length := by
  unfold taken
  split
  · exact Nat.zero_le _
  · simp; omega
theorem textTaken_len (bs : List UInt8) (lack : Bool) : (textTaken bs lack).1.length ≤ bs.length := by
  unfold textTaken
  exact Nat.le_trans (taken_max _ _ _) (taken_rest _ _ _)
theorem takeNode_len (bs : List UInt8) (lack : Bool) : (takeNode bs lack).bs.length ≤ bs.length :=
  Nat.le_trans (textTaken_len _ _) (tk3_rest bs lack).2.2
theorem takeNode_time (bs : List UInt8) (lack : Bool) : (takeNode bs lack).time < 18446744073709551616 := by
  have h1 := num_lt (tk3 bs lack).1
  have h2 := taken_le (tk2 bs lack).2.1 (tk2 bs lack).2.2 8 8 (by decide)
  exact Nat.lt_of_lt_of_le h1 (Nat.pow_le_pow_right (by decide) h2)

/-- A node is being taken of the reader at p; what is handed back lies at q. -/
structure Taking (T : TypeId) (w0 w : World) (q p : Nat) (row : Option Nat) (bs : List UInt8) (lack : Bool) : Prop where
  rd : Rd T w p row bs lack
  hp : p < w0.heap.size
  hq : w0.heap.size ≤ q
  hrow : ∀ k, row = some k → k < w0.heap.size
  cell : w.heap[q]? = some (.cells #[.int .i64 0, .int .i64 0, .float .f64 0, .slice none 0 0] 57 (0, 0))
  kp : Kp (fun k => k = p) w0 w
theorem Taking.step {T : TypeId} {w0 w w' : World} {q p : Nat} {row row' : Option Nat} {bs bs' : List UInt8} {lack lack' : Bool} (h : Taking T w0 w q p row bs lack) (hr : Rd T w' p row' bs' lack') (hrow : row' = row ∨ row' = none) (hk : Kp (fun k => k = p) w w') :
    Taking T w0 w' q p row' bs' lack' :=
  ⟨hr, h.hp, h.hq, fun k e => (by rcases hrow with e' | e' <;> rw [e'] at e; exact h.hrow k e; cases e), hk.hp h.cell (fun e => by have := h.hp; have := h.hq; omega), h.kp.trans hk⟩
theorem Taking.keepF {T : TypeId} {w0 w w' : World} {q p : Nat} {row : Option Nat} {bs : List UInt8} {lack : Bool} (h : Taking T w0 w q p row bs lack) (hk : Kp (fun _ => False) w w') : Taking T w0 w' q p row bs lack :=
  ⟨h.rd.keep hk id (fun _ _ => id), h.hp, h.hq, h.hrow, hk.hp h.cell id, h.kp.step hk (fun _ _ => False.elim)⟩

/-- What Take comes to. -/
def TakeEnd (T : TypeId) (w : World) (p : Nat) (bs : List UInt8) (lack : Bool) (e : Ending) (w' : World) : Prop :=
  (∃ row', Rd T w' p row' (tk4 bs lack).2.1 (tk4 bs lack).2.2) ∧ Kp (fun k => k = p) w w' ∧
  ((takeOk bs lack = true ∧ ∃ a c, e = .returned (.tuple #[nodeVal (takeNode bs lack) a c, .bool true]) ∧ NAt w' (takeNode bs lack) a c ∧ ∀ b, blk a = some b → w.heap.size ≤ b) ∨
   (takeOk bs lack = false ∧ e = .returned (.tuple #[nodeVal ⟨0, 0, 0, []⟩ none 0, .bool false])))

set_option maxHeartbeats 2000000 in
set_option maxRecDepth 100000 in
theorem Take_any (p : Nat) (row : Option Nat) (bs : List UInt8) (lack : Bool) (w : World) (hr : Rd 86 w p row bs lack) (hb : bs.length ≤ 140737488355328) :
    Calls Try.prog 58 #[.pointer (some ⟨p, 0, none⟩)] w (TakeEnd 86 w p bs lack) := by
  have hsf : ∀ (a : Addr) (b : Nat) (m : Mode) (w : World), (store a (.float .f64 b) m).run Try.prog w = stored Try.prog w a (.float .f64 b) m := fun a b m w => run_store _ w a _ m rfl
  have k0 : Kp (fun k => k = p) w (w.alloc (.cells #[.int .i64 0, .int .i64 0, .float .f64 0, .slice none 0 0] 57)) := (Kp.refl _ w).alloc _
  have HT1 : Hid (Taking 86 w (w.alloc (.cells #[.int .i64 0, .int .i64 0, .float .f64 0, .slice none 0 0] 57)) w.heap.size p row bs lack) :=
    ⟨hr.keep ((Kp.refl (fun _ => False) w).alloc _) id (fun _ _ => id), hr.lt, Nat.le_refl _, fun k e => (by obtain ⟨_, _, _, _, _, h⟩ := hr; exact (h k e).2), hp_new w _, k0⟩
  clear hr k0
  go_enter Try.func58, Try.ntmps58
  go_wp2_with fail
  generalize w.alloc (.cells #[.int .i64 0, .int .i64 0, .float .f64 0, .slice none 0 0] 57) = w1 at *
  obtain ⟨xs, hxs⟩ : ∃ xs, xs = (tk4 bs lack).1 := ⟨_, rfl⟩
  have HNODE : Hid (takeNode bs lack = ⟨(num (tk1 bs lack).1 : Nat), (num (tk2 bs lack).1 : Nat), num (tk3 bs lack).1, xs⟩) := by
    show _ = _
    rw [hxs]
    rfl
  obtain ⟨hb1, hb2, hb3⟩ := tk3_rest bs lack
  refine (RdU8_any p row bs lack w1 HT1.out.rd hb).mono ?_
  rintro e w2 ⟨row2, he, hrd, hrow, hk⟩
  obtain rfl : e = .returned (.int .i64 (num (tk1 bs lack).1 : Nat)) := he
  have HT2 : Hid (Taking 86 w w2 w.heap.size p row2 (tk1 bs lack).2.1 (tk1 bs lack).2.2) := HT1.out.step hrd hrow hk
  clear hrd hrow hk HT1
  go_wp2_with fail
  refine (RdU16_any p row2 _ _ w2 HT2.out.rd (by omega)).mono ?_
  rintro e w3 ⟨row3, he, hrd, hrow, hk⟩
  obtain rfl : e = .returned (.int .i64 (num (tk2 bs lack).1 : Nat)) := he
  have HT3 : Hid (Taking 86 w w3 w.heap.size p row3 (tk2 bs lack).2.1 (tk2 bs lack).2.2) := HT2.out.step hrd hrow hk
  clear hrd hrow hk HT2
  go_wp2_with fail
  refine (RdF64_any p row3 _ _ w3 HT3.out.rd (by omega)).mono ?_
  rintro e w4 ⟨row4, he, hrd, hrow, hk⟩
  obtain rfl : e = .returned (.float .f64 (num (tk3 bs lack).1)) := he
  have HT4 : Hid (Taking 86 w w4 w.heap.size p row4 (tk3 bs lack).2.1 (tk3 bs lack).2.2) := HT3.out.step hrd hrow hk
  clear hrd hrow hk HT3
  go_wp2_with fail
  refine (RdText_any p row4 _ _ w4 HT4.out.rd (by omega)).mono ?_
  rintro e w5 ⟨v, row5, rfl, hown, hrd, hrow, hk⟩
  have HT5 : Hid (Taking 86 w w5 w.heap.size p row5 (tk4 bs lack).2.1 (tk4 bs lack).2.2) := HT4.out.step hrd hrow hk
  have hown2 : w5.ownsRow w4.heap.size 5 1 v xs.length (xs.map byteV) := by rw [hxs]; exact hown
  obtain ⟨a, c, hs, _, hab⟩ := sl_of_owns hown2
  have he := hs.eq
  subst he
  have h4 := HT4.out.kp.size
  have HS := Lib.hid hs
  have HAB := Lib.hid (show ∀ b, blk a = some b → w.heap.size < b from fun b hb => by have h1 := (hab b hb).1; have h2 := hp_lt HT4.out.cell; omega)
  have HMAX := Lib.hid (show xs.length ≤ 140737488355328 by rw [hxs]; exact Nat.le_trans (textTaken_len _ _) (by omega))
  have HTIME := Lib.hid (show num (tk3 bs lack).1 < 18446744073709551616 from takeNode_time bs lack)
  clear hrd hrow hk HT4 hs hown hown2 hab h4 hb1 hb2 hb3 hb hxs
  generalize num (tk1 bs lack).1 = N1 at *
  generalize num (tk2 bs lack).1 = N2 at *
  generalize num (tk3 bs lack).1 = N3 at *
  go_wp2_with fail
  have HT6 := Lib.hid (HT5.out.keepF ((Kp.refl (fun _ => False) w5).alloc (.cells #[.int .i64 N1, .int .i64 N2, .float .f64 N3, .slice a xs.length c] 57)))
  have HC6 := Lib.hid (hp_new w5 (.cells #[.int .i64 N1, .int .i64 N2, .float .f64 N3, .slice a xs.length c] 57))
  have HN6 : Hid (NAt (w5.alloc (.cells #[.int .i64 N1, .int .i64 N2, .float .f64 N3, .slice a xs.length c] 57)) ⟨N1, N2, N3, xs⟩ a c) := ⟨HS.out.keep ((Kp.refl (fun _ => False) w5).alloc _) (fun _ _ => id), HTIME.out, HMAX.out⟩
  have HQ := Lib.hid (show w.heap.size < w5.heap.size from hp_lt HT5.out.cell)
  clear HS HMAX HTIME HT5
  generalize w5.alloc (.cells #[.int .i64 N1, .int .i64 N2, .float .f64 N3, .slice a xs.length c] 57) = w6 at *
  refine (Lack_any p row5 _ _ w6 HT6.out.rd).mono ?_
  rintro e w7 ⟨rfl, rfl⟩
  obtain ⟨c0, c1, c2, c3⟩ := cell_four HC6.out
  obtain ⟨⟨s0, s1, s2, s3⟩, ⟨t0, t1, t2, t3⟩, lt4⟩ := cell_fr HT6.out.cell
  cases hlk : (tk4 bs lack).2.2 with
  | true =>
    have HOK : Hid (takeOk bs lack = false) := by show _ = _; unfold takeOk; rw [hlk]; rfl
    have HLK := Lib.hid hlk
    go_wp2
    obtain ⟨hl4, hk4⟩ := node_laid HT6.out.cell ⟨0, 0, 0, []⟩ none 0 (fun k => k = p) w (.inr (Nat.le_refl _)) HT6.out.kp
    obtain ⟨_, hk5⟩ := node_laid HT6.out.cell ⟨0, 0, 0, []⟩ none 0 (fun b => b = w.heap.size) _ (.inl rfl) (Kp.refl _ _)
    obtain ⟨y0, y1, y2, y3⟩ := cell_four hl4
    dsimp only [List.length_nil] at y0 y1 y2 y3
    refine bodyPost_ret (v := .tuple #[.agg #[.int .i64 0, .int .i64 0, .float .f64 0, .slice none 0 0], .bool false]) (by simp [results, Try.results58, go_sem, y0, y1, y2, y3]) rfl ?_
    refine ⟨⟨row5, HT6.out.rd.keep hk5 ?_ ?_⟩, hk4, .inr ⟨HOK.out, rfl⟩⟩
    · have := HT6.out.hp
      omega
    · intro b hb h
      have := HT6.out.hrow b hb
      omega
  | false =>
    have HLK := Lib.hid hlk
    go_wp2_with fail
    refine (right_any ⟨N1, N2, N3, xs⟩ a c w6 HN6.out).mono ?_
    rintro e w8 ⟨rfl, hk8⟩
    have HT8 := Lib.hid (HT6.out.keepF hk8)
    have HC8 := Lib.hid (hk8.hp HC6.out id)
    have HN8 := Lib.hid (HN6.out.keepF hk8)
    clear hk8 HT6 HC6 HN6 c0 c1 c2 c3 s0 s1 s2 s3 t0 t1 t2 t3 lt4
    obtain ⟨c0, c1, c2, c3⟩ := cell_four HC8.out
    obtain ⟨⟨s0, s1, s2, s3⟩, ⟨t0, t1, t2, t3⟩, lt4⟩ := cell_fr HT8.out.cell
    cases hr : rightN ⟨N1, N2, N3, xs⟩ with
    | true =>
      have HOK : Hid (takeOk bs lack = true) := by show _ = _; unfold takeOk; rw [hlk, HNODE.out, hr]; rfl
      clear hr hlk
      go_wp2
      obtain ⟨hl4, hk4⟩ := node_laid HT8.out.cell ⟨N1, N2, N3, xs⟩ a c (fun k => k = p) w (.inr (Nat.le_refl _)) HT8.out.kp
      obtain ⟨_, hk5⟩ := node_laid HT8.out.cell ⟨N1, N2, N3, xs⟩ a c (fun b => b = w.heap.size) _ (.inl rfl) (Kp.refl _ _)
      obtain ⟨y0, y1, y2, y3⟩ := cell_four hl4
      dsimp only at y0 y1 y2 y3
      refine bodyPost_ret (v := .tuple #[.agg #[.int .i64 N1, .int .i64 N2, .float .f64 N3, .slice a xs.length c], .bool true]) (by simp [results, Try.results58, go_sem, y0, y1, y2, y3]) rfl ?_
      refine ⟨⟨row5, HLK.out ▸ HT8.out.rd.keep hk5 ?_ ?_⟩, hk4, .inl ⟨HOK.out, a, c, by rw [HNODE.out]; rfl, by rw [HNODE.out]; exact HN8.out.keep hk5 (fun b hb h => by have := HAB.out b hb; omega), fun b hb => Nat.le_of_lt (HAB.out b hb)⟩⟩
      · have := HT8.out.hp
        omega
      · intro b hb h
        have := HT8.out.hrow b hb
        omega
    | false =>
      have HOK : Hid (takeOk bs lack = false) := by show _ = _; unfold takeOk; rw [hlk, HNODE.out, hr]; rfl
      clear hr hlk
      go_wp2
      obtain ⟨hl4, hk4⟩ := node_laid HT8.out.cell ⟨0, 0, 0, []⟩ none 0 (fun k => k = p) w (.inr (Nat.le_refl _)) HT8.out.kp
      obtain ⟨_, hk5⟩ := node_laid HT8.out.cell ⟨0, 0, 0, []⟩ none 0 (fun b => b = w.heap.size) _ (.inl rfl) (Kp.refl _ _)
      obtain ⟨y0, y1, y2, y3⟩ := cell_four hl4
      dsimp only [List.length_nil] at y0 y1 y2 y3
      refine bodyPost_ret (v := .tuple #[.agg #[.int .i64 0, .int .i64 0, .float .f64 0, .slice none 0 0], .bool false]) (by simp [results, Try.results58, go_sem, y0, y1, y2, y3]) rfl ?_
      refine ⟨⟨row5, HLK.out ▸ HT8.out.rd.keep hk5 ?_ ?_⟩, hk4, .inr ⟨HOK.out, rfl⟩⟩
      · have := HT8.out.hp
        omega
      · intro b hb h
        have := HT8.out.hrow b hb
        omega
end Go.Proofs.Ytgpidbdgodgefaa
