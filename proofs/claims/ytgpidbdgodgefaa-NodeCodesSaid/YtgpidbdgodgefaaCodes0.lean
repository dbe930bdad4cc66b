/- The contracts of Lay, Read, Take, the program's and the document's, said in one form. Conditions: as the theorems name them. -/
import Derived.Test.YtgpidbdgodgefaaOneW
import Derived.Test.YtgpidbdgodgefaaRefR
import Derived.Test.YtgpidbdgodgefaaZed
import Derived.Test.YtgpidbdgodgefaaKnown1
import Derived.Test.YtgpidbdgodgefaaKnown10
import Derived.Laws.Closers25b
namespace Go.Proofs.Ytgpidbdgodgefaa
open Go.RowKit Go.Deep

/-- A node's bytes, and the error. -/
def Lb (n : NodeV) (lb : List UInt8) (f : Int) : Prop := (rightN n = true ∧ lb = layB n ∧ f = 0) ∨ (rightN n = false ∧ lb = [] ∧ f = 1)
theorem Lb.uniq {n : NodeV} {lb lb' : List UInt8} {f f' : Int} (h : Lb n lb f) (h' : Lb n lb' f') : lb' = lb ∧ f' = f := by
  rcases h with ⟨a, rfl, rfl⟩ | ⟨a, rfl, rfl⟩ <;> rcases h' with ⟨b, rfl, rfl⟩ | ⟨b, rfl, rfl⟩
  · exact ⟨rfl, rfl⟩
  · rw [a] at b; cases b
  · rw [a] at b; cases b
  · exact ⟨rfl, rfl⟩
theorem Lb.len {n : NodeV} {lb : List UInt8} {f : Int} (h : Lb n lb f) : lb.length ≤ 2013 := by
  rcases h with ⟨a, rfl, rfl⟩ | ⟨a, rfl, rfl⟩
  · rw [layB_len]; have := rightN_len a; omega
  · exact Nat.zero_le _
theorem Lb.two {n : NodeV} {lb : List UInt8} {f : Int} (h : Lb n lb f) : f = 1 ∨ (f = 0 ∧ 13 ≤ lb.length) := by
  rcases h with ⟨a, rfl, rfl⟩ | ⟨a, rfl, rfl⟩
  · exact .inr ⟨rfl, by rw [layB_len]; omega⟩
  · exact .inl rfl
def Lay2End (w : World) (n : NodeV) (e : Ending) (w' : World) : Prop :=
  ∃ a c lb f, e = .returned (.tuple #[.slice a lb.length c, .int .i64 f]) ∧ Sl w' (.slice a lb.length c) a c lb ∧ Lb n lb f ∧ Kp (fun _ => False) w w'
theorem Lay2_any (n : NodeV) (a : Option Addr) (c : Nat) (w : World) (h : NAt w n a c) : Calls Try.prog 52 #[nodeVal n a c] w (Lay2End w n) := by
  refine (Lay_any n a c w h).mono ?_
  rintro e w' (⟨hr, v, rfl, hown, hk⟩ | ⟨hr, rfl, hk⟩)
  · obtain ⟨a', c', hs, _, _⟩ := sl_of_owns hown
    have he := hs.eq
    subst he
    exact ⟨a', c', layB n, 0, rfl, hs, .inl ⟨hr, rfl, rfl⟩, hk⟩
  · exact ⟨none, 0, [], 1, rfl, Sl.nil _, .inr ⟨hr, rfl, rfl⟩, hk⟩
theorem refLay2_any (n : NodeV) (a : Option Addr) (c : Nat) (w : World) (h : NAt w n a c) : Calls Try.prog 53 #[nodeVal n a c] w (Lay2End w n) := by
  refine (refLay_any n a c w h).mono ?_
  rintro e w' (⟨hr, a', c', rfl, hs, _, hk⟩ | ⟨hr, rfl, hk⟩)
  · exact ⟨a', c', layB n, 0, rfl, hs, .inl ⟨hr, rfl, rfl⟩, hk⟩
  · exact ⟨none, 0, [], 1, rfl, Sl.nil _, .inr ⟨hr, rfl, rfl⟩, hk⟩

/-- The node that bytes are, and the error. -/
def Rb (bs : List UInt8) (n : NodeV) (f : Int) : Prop := (readN bs = some n ∧ f = 0) ∨ (readN bs = none ∧ n = ⟨0, 0, 0, []⟩ ∧ f = 2)
theorem Rb.uniq {bs : List UInt8} {n n' : NodeV} {f f' : Int} (h : Rb bs n f) (h' : Rb bs n' f') : n' = n ∧ f' = f := by
  rcases h with ⟨a, rfl⟩ | ⟨a, rfl, rfl⟩ <;> rcases h' with ⟨b, rfl⟩ | ⟨b, rfl, rfl⟩
  · rw [a] at b; cases b; exact ⟨rfl, rfl⟩
  · rw [a] at b; cases b
  · rw [a] at b; cases b
  · exact ⟨rfl, rfl⟩
def Read2End (w : World) (bs : List UInt8) (e : Ending) (w' : World) : Prop :=
  ∃ n a c f, e = .returned (.tuple #[nodeVal n a c, .int .i64 f]) ∧ NAt w' n a c ∧ Rb bs n f ∧ Kp (fun _ => False) w w'
theorem Read2_any (a : Option Addr) (c : Nat) (bs : List UInt8) (w : World) (hs : Sl w (.slice a bs.length c) a c bs) (hb : bs.length ≤ 140737488355328) :
    Calls Try.prog 56 #[.slice a bs.length c] w (Read2End w bs) := by
  refine (Read_any a c bs w hs hb).mono ?_
  rintro e w' ⟨hk, ⟨n, a', c', hr, rfl, hn, _⟩ | ⟨hr, rfl⟩⟩
  · exact ⟨n, a', c', 0, rfl, hn, .inl ⟨hr, rfl⟩, hk⟩
  · exact ⟨_, _, _, 2, rfl, nat_empty _ _ _ _ (by decide), .inr ⟨hr, rfl, rfl⟩, hk⟩
theorem refRead2_any (a : Option Addr) (c : Nat) (bs : List UInt8) (w : World) (hs : Sl w (.slice a bs.length c) a c bs) (hb : bs.length ≤ 140737488355328) (hab : ∀ b, blk a = some b → b < w.heap.size) :
    Calls Try.prog 57 #[.slice a bs.length c] w (Read2End w bs) := by
  refine (refRead_any a c bs w hs hb hab).mono ?_
  rintro e w' ⟨hk, ⟨n, a', c', hr, rfl, hn, _⟩ | ⟨hr, rfl⟩⟩
  · exact ⟨n, a', c', 0, rfl, hn, .inl ⟨hr, rfl⟩, hk⟩
  · exact ⟨_, _, _, 2, rfl, nat_empty _ _ _ _ (by decide), .inr ⟨hr, rfl, rfl⟩, hk⟩

/-- The node that is taken, and whether there is one. -/
def takenN (bs : List UInt8) (ok : Bool) : NodeV := if ok = true then takeNode bs false else ⟨0, 0, 0, []⟩
def Take2End (T : TypeId) (w : World) (p : Nat) (n : NodeV) (ok : Bool) (rs : List UInt8) (lk : Bool) (e : Ending) (w' : World) : Prop :=
  ∃ row' a c, e = .returned (.tuple #[nodeVal n a c, .bool ok]) ∧ NAt w' n a c ∧ Rd T w' p row' rs lk ∧ Kp (fun k => k = p) w w'
theorem take2 {T : TypeId} {w w' : World} {p : Nat} {bs rs : List UInt8} {n : NodeV} {ok lk : Bool} {e : Ending} (h : TakeEnd T w p bs false e w') (hok : takeOk bs false = ok) (hn : takenN bs ok = n) (h1 : (tk4 bs false).2.1 = rs) (h2 : (tk4 bs false).2.2 = lk) : Take2End T w p n ok rs lk e w' := by
  subst hn h1 h2
  obtain ⟨⟨row', hr⟩, hk, ⟨ho, a, c, rfl, hn, _⟩ | ⟨ho, rfl⟩⟩ := h
  · rw [ho] at hok
    subst hok
    exact ⟨row', a, c, rfl, hn, hr, hk⟩
  · rw [ho] at hok
    subst hok
    exact ⟨row', none, 0, rfl, nat_empty _ _ _ _ (by decide), hr, hk⟩
theorem xor_byte (z b : Int) : ∃ u : UInt8, bits .xor .u8 z b = (u.toNat : Int) := by
  obtain ⟨h1, h2⟩ := bits_within .xor .u8 z b
  have e1 : IntKind.u8.min = 0 := rfl
  have e2 : IntKind.u8.max = 255 := rfl
  rw [e1] at h1
  rw [e2] at h2
  refine ⟨UInt8.ofNat (bits .xor .u8 z b).toNat, ?_⟩
  rw [UInt8.toNat_ofNat', Nat.mod_eq_of_lt (by omega)]
  omega
end Go.Proofs.Ytgpidbdgodgefaa
