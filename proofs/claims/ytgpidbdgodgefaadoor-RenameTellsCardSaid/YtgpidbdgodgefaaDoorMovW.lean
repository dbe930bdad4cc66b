/- The walk of RenameMoves: it answers true. Conditions: as the theorem names them. -/
import Derived.Test.YtgpidbdgodgefaaDoorMovL
import Derived.Test.YtgpidbdgodgefaaDoorTurnW
import Derived.Test.YtgpidbdgodgefaaDoorDiffW
import Derived.Test.YtgpidbdgodgefaaDoorKnown18
import Derived.Test.YtgpidbdgodgefaaDoorRenMP
namespace Go.Proofs.YtgpidbdgodgefaaDoor
open Go.RowKit Go.Deep

def d77 : List UInt8 := [98, 121, 116, 101, 115, 32, 116, 104, 97, 116, 32, 110, 111, 32, 111, 116, 104, 101, 114, 32, 102, 105, 108, 101, 32, 104, 97, 115, 58, 32, 109, 111, 114, 101, 32, 116, 104, 97, 110, 32, 115, 105, 120, 116, 121, 32, 111, 102, 32, 116, 104, 101, 109, 44, 32, 115, 111, 32, 116, 104, 97, 116, 32, 110, 111, 110, 101, 32, 99, 97, 110, 32, 98, 101, 32, 105, 116]
theorem OwnC.list {w : World} {base : Nat} {v : Value} {L : List ChgP} {D : List ChangeV} (h : OwnC w base v L) (e : L.map (·.x) = D) : ∃ a c, v = .slice a D.length c ∧ ChgsAt w a D := by
  subst e
  obtain ⟨a, c, h1, h2⟩ := h.chgs
  exact ⟨a, c, by rw [h1, List.length_map], h2⟩

theorem pairStep_len (l : List ChangeV) (out : List PairV) (c : ChangeV) : (pairStep l out c).length ≤ out.length + 1 := by
  unfold pairStep
  split
  · split
    · simp
    · omega
  · omega
theorem pairsF_len (l : List ChangeV) : ∀ (k : List ChangeV) (out : List PairV), (k.foldl (pairStep l) out).length ≤ out.length + k.length
  | [], out => by simp
  | c :: k, out => by
    have h1 := pairsF_len l k (pairStep l out c)
    have h2 := pairStep_len l out c
    simp only [List.foldl_cons, List.length_cons]
    omega
theorem pairsL_len (l : List ChangeV) : (pairsL l).length ≤ l.length := by
  have := pairsF_len l l []
  simpa [pairsL] using this

set_option maxHeartbeats 16000000 in
set_option maxRecDepth 100000 in
theorem renameMoves_any (a : Option Addr) (c : Nat) (l : List RawV) (a2 : Option Addr) (cc : Nat) (l2 : List TurnV) (turn : Bool) (m : Int) (w : World) (h : RawsAt w a l) (hl : l.length ≤ 9223372036854775807) (h2 : TurnsAt w a2 l2) (hl2 : l2.length ≤ 9223372036854775807) (hm : w.cell? ⟨0, 0, none⟩ = some (.int .i64 m)) :
    Calls Tryd.prog 15 #[.slice a l.length c, .slice a2 l2.length cc, .bool turn] w fun e w' => e = .returned (.bool true) ∧ Kp (fun _ => False) w w' := by
  have HM := Lib.hid hm
  have H2 := Lib.hid h2
  have HTr := Lib.hid (htree_any a c l w h hl)
  have hsf : ∀ (a : Addr) (b : Nat) (m : Mode) (w : World), (store a (.float .f64 b) m).run Tryd.prog w = stored Tryd.prog w a (.float .f64 b) m := fun a b m w => run_store _ w a _ m rfl
  clear hm h h2
  go_enter Tryd.func15, Tryd.ntmps15
  go_wp2_with fail
  refine HTr.out.mono ?_
  rintro e w1 ⟨v, T, rfl, hh, ho, hk1⟩
  have HK1 := Lib.hid hk1
  obtain ⟨ta, tc, rfl, hT⟩ := ho.tree
  have HT1 := Lib.hid hT
  have HTT := Lib.hid hh.tr
  clear hh ho hk1 hT HTr
  go_wp2_with fail
  refine (turned_any ta tc T a2 cc l2 w1 HT1.out HTT.out (H2.out.keep HK1.out) hl2).mono ?_
  rintro e w2 ⟨T', tb, td, rfl, hTr', hT', hk2⟩
  have HTT' := Lib.hid hTr'
  have HT2' := Lib.hid hT'
  have HT2 := Lib.hid (HT1.out.keep hk2)
  have HK2 := Lib.hid (HK1.out.trans hk2)
  clear hTr' hT' hk2 HT1 HK1
  have hidc : (convert 40 40 (.slice (some ⟨w2.heap.size, 0, none⟩) 77 77)).run Tryd.prog (w2.alloc (.cells #[.int .u8 98, .int .u8 121, .int .u8 116, .int .u8 101, .int .u8 115, .int .u8 32, .int .u8 116, .int .u8 104, .int .u8 97, .int .u8 116, .int .u8 32, .int .u8 110, .int .u8 111, .int .u8 32, .int .u8 111, .int .u8 116, .int .u8 104, .int .u8 101, .int .u8 114, .int .u8 32, .int .u8 102, .int .u8 105, .int .u8 108, .int .u8 101, .int .u8 32, .int .u8 104, .int .u8 97, .int .u8 115, .int .u8 58, .int .u8 32, .int .u8 109, .int .u8 111, .int .u8 114, .int .u8 101, .int .u8 32, .int .u8 116, .int .u8 104, .int .u8 97, .int .u8 110, .int .u8 32, .int .u8 115, .int .u8 105, .int .u8 120, .int .u8 116, .int .u8 121, .int .u8 32, .int .u8 111, .int .u8 102, .int .u8 32, .int .u8 116, .int .u8 104, .int .u8 101, .int .u8 109, .int .u8 44, .int .u8 32, .int .u8 115, .int .u8 111, .int .u8 32, .int .u8 116, .int .u8 104, .int .u8 97, .int .u8 116, .int .u8 32, .int .u8 110, .int .u8 111, .int .u8 110, .int .u8 101, .int .u8 32, .int .u8 99, .int .u8 97, .int .u8 110, .int .u8 32, .int .u8 98, .int .u8 101, .int .u8 32, .int .u8 105, .int .u8 116] 5)) = .ok (.slice (some ⟨w2.heap.size, 0, none⟩) 77 77) (w2.alloc (.cells #[.int .u8 98, .int .u8 121, .int .u8 116, .int .u8 101, .int .u8 115, .int .u8 32, .int .u8 116, .int .u8 104, .int .u8 97, .int .u8 116, .int .u8 32, .int .u8 110, .int .u8 111, .int .u8 32, .int .u8 111, .int .u8 116, .int .u8 104, .int .u8 101, .int .u8 114, .int .u8 32, .int .u8 102, .int .u8 105, .int .u8 108, .int .u8 101, .int .u8 32, .int .u8 104, .int .u8 97, .int .u8 115, .int .u8 58, .int .u8 32, .int .u8 109, .int .u8 111, .int .u8 114, .int .u8 101, .int .u8 32, .int .u8 116, .int .u8 104, .int .u8 97, .int .u8 110, .int .u8 32, .int .u8 115, .int .u8 105, .int .u8 120, .int .u8 116, .int .u8 121, .int .u8 32, .int .u8 111, .int .u8 102, .int .u8 32, .int .u8 116, .int .u8 104, .int .u8 101, .int .u8 109, .int .u8 44, .int .u8 32, .int .u8 115, .int .u8 111, .int .u8 32, .int .u8 116, .int .u8 104, .int .u8 97, .int .u8 116, .int .u8 32, .int .u8 110, .int .u8 111, .int .u8 110, .int .u8 101, .int .u8 32, .int .u8 99, .int .u8 97, .int .u8 110, .int .u8 32, .int .u8 98, .int .u8 101, .int .u8 32, .int .u8 105, .int .u8 116] 5 (77, 78))) := Lib.run_convert_bytes_const w2 40 5 #[.int .u8 98, .int .u8 121, .int .u8 116, .int .u8 101, .int .u8 115, .int .u8 32, .int .u8 116, .int .u8 104, .int .u8 97, .int .u8 116, .int .u8 32, .int .u8 110, .int .u8 111, .int .u8 32, .int .u8 111, .int .u8 116, .int .u8 104, .int .u8 101, .int .u8 114, .int .u8 32, .int .u8 102, .int .u8 105, .int .u8 108, .int .u8 101, .int .u8 32, .int .u8 104, .int .u8 97, .int .u8 115, .int .u8 58, .int .u8 32, .int .u8 109, .int .u8 111, .int .u8 114, .int .u8 101, .int .u8 32, .int .u8 116, .int .u8 104, .int .u8 97, .int .u8 110, .int .u8 32, .int .u8 115, .int .u8 105, .int .u8 120, .int .u8 116, .int .u8 121, .int .u8 32, .int .u8 111, .int .u8 102, .int .u8 32, .int .u8 116, .int .u8 104, .int .u8 101, .int .u8 109, .int .u8 44, .int .u8 32, .int .u8 115, .int .u8 111, .int .u8 32, .int .u8 116, .int .u8 104, .int .u8 97, .int .u8 116, .int .u8 32, .int .u8 110, .int .u8 111, .int .u8 110, .int .u8 101, .int .u8 32, .int .u8 99, .int .u8 97, .int .u8 110, .int .u8 32, .int .u8 98, .int .u8 101, .int .u8 32, .int .u8 105, .int .u8 116] 77 77 Tryd.underlying40 Tryd.underlying5
  have hS3 : Sl (w2.alloc (.cells #[.int .u8 98, .int .u8 121, .int .u8 116, .int .u8 101, .int .u8 115, .int .u8 32, .int .u8 116, .int .u8 104, .int .u8 97, .int .u8 116, .int .u8 32, .int .u8 110, .int .u8 111, .int .u8 32, .int .u8 111, .int .u8 116, .int .u8 104, .int .u8 101, .int .u8 114, .int .u8 32, .int .u8 102, .int .u8 105, .int .u8 108, .int .u8 101, .int .u8 32, .int .u8 104, .int .u8 97, .int .u8 115, .int .u8 58, .int .u8 32, .int .u8 109, .int .u8 111, .int .u8 114, .int .u8 101, .int .u8 32, .int .u8 116, .int .u8 104, .int .u8 97, .int .u8 110, .int .u8 32, .int .u8 115, .int .u8 105, .int .u8 120, .int .u8 116, .int .u8 121, .int .u8 32, .int .u8 111, .int .u8 102, .int .u8 32, .int .u8 116, .int .u8 104, .int .u8 101, .int .u8 109, .int .u8 44, .int .u8 32, .int .u8 115, .int .u8 111, .int .u8 32, .int .u8 116, .int .u8 104, .int .u8 97, .int .u8 116, .int .u8 32, .int .u8 110, .int .u8 111, .int .u8 110, .int .u8 101, .int .u8 32, .int .u8 99, .int .u8 97, .int .u8 110, .int .u8 32, .int .u8 98, .int .u8 101, .int .u8 32, .int .u8 105, .int .u8 116] 5 (77, 78))) (.slice (some ⟨w2.heap.size, 0, none⟩) 77 77) (some ⟨w2.heap.size, 0, none⟩) 77 d77 := sl_mark w2 #[.int .u8 98, .int .u8 121, .int .u8 116, .int .u8 101, .int .u8 115, .int .u8 32, .int .u8 116, .int .u8 104, .int .u8 97, .int .u8 116, .int .u8 32, .int .u8 110, .int .u8 111, .int .u8 32, .int .u8 111, .int .u8 116, .int .u8 104, .int .u8 101, .int .u8 114, .int .u8 32, .int .u8 102, .int .u8 105, .int .u8 108, .int .u8 101, .int .u8 32, .int .u8 104, .int .u8 97, .int .u8 115, .int .u8 58, .int .u8 32, .int .u8 109, .int .u8 111, .int .u8 114, .int .u8 101, .int .u8 32, .int .u8 116, .int .u8 104, .int .u8 97, .int .u8 110, .int .u8 32, .int .u8 115, .int .u8 105, .int .u8 120, .int .u8 116, .int .u8 121, .int .u8 32, .int .u8 111, .int .u8 102, .int .u8 32, .int .u8 116, .int .u8 104, .int .u8 101, .int .u8 109, .int .u8 44, .int .u8 32, .int .u8 115, .int .u8 111, .int .u8 32, .int .u8 116, .int .u8 104, .int .u8 97, .int .u8 116, .int .u8 32, .int .u8 110, .int .u8 111, .int .u8 110, .int .u8 101, .int .u8 32, .int .u8 99, .int .u8 97, .int .u8 110, .int .u8 32, .int .u8 98, .int .u8 101, .int .u8 32, .int .u8 105, .int .u8 116] 5 77 (77, 78) d77 rfl (by decide) rfl
  have k3 : Kp (fun _ => False) w2 (w2.alloc (.cells #[.int .u8 98, .int .u8 121, .int .u8 116, .int .u8 101, .int .u8 115, .int .u8 32, .int .u8 116, .int .u8 104, .int .u8 97, .int .u8 116, .int .u8 32, .int .u8 110, .int .u8 111, .int .u8 32, .int .u8 111, .int .u8 116, .int .u8 104, .int .u8 101, .int .u8 114, .int .u8 32, .int .u8 102, .int .u8 105, .int .u8 108, .int .u8 101, .int .u8 32, .int .u8 104, .int .u8 97, .int .u8 115, .int .u8 58, .int .u8 32, .int .u8 109, .int .u8 111, .int .u8 114, .int .u8 101, .int .u8 32, .int .u8 116, .int .u8 104, .int .u8 97, .int .u8 110, .int .u8 32, .int .u8 115, .int .u8 105, .int .u8 120, .int .u8 116, .int .u8 121, .int .u8 32, .int .u8 111, .int .u8 102, .int .u8 32, .int .u8 116, .int .u8 104, .int .u8 101, .int .u8 109, .int .u8 44, .int .u8 32, .int .u8 115, .int .u8 111, .int .u8 32, .int .u8 116, .int .u8 104, .int .u8 97, .int .u8 116, .int .u8 32, .int .u8 110, .int .u8 111, .int .u8 110, .int .u8 101, .int .u8 32, .int .u8 99, .int .u8 97, .int .u8 110, .int .u8 32, .int .u8 98, .int .u8 101, .int .u8 32, .int .u8 105, .int .u8 116] 5 (77, 78))) := (Kp.refl _ w2).alloc _
  have hz3 : (w2.alloc (.cells #[.int .u8 98, .int .u8 121, .int .u8 116, .int .u8 101, .int .u8 115, .int .u8 32, .int .u8 116, .int .u8 104, .int .u8 97, .int .u8 116, .int .u8 32, .int .u8 110, .int .u8 111, .int .u8 32, .int .u8 111, .int .u8 116, .int .u8 104, .int .u8 101, .int .u8 114, .int .u8 32, .int .u8 102, .int .u8 105, .int .u8 108, .int .u8 101, .int .u8 32, .int .u8 104, .int .u8 97, .int .u8 115, .int .u8 58, .int .u8 32, .int .u8 109, .int .u8 111, .int .u8 114, .int .u8 101, .int .u8 32, .int .u8 116, .int .u8 104, .int .u8 97, .int .u8 110, .int .u8 32, .int .u8 115, .int .u8 105, .int .u8 120, .int .u8 116, .int .u8 121, .int .u8 32, .int .u8 111, .int .u8 102, .int .u8 32, .int .u8 116, .int .u8 104, .int .u8 101, .int .u8 109, .int .u8 44, .int .u8 32, .int .u8 115, .int .u8 111, .int .u8 32, .int .u8 116, .int .u8 104, .int .u8 97, .int .u8 116, .int .u8 32, .int .u8 110, .int .u8 111, .int .u8 110, .int .u8 101, .int .u8 32, .int .u8 99, .int .u8 97, .int .u8 110, .int .u8 32, .int .u8 98, .int .u8 101, .int .u8 32, .int .u8 105, .int .u8 116] 5 (77, 78))).heap.size = w2.heap.size + 1 := by simp
  go_upto_region 4 with fail
  clear hidc
  generalize (w2.alloc (.cells #[.int .u8 98, .int .u8 121, .int .u8 116, .int .u8 101, .int .u8 115, .int .u8 32, .int .u8 116, .int .u8 104, .int .u8 97, .int .u8 116, .int .u8 32, .int .u8 110, .int .u8 111, .int .u8 32, .int .u8 111, .int .u8 116, .int .u8 104, .int .u8 101, .int .u8 114, .int .u8 32, .int .u8 102, .int .u8 105, .int .u8 108, .int .u8 101, .int .u8 32, .int .u8 104, .int .u8 97, .int .u8 115, .int .u8 58, .int .u8 32, .int .u8 109, .int .u8 111, .int .u8 114, .int .u8 101, .int .u8 32, .int .u8 116, .int .u8 104, .int .u8 97, .int .u8 110, .int .u8 32, .int .u8 115, .int .u8 105, .int .u8 120, .int .u8 116, .int .u8 121, .int .u8 32, .int .u8 111, .int .u8 102, .int .u8 32, .int .u8 116, .int .u8 104, .int .u8 101, .int .u8 109, .int .u8 44, .int .u8 32, .int .u8 115, .int .u8 111, .int .u8 32, .int .u8 116, .int .u8 104, .int .u8 97, .int .u8 116, .int .u8 32, .int .u8 110, .int .u8 111, .int .u8 110, .int .u8 101, .int .u8 32, .int .u8 99, .int .u8 97, .int .u8 110, .int .u8 32, .int .u8 98, .int .u8 101, .int .u8 32, .int .u8 105, .int .u8 116] 5 (77, 78))) = w3 at *
  generalize (some ⟨w2.heap.size, 0, none⟩ : Option Addr) = la at *
  rw [← hz3]
  have k4 : Kp (fun _ => False) w3 (w3.alloc (.cells #[.int .i64 1, .int .i64 0, .float .f64 0, .slice la 77 77] 42)) := (Kp.refl _ w3).alloc _
  have HBn4 := Lib.hid (hp_new w3 (.cells #[.int .i64 1, .int .i64 0, .float .f64 0, .slice la 77 77] 42))
  have HLA := Lib.hid (show ∀ b, blk la = some b → b < w3.heap.size from hS3.lt (by decide))
  have HS4 := Lib.hid (hS3.keep k4 (fun _ _ => id))
  have HK4 := Lib.hid ((HK2.out.trans k3).trans k4)
  have HT4 := Lib.hid ((HT2.out.keep k3).keep k4)
  have HT4' := Lib.hid ((HT2'.out.keep k3).keep k4)
  have HDl : Hid (d77.length = 77) := by show _ = _; rfl
  generalize d77 = D at *
  clear k3 k4 hz3 hS3 HK2 HT2 HT2'
  generalize hw4 : w3.alloc (.cells #[.int .i64 1, .int .i64 0, .float .f64 0, .slice la 77 77] 42) = w4 at *
  have hz4 : w4.heap.size = w3.heap.size + 1 := by rw [← hw4]; simp
  clear hw4
  generalize w3.heap.size = q at *
  have k5 : Kp (fun _ => False) w4 (w4.alloc (.cells #[.int .i64 1, .int .i64 0, .float .f64 0, .slice la 77 77] 42)) := (Kp.refl _ w4).alloc _
  have HBn5 := Lib.hid (k5.hp HBn4.out id)
  have HBm5 := Lib.hid (hp_new w4 (.cells #[.int .i64 1, .int .i64 0, .float .f64 0, .slice la 77 77] 42))
  have HS5 := Lib.hid (HS4.out.keep k5 (fun _ _ => id))
  have HK5 := Lib.hid (HK4.out.trans k5)
  have HK45 := Lib.hid k5
  have HLA5 := Lib.hid (show ∀ b, blk la = some b → b ≠ w4.heap.size from fun b hb => by have := HLA.out b hb; omega)
  have HQR := Lib.hid (show q ≠ w4.heap.size by omega)
  obtain ⟨f0, f1, f2, f3⟩ := cell_four HBn4.out
  clear k5 hz4 HS4 HBn4
  go_upto_region 5 with fail
  clear f0 f1 f2 f3
  generalize w4.alloc (.cells #[.int .i64 1, .int .i64 0, .float .f64 0, .slice la 77 77] 42) = w5 at *
  obtain ⟨r, hr⟩ : ∃ r, w4.heap.size = r := ⟨_, rfl⟩
  rw [hr] at HBm5 HLA5 HQR ⊢
  have HRw := Lib.hid (show w4.heap.size ≤ r from Nat.le_of_eq hr)
  clear hr
  cases turn with
  | false =>
    obtain ⟨w6, hw6⟩ : ∃ w6, w6 = w5 := ⟨_, rfl⟩
    obtain ⟨ma, hma⟩ : ∃ ma, ma = la := ⟨_, rfl⟩
    obtain ⟨mc, hmc⟩ : ∃ mc : Nat, mc = 77 := ⟨_, rfl⟩
    have HBn := HBn5
    have HBm : Hid (w5.heap[r]? = some (.cells #[.int .i64 1, .int .i64 0, .float .f64 0, .slice ma 77 mc] 42 (0, 0))) := by rw [hma, hmc]; exact HBm5
    have HSn : Hid (Sl w5 (.slice la D.length 77) la 77 D) := by have h := HS5.out; show Sl w5 (.slice la D.length 77) la 77 D; rw [HDl.out]; exact h
    have HSm : Hid (Sl w5 (.slice ma D.length mc) ma mc D) := by rw [hma, hmc]; exact HSn
    have HMl := HDl
    have HT6 := Lib.hid (HT4.out.keep HK45.out)
    have HT6' := Lib.hid (HT4'.out.keep HK45.out)
    have HK6 := HK5
    rw [← hw6] at HBn HBm HSn HSm HT6 HT6' HK6 ⊢
    clear HBn5 HBm5 HS5 HK5 HT4 HT4' HK4 HK45 hw6 hma hmc
    have HM6 := Lib.hid (HK6.out.cell HM.out id)
    obtain ⟨f0, f1, f2, f3⟩ := cell_four HBn.out
    have hP1 := refPut_any ta tc T [113, 45, 49] ⟨1, 0, 0, D⟩ la 77 w6 HT6.out (Nat.le_trans HTT.out.len (by decide)) (fun x hx => Nat.le_trans (HTT.out.paths x hx) (by decide)) (by decide) ⟨HSn.out, (by decide : (0 : Nat) < 18446744073709551616), (by show D.length ≤ _; rw [HDl.out]; decide)⟩
    rw [nodeVal] at hP1
    replace hP1 := Lib.hid (show Calls Tryd.prog 45 #[.slice ta T.length tc, .string ⟨#[113, 45, 49]⟩, .agg #[.int .i64 1, .int .i64 0, .float .f64 0, .slice la 77 77]] w6 (PutEnd w6 (putL T [113, 45, 49] ⟨1, 0, 0, D⟩)) from by have h := hP1; dsimp only at h; rw [HDl.out] at h; exact h)
    go_wp2_with fail
    refine hP1.out.mono ?_
    rintro e w7 hpe
    obtain ⟨v7, U, e7, rfl, hU, ho7, hk7⟩ := putEnd_own hpe
    obtain ⟨ua, uc, rfl, hUT⟩ := ho7.tree
    have HU := Lib.hid hU
    have HUT := Lib.hid hUT
    have HK7 := Lib.hid (HK6.out.trans hk7)
    have HBm7 := Lib.hid (hk7.hp HBm.out id)
    have HSm7 := Lib.hid (HSm.out.keep hk7 (fun _ _ => id))
    have HT7 := Lib.hid (HT6'.out.keep hk7)
    clear hP1 hpe hU ho7 hk7 hUT f0 f1 f2 f3 HBn HBm HSn HSm HT6 HT6' HK6 HM6
    obtain ⟨f0, f1, f2, f3⟩ := cell_four HBm7.out
    have hP2 := refPut_any tb td T' [113, 45, 50] ⟨1, 0, 0, D⟩ ma mc w7 HT7.out (Nat.le_trans HTT'.out.len (by decide)) (fun x hx => Nat.le_trans (HTT'.out.paths x hx) (by decide)) (by decide) ⟨HSm7.out, (by decide : (0 : Nat) < 18446744073709551616), (by show D.length ≤ _; rw [HMl.out]; decide)⟩
    rw [nodeVal] at hP2
    replace hP2 := Lib.hid (show Calls Tryd.prog 45 #[.slice tb T'.length td, .string ⟨#[113, 45, 50]⟩, .agg #[.int .i64 1, .int .i64 0, .float .f64 0, .slice ma 77 mc]] w7 (PutEnd w7 (putL T' [113, 45, 50] ⟨1, 0, 0, D⟩)) from by have h := hP2; dsimp only at h; rw [HMl.out] at h; exact h)
    go_wp2_with fail
    refine hP2.out.mono ?_
    rintro e w8 hpe
    obtain ⟨v8, V, e8, rfl, hV, ho8, hk8⟩ := putEnd_own hpe
    obtain ⟨va, vc, rfl, hVT⟩ := ho8.tree
    have HV := Lib.hid hV
    have HVT := Lib.hid hVT
    have HK8 := Lib.hid (HK7.out.trans hk8)
    have HUT8 := Lib.hid (HUT.out.keep hk8)
    clear hP2 hpe hV ho8 hk8 hVT f0 f1 f2 f3 HBm7 HSm7 HT7 HK7 HUT
    go_wp2_with fail
    refine (known18_any m w8 (HK8.out.cell HM.out id)).mono ?_
    rintro e w9 ⟨rfl, hk9⟩
    have HK9 := Lib.hid (HK8.out.trans hk9)
    have HUT9 := Lib.hid (HUT8.out.keep hk9)
    have HVT9 := Lib.hid (HVT.out.keep hk9)
    clear hk9 HK8 HUT8 HVT
    by_cases z7 : e7 = 0
    case neg =>
      have zb7 : (e7 != 0) = true := by simp [z7]
      clear z7
      go_wp2_with fail
      refine (known18_any m w9 (HK9.out.cell HM.out id)).mono ?_
      rintro e w10 ⟨rfl, hk10⟩
      go_wp2
      go_ret
      exact ⟨rfl, HK9.out.trans hk10⟩
    have zb7 : (e7 != 0) = false := by simp [z7]
    by_cases z8 : e8 = 0
    case neg =>
      have zb8 : (e8 != 0) = true := by simp [z8]
      clear z7 z8
      go_wp2_with fail
      refine (known18_any m w9 (HK9.out.cell HM.out id)).mono ?_
      rintro e w10 ⟨rfl, hk10⟩
      go_wp2
      go_ret
      exact ⟨rfl, HK9.out.trans hk10⟩
    have zb8 : (e8 != 0) = false := by simp [z8]
    have hU0 : putL T [113, 45, 49] ⟨1, 0, 0, D⟩ = (U, 0) := by rw [HU.out, z7]
    have hV0 : putL T' [113, 45, 50] ⟨1, 0, 0, D⟩ = (V, 0) := by rw [HV.out, z8]
    have HLaw := Lib.hid (moves_law HTT.out HTT'.out (n := ⟨1, 0, 0, D⟩) (m := ⟨1, 0, 0, D⟩) rfl rfl (by show 60 < D.length; rw [HDl.out]; decide) (by show 60 < D.length; rw [HMl.out]; decide) hU0 hV0)
    obtain ⟨_, hu2, _, _, hu5⟩ := put_facts HTT.out (p := [113, 45, 49]) (n := ⟨1, 0, 0, D⟩) (by rw [hU0])
    obtain ⟨_, hv2, _, _, hv5⟩ := put_facts HTT'.out (p := [113, 45, 50]) (n := ⟨1, 0, 0, D⟩) (by rw [hV0])
    rw [hU0] at hu2 hu5
    rw [hV0] at hv2 hv5
    have hdl := diffL_len U V
    have HCh := Lib.hid (diffL_ch hu2 hv2)
    have HRi := Lib.hid (prsL_rise (diffL_rise U V))
    have hul : U.length ≤ 1000 := Nat.le_trans hu5 (by decide)
    have hvl : V.length ≤ 1000 := Nat.le_trans hv5 (by decide)
    clear z7 z8 hU0 hV0 hu2 hu5 hv2 hv5 HU HV
    go_wp2_with fail
    refine (diff_any ua va uc vc U V w9 HUT9.out HVT9.out hul hvl).mono ?_
    rintro e w10 ⟨v, L, base, rfl, hLm, _, hoc, hk10⟩
    obtain ⟨da, dc, rfl, hcs⟩ := hoc.list hLm
    have HCs := Lib.hid hcs
    have HK10 := Lib.hid (HK9.out.trans hk10)
    clear hLm hoc hcs hk10 HK9 HUT9 HVT9
    have hdl2 : (diffL U V).length ≤ 1000000 := by omega
    have hPr := pairs_any da dc (diffL U V) m w10 (HK10.out.cell HM.out id) HCs.out hdl2 HCh.out
    rw [HRi.out] at hPr
    replace hPr := Lib.hid hPr
    have hplen := pairsL_len (diffL U V)
    generalize diffL U V = DD at *
    go_wp2_with fail
    refine hPr.out.mono ?_
    rintro e w11 ⟨v, rfl, ho, hk11⟩
    obtain ⟨pa, pc, rfl, hps⟩ := ho.pairs
    have HPs := Lib.hid hps
    have HK11 := Lib.hid (HK10.out.trans hk11)
    clear ho hps hk11 hPr HK10 HCs HCh HRi
    generalize pairsL DD = PP at *
    have hTo := to_any pa pc PP [113, 45, 49] w11 HPs.out (by omega)
    rw [HLaw.out.1 (by first | rfl | trivial)] at hTo
    replace hTo := Lib.hid hTo
    go_wp2_with fail
    refine hTo.out.mono ?_
    rintro e w12 ⟨rfl, hk12⟩
    have HK12 := Lib.hid (HK11.out.trans hk12)
    clear hk12 hTo HLaw HPs HK11
    go_wp2
    go_ret
    exact ⟨by simp, HK12.out⟩
  | true =>
    obtain ⟨ti, I⟩ := byteInfo
    have ka : Kp (fun _ => False) w5 (w5.alloc (.cells #[.int .u8 120] 5 (1, 2))) := (Kp.refl _ w5).alloc _
    have HO := Lib.hid (sl_mark w5 #[.int .u8 120] 5 1 (1, 2) ([120] : List UInt8) rfl (by decide) rfl)
    have HX : Hid (Sl (w5.alloc (.cells #[.int .u8 120] 5 (1, 2))) (.slice la 77 77) la 77 D) := HS5.out.keep ka (fun _ _ => id)
    have HBna := Lib.hid (ka.hp HBn5.out id)
    have HBma := Lib.hid (ka.hp HBm5.out id)
    obtain ⟨⟨p0, p1, p2, p3⟩, ⟨l0, l1, l2, l3⟩, lt3⟩ := cell_fr HBma.out
    obtain ⟨g0, g1, g2, g3⟩ := cell_four HBna.out
    have hidc : (convert 40 40 (.slice (some ⟨w5.heap.size, 0, none⟩) 1 1)).run Tryd.prog (w5.alloc (.cells #[.int .u8 120] 5)) = .ok (.slice (some ⟨w5.heap.size, 0, none⟩) 1 1) (w5.alloc (.cells #[.int .u8 120] 5 (1, 2))) := Lib.run_convert_bytes_const w5 40 5 #[.int .u8 120] 1 1 Tryd.underlying40 Tryd.underlying5
    go_wp2_with (at_builtin; refine wpList_append_sl2 rfl I (.tmp 28) (.tmp 30) rfl (.slice (some ⟨w5.heap.size, 0, none⟩) 1 1) _ 1 ([120] : List UInt8) rfl HO.out (.slice la 77 77) la 77 D rfl HX.out (by rw [HDl.out]; simp) (by rw [HDl.out]; simp) ?_)
    intro v' wC hown hgr
    obtain ⟨ma, mc, hz, _, hzb⟩ := sl_of_owns (bs := [120] ++ D) hown
    have he := hz.eq
    subst he
    have kC : Kp (fun _ => False) w5 wC := ((Kp.refl (fun _ => False) w5).alloc _).grown hgr (fun b hb => by cases hb)
    have hMl : ([120] ++ D).length = 78 := by rw [List.length_append, HDl.out]; rfl
    have HMl : Hid ((120 :: D).length = 78) := by show _ = _; exact hMl
    have hne : ∀ b, blk ma = some b → b ≠ r := fun b hb e => by have h1 := (hzb b hb).1; have h2 := hp_lt HBm5.out; have h3 : w5.heap.size ≤ (w5.alloc (.cells #[.int .u8 120] 5 (1, 2))).heap.size := ka.size; omega
    have kS : Kp (fun b => b = r) wC (wC.setCell ⟨r, 3, none⟩ (.slice ma 78 mc)) := (Kp.refl (fun b => b = r) wC).setCell ⟨r, 3, none⟩ (.inl rfl) _
    have hzz : Sl wC (.slice ma (120 :: D).length mc) ma mc (120 :: D) := hz
    have HSm := Lib.hid (hzz.keep kS hne)
    have HSn : Hid (Sl (wC.setCell ⟨r, 3, none⟩ (.slice ma 78 mc)) (.slice la D.length 77) la 77 D) := by
      show Sl _ _ _ _ _
      have h := (HS5.out.keep kC (fun _ _ => id)).keep kS HLA5.out
      rw [HDl.out]
      exact h
    have HBm := Lib.hid (set_f3 (v := (.slice ma 78 mc)) (kC.hp HBm5.out id))
    have HBn := Lib.hid (hp_set (kC.hp HBn5.out id) ⟨r, 3, none⟩ (.slice ma 78 mc) HQR.out)
    have k46 : Kp (fun _ => False) w4 (wC.setCell ⟨r, 3, none⟩ (.slice ma 78 mc)) := (HK45.out.trans kC).setCell ⟨r, 3, none⟩ (.inr HRw.out) (.slice ma 78 mc)
    have HK6 := Lib.hid (HK4.out.trans k46)
    have HT6 := Lib.hid (HT4.out.keep k46)
    have HT6' := Lib.hid (HT4'.out.keep k46)
    obtain ⟨⟨p0, p1, p2, p3⟩, ⟨l0, l1, l2, l3⟩, lt3⟩ := cell_fr (kC.hp HBm5.out id)
    clear hown hgr hz hzb hzz kS kC k46 hne ka HO HX HBna HBma g0 g1 g2 g3 hidc HBn5 HBm5 HS5 HK5 HT4 HT4' HK4 HK45 I
    rw [hMl]
    go_upto_region 7 with fail
    clear p0 p1 p2 p3 l0 l1 l2 l3 lt3 hMl
    generalize wC.setCell ⟨r, 3, none⟩ (.slice ma 78 mc) = w6 at *
    have HM6 := Lib.hid (HK6.out.cell HM.out id)
    obtain ⟨f0, f1, f2, f3⟩ := cell_four HBn.out
    have hP1 := refPut_any ta tc T [113, 45, 49] ⟨1, 0, 0, D⟩ la 77 w6 HT6.out (Nat.le_trans HTT.out.len (by decide)) (fun x hx => Nat.le_trans (HTT.out.paths x hx) (by decide)) (by decide) ⟨HSn.out, (by decide : (0 : Nat) < 18446744073709551616), (by show D.length ≤ _; rw [HDl.out]; decide)⟩
    rw [nodeVal] at hP1
    replace hP1 := Lib.hid (show Calls Tryd.prog 45 #[.slice ta T.length tc, .string ⟨#[113, 45, 49]⟩, .agg #[.int .i64 1, .int .i64 0, .float .f64 0, .slice la 77 77]] w6 (PutEnd w6 (putL T [113, 45, 49] ⟨1, 0, 0, D⟩)) from by have h := hP1; dsimp only at h; rw [HDl.out] at h; exact h)
    go_wp2_with fail
    refine hP1.out.mono ?_
    rintro e w7 hpe
    obtain ⟨v7, U, e7, rfl, hU, ho7, hk7⟩ := putEnd_own hpe
    obtain ⟨ua, uc, rfl, hUT⟩ := ho7.tree
    have HU := Lib.hid hU
    have HUT := Lib.hid hUT
    have HK7 := Lib.hid (HK6.out.trans hk7)
    have HBm7 := Lib.hid (hk7.hp HBm.out id)
    have HSm7 := Lib.hid (HSm.out.keep hk7 (fun _ _ => id))
    have HT7 := Lib.hid (HT6'.out.keep hk7)
    clear hP1 hpe hU ho7 hk7 hUT f0 f1 f2 f3 HBn HBm HSn HSm HT6 HT6' HK6 HM6
    obtain ⟨f0, f1, f2, f3⟩ := cell_four HBm7.out
    have hP2 := refPut_any tb td T' [113, 45, 50] ⟨1, 0, 0, 120 :: D⟩ ma mc w7 HT7.out (Nat.le_trans HTT'.out.len (by decide)) (fun x hx => Nat.le_trans (HTT'.out.paths x hx) (by decide)) (by decide) ⟨HSm7.out, (by decide : (0 : Nat) < 18446744073709551616), (by show (120 :: D).length ≤ _; rw [HMl.out]; decide)⟩
    rw [nodeVal] at hP2
    replace hP2 := Lib.hid (show Calls Tryd.prog 45 #[.slice tb T'.length td, .string ⟨#[113, 45, 50]⟩, .agg #[.int .i64 1, .int .i64 0, .float .f64 0, .slice ma 78 mc]] w7 (PutEnd w7 (putL T' [113, 45, 50] ⟨1, 0, 0, 120 :: D⟩)) from by have h := hP2; dsimp only at h; rw [HMl.out] at h; exact h)
    go_wp2_with fail
    refine hP2.out.mono ?_
    rintro e w8 hpe
    obtain ⟨v8, V, e8, rfl, hV, ho8, hk8⟩ := putEnd_own hpe
    obtain ⟨va, vc, rfl, hVT⟩ := ho8.tree
    have HV := Lib.hid hV
    have HVT := Lib.hid hVT
    have HK8 := Lib.hid (HK7.out.trans hk8)
    have HUT8 := Lib.hid (HUT.out.keep hk8)
    clear hP2 hpe hV ho8 hk8 hVT f0 f1 f2 f3 HBm7 HSm7 HT7 HK7 HUT
    go_wp2_with fail
    refine (known18_any m w8 (HK8.out.cell HM.out id)).mono ?_
    rintro e w9 ⟨rfl, hk9⟩
    have HK9 := Lib.hid (HK8.out.trans hk9)
    have HUT9 := Lib.hid (HUT8.out.keep hk9)
    have HVT9 := Lib.hid (HVT.out.keep hk9)
    clear hk9 HK8 HUT8 HVT
    by_cases z7 : e7 = 0
    case neg =>
      have zb7 : (e7 != 0) = true := by simp [z7]
      clear z7
      go_wp2_with fail
      refine (known18_any m w9 (HK9.out.cell HM.out id)).mono ?_
      rintro e w10 ⟨rfl, hk10⟩
      go_wp2
      go_ret
      exact ⟨rfl, HK9.out.trans hk10⟩
    have zb7 : (e7 != 0) = false := by simp [z7]
    by_cases z8 : e8 = 0
    case neg =>
      have zb8 : (e8 != 0) = true := by simp [z8]
      clear z7 z8
      go_wp2_with fail
      refine (known18_any m w9 (HK9.out.cell HM.out id)).mono ?_
      rintro e w10 ⟨rfl, hk10⟩
      go_wp2
      go_ret
      exact ⟨rfl, HK9.out.trans hk10⟩
    have zb8 : (e8 != 0) = false := by simp [z8]
    have hU0 : putL T [113, 45, 49] ⟨1, 0, 0, D⟩ = (U, 0) := by rw [HU.out, z7]
    have hV0 : putL T' [113, 45, 50] ⟨1, 0, 0, 120 :: D⟩ = (V, 0) := by rw [HV.out, z8]
    have HLaw := Lib.hid (moves_law HTT.out HTT'.out (n := ⟨1, 0, 0, D⟩) (m := ⟨1, 0, 0, 120 :: D⟩) rfl rfl (by show 60 < D.length; rw [HDl.out]; decide) (by show 60 < (120 :: D).length; rw [HMl.out]; decide) hU0 hV0)
    obtain ⟨_, hu2, _, _, hu5⟩ := put_facts HTT.out (p := [113, 45, 49]) (n := ⟨1, 0, 0, D⟩) (by rw [hU0])
    obtain ⟨_, hv2, _, _, hv5⟩ := put_facts HTT'.out (p := [113, 45, 50]) (n := ⟨1, 0, 0, 120 :: D⟩) (by rw [hV0])
    rw [hU0] at hu2 hu5
    rw [hV0] at hv2 hv5
    have hdl := diffL_len U V
    have HCh := Lib.hid (diffL_ch hu2 hv2)
    have HRi := Lib.hid (prsL_rise (diffL_rise U V))
    have hul : U.length ≤ 1000 := Nat.le_trans hu5 (by decide)
    have hvl : V.length ≤ 1000 := Nat.le_trans hv5 (by decide)
    clear z7 z8 hU0 hV0 hu2 hu5 hv2 hv5 HU HV
    go_wp2_with fail
    refine (diff_any ua va uc vc U V w9 HUT9.out HVT9.out hul hvl).mono ?_
    rintro e w10 ⟨v, L, base, rfl, hLm, _, hoc, hk10⟩
    obtain ⟨da, dc, rfl, hcs⟩ := hoc.list hLm
    have HCs := Lib.hid hcs
    have HK10 := Lib.hid (HK9.out.trans hk10)
    clear hLm hoc hcs hk10 HK9 HUT9 HVT9
    have hdl2 : (diffL U V).length ≤ 1000000 := by omega
    have hPr := pairs_any da dc (diffL U V) m w10 (HK10.out.cell HM.out id) HCs.out hdl2 HCh.out
    rw [HRi.out] at hPr
    replace hPr := Lib.hid hPr
    have hplen := pairsL_len (diffL U V)
    generalize diffL U V = DD at *
    go_wp2_with fail
    refine hPr.out.mono ?_
    rintro e w11 ⟨v, rfl, ho, hk11⟩
    obtain ⟨pa, pc, rfl, hps⟩ := ho.pairs
    have HPs := Lib.hid hps
    have HK11 := Lib.hid (HK10.out.trans hk11)
    clear ho hps hk11 hPr HK10 HCs HCh HRi
    generalize pairsL DD = PP at *
    have hTo := to_any pa pc PP [113, 45, 49] w11 HPs.out (by omega)
    rw [HLaw.out.2 (fun e => by have h := congrArg List.length e; have h1 : (120 :: D).length = 78 := HMl.out; have h2 := HDl.out; have h3 : (120 :: D).length = D.length := h; omega)] at hTo
    replace hTo := Lib.hid hTo
    go_wp2_with fail
    refine hTo.out.mono ?_
    rintro e w12 ⟨rfl, hk12⟩
    have HK12 := Lib.hid (HK11.out.trans hk12)
    clear hk12 hTo HLaw HPs HK11
    go_wp2
    go_ret
    exact ⟨by simp, HK12.out⟩
end Go.Proofs.YtgpidbdgodgefaaDoor
