/- A few bytes of new memory. Conditions: as the theorems name them. -/
import Derived.Test.YtgpidbdgodgefaaDoorApp
import Derived.Test.YtgpidbdgodgefaaDoorChecked
namespace Go.Proofs.YtgpidbdgodgefaaDoor
open Go.RowKit Go.Deep

theorem infoByteF : (Tryd.prog.info? 5).map (fun i => (i.zero, i.size, i.bytes)) = some (some (.int .u8 0), 1, 1) := by kernel_rfl
theorem byteInfoF : ∃ i, ByteInfo Tryd.prog 40 5 i := by
  obtain ⟨i, h1, h2, h3, h4⟩ := info_parts infoByteF
  exact ⟨i, Tryd.underlying40, h1, h2, h3, h4⟩
/-- What Bytes hands back: bytes of its own. -/
def Given (w : World) (bs : List UInt8) (e : Ending) (w' : World) : Prop :=
  ∃ v, e = .returned v ∧ w'.ownsRow w.heap.size 5 1 v bs.length (bs.map byteV) ∧ Kp (fun _ => False) w w'
/-- A slice from its head on. -/
theorem sl_head {P : Program} {t e : TypeId} {i : TypeInfo} (I : ByteInfo P t e i) {w : World} {a : Option Addr} {c : Nat} {bs : List UInt8} (h : Sl w (.slice a bs.length c) a c bs) (n : Nat) (hn : n ≤ bs.length) :
    (∀ w', (Instr.slice t (.slice a bs.length c) none (some (.int .i64 n)) none).run P w' = .ok (.slice a n c) w') ∧ Sl w (.slice a n c) a c (bs.take n) := by
  have hlen : (bs.take n).length = n := by simp; omega
  have hle := h.le
  refine ⟨fun w' => ?_, ⟨by rw [hlen], by omega, h.max, h.nocap, fun j hj => ?_⟩⟩
  · cases a with
    | none =>
      have hc := h.nocap rfl
      have hn0 : n = 0 := by omega
      subst hc
      subst hn0
      simp [Instr.slice, Instr.sliceBounds, Instr.sliceBound, asIntOf, run_underlying I.sl, sizeOf, typeInfo, I.info]
    | some ad =>
      have h1 : n ≤ c := by omega
      have h0 : ad.add 0 = ad := by simp [Addr.add]
      simp [Instr.slice, Instr.sliceBounds, Instr.sliceBound, asIntOf, run_underlying I.sl, sizeOf, typeInfo, I.info, h1, h0]
  · rw [hlen] at hj
    obtain ⟨b, off, e1, hc⟩ := h.seg j (by omega)
    exact ⟨b, off, e1, by rw [hc]; simp⟩
set_option maxHeartbeats 400000 in
theorem Few_any (x : Value) (a : Option Addr) (c : Nat) (xs : List UInt8) (n : Nat) (w : World) (hx : Sl w x a c xs) (hb : xs.length ≤ 140737488355328) (hn : n ≤ 9223372036854775807) :
    Calls Tryd.prog 68 #[x, .int .i64 n] w (Given w (xs.take n)) := by
  obtain ⟨ti, I⟩ := byteInfoF
  have h1 := owns_empty w w.heap.size 5 (Nat.le_refl _)
  have h2 := hx.keep (S := fun _ => False) ((Kp.refl _ w).alloc (.cells #[] 5)) (fun _ _ => id)
  have he := hx.eq
  subst he
  by_cases hlt : n < xs.length
  · obtain ⟨hsl, h3⟩ := sl_head I h2 n (by omega)
    have hlen : (xs.take n).length = n := by simp; omega
    have HO := Lib.hid h1; have HX := Lib.hid h3; have HL := Lib.hid hlen
    have HB := Lib.hid hb
    clear h1 h2 h3 hx hlen hb
    go_enter Tryd.func68, Tryd.ntmps68
    go_wp2_with (at_builtin; refine wpList_append_sl rfl I w.heap.size (.tmp 5) (.tmp 11) rfl (.slice (some ⟨w.heap.size, 0, none⟩) 0 0) [] rfl HO.out (by simp) (.slice a n c) a c (xs.take n) rfl HX.out (by rw [HL.out]; have := HB.out; simp; omega) ?_)
    intro v' w' hown' hgr hfr'
    have HO' := Lib.hid hown'; have HG' := Lib.hid hgr
    clear hown' hgr hfr'
    go_wp2
    go_ret
    exact ⟨_, rfl, by simpa using HO'.out, ((Kp.refl (fun _ => False) w).alloc _).grown HG'.out (fun k hk => by cases hk; exact .inr (Nat.le_refl _))⟩
  · obtain ⟨hsl, h3⟩ := sl_head I h2 xs.length (Nat.le_refl _)
    rw [List.take_length] at h3
    have HO := Lib.hid h1; have HX := Lib.hid h3
    have HB := Lib.hid hb
    rw [List.take_of_length_le (by omega)]
    clear h1 h2 h3 hx
    go_enter Tryd.func68, Tryd.ntmps68
    go_wp2_with (at_builtin; refine wpList_append_sl rfl I w.heap.size (.tmp 5) (.tmp 11) rfl (.slice (some ⟨w.heap.size, 0, none⟩) 0 0) [] rfl HO.out (by simp) (.slice a xs.length c) a c xs rfl HX.out (by simpa using HB.out) ?_)
    intro v' w' hown' hgr hfr'
    have HO' := Lib.hid hown'; have HG' := Lib.hid hgr
    clear hown' hgr hfr'
    go_wp2
    go_ret
    exact ⟨_, rfl, by simpa using HO'.out, ((Kp.refl (fun _ => False) w).alloc _).grown HG'.out (fun k hk => by cases hk; exact .inr (Nat.le_refl _))⟩
end Go.Proofs.YtgpidbdgodgefaaDoor
