/- GuardPlays: player.run comes to what the plain law says. Conditions: as the theorems name them. -/
import Derived.Test.YtbjndmmelngbdaaPlays2
namespace Go.Proofs.Ytbjndmmelngbdaa
open Go.RowKit Go.Deep

/-- Within fewer guards. -/
theorem St.down {w : World} {B0 p : Nat} {la : Option Addr} {lc : Nat} {s : GSteps} {deep k : Nat} {log : List Int} {G : List Nat} {g : Nat} {lr gr : Option Nat} (h : St w B0 p la lc s (deep + 1) k log (G ++ [g]) lr gr) : St w B0 p la lc s deep k log G lr gr := by
  obtain ⟨gs, h1, h2, h3, h4⟩ := h
  have hl : G.length = deep := by simpa using h3
  refine ⟨gs, h1, ?_, hl, fun x hx => h4 x (List.mem_append_left _ hx)⟩
  have := congrArg (List.take deep) h2
  rw [List.take_take, Nat.min_eq_left (Nat.le_succ _)] at this
  rw [this, ← hl]
  simp

/-- What Do of the closure comes to. -/
theorem doRun (B0 p : Nat) (la : Option Addr) (lc : Nat) (s : GSteps) (hs : Nums s) (m : Nat) (ih : RunAll B0 p la lc s m) (deep k : Nat) (log : List Int) (G : List Nat) (lr gr : Option Nat) (bp bd : Nat) (w : World)
    (hm : 60 - k < m + 1) (hk : k ≤ 60) (hd : deep ≤ 6) (hlog : log.length ≤ k) (hst : St w B0 p la lc s deep k log G lr gr)
    (hbp : w.heap[bp]? = some (.cells #[.pointer (some ⟨p, 0, none⟩)] 35 (0, 0))) (hbd : w.heap[bd]? = some (.cells #[.int .i64 (deep : Int)] 3 (0, 0)))
    (hnp : ¬ Own p lr gr G bp) (hnd : ¬ Own p lr gr G bd) :
    Calls Try.prog 10 #[.func (Fn.func 29) #[] #[.pointer (some ⟨bp, 0, none⟩), .pointer (some ⟨bd, 0, none⟩)]] w (RunEnd B0 p la lc s deep k log G lr gr w) := by
  have hrow := hst.row
  have hpl := hp_lt hbp
  have hdl := hp_lt hbd
  have hto := pl_to s 60 deep k log (by omega)
  have hlen : G.length = deep := by obtain ⟨_, _, _, h, _⟩ := hst; exact h
  refine do_gen 29 #[] #[.pointer (some ⟨bp, 0, none⟩), .pointer (some ⟨bd, 0, none⟩)] (fun g => #[.pointer (some g), .pointer (some ⟨bp, 0, none⟩), .pointer (some ⟨bd, 0, none⟩)]) w _ (fun g w => by kernel_rfl) ?_
  have k0 : Kp (fun _ => False) w ((w.alloc (.cells #[.int .i64 0] 25)).alloc (.cells #[.int .i64 0] 47)) := ((Kp.refl _ w).alloc _).alloc _
  have hst3 := hst.keepF k0
  have hsz : ((w.alloc (.cells #[.int .i64 0] 25)).alloc (.cells #[.int .i64 0] 47)).heap.size = w.heap.size + 2 := by simp
  have hg : ((w.alloc (.cells #[.int .i64 0] 25)).alloc (.cells #[.int .i64 0] 47)).heap[w.heap.size + 1]? = some (.cells #[.int .i64 0] 47 (0, 0)) := hp_new' _ _ (by simp)
  have hr : ((w.alloc (.cells #[.int .i64 0] 25)).alloc (.cells #[.int .i64 0] 47)).heap[w.heap.size]? = some (.cells #[.int .i64 0] 25 (0, 0)) := hp_old (hp_new _ _) _
  have hB0 : B0 ≤ p := by obtain ⟨_, h, _⟩ := hst; exact h.le
  have hpp := hrow p (.inl rfl)
  have hgo : GOk ((w.alloc (.cells #[.int .i64 0] 25)).alloc (.cells #[.int .i64 0] 47)) B0 p lr gr (G ++ [w.heap.size + 1]) := by
    intro x hx
    rcases List.mem_append.1 hx with hx | hx
    · obtain ⟨_, _, _, _, h⟩ := hst3
      exact h x hx
    · have : x = w.heap.size + 1 := by simpa using hx
      subst this
      refine ⟨⟨by omega, by omega, fun e => ?_, fun e => ?_⟩, 0, hg⟩
      · have := hrow _ (.inr (.inl e)); omega
      · have := hrow _ (.inr (.inr (.inl e))); omega
  have hown : ∀ b, b < w.heap.size + 1 → ¬ Own p lr gr G b → ¬ Own p lr gr (G ++ [w.heap.size + 1]) b := by
    intro b hb hn h
    rcases h with h | h | h | h
    · exact hn (.inl h)
    · exact hn (.inr (.inl h))
    · exact hn (.inr (.inr (.inl h)))
    · rcases List.mem_append.1 h with h | h
      · exact hn (.inr (.inr (.inr h)))
      · have : b = w.heap.size + 1 := by simpa using h
        omega
  have hrn : ¬ Own p lr gr G w.heap.size := fun h => by have := hrow _ h; omega
  have hbx : Boxes ((w.alloc (.cells #[.int .i64 0] 25)).alloc (.cells #[.int .i64 0] 47)) p lr gr (G ++ [w.heap.size + 1]) bp bd deep := by
    intro w' kp
    exact ⟨(cell_one (kp.hp (k0.hp hbp id) (hown bp (by omega) hnp))).1, (cell_one (kp.hp (k0.hp hbd id) (hown bd (by omega) hnd))).1⟩
  refine (closure_any B0 p la lc s hs m ih deep k log G (w.heap.size + 1) lr gr bp bd _ hm hk hd hlog hst3 hgo hbx ⟨fun e => hnp (.inl e), fun e => hnd (.inl e)⟩).mono ?_
  rintro e w' ⟨⟨lr', gr', hs', hf', hg'⟩, hk', hcase⟩
  have hr' : w'.heap[w.heap.size]? = some (.cells #[.int .i64 0] 25 (0, 0)) := hk'.hp hr (hown _ (by omega) hrn)
  have hK : Kp (Own p lr gr G) w w' := (k0.mono fun _ _ h => h.elim).step hk' fun i hi h => by
    rcases h with h | h | h | h
    · exact .inl h
    · exact .inr (.inl h)
    · exact .inr (.inr (.inl h))
    · rcases List.mem_append.1 h with h | h
      · exact .inr (.inr (.inr h))
      · have : i = w.heap.size + 1 := by simpa using h
        omega
  have hF : Fresh w lr lr' := Fresh.trans (.inl rfl) hf' k0.size
  have hGf : Fresh w gr gr' := Fresh.trans (.inl rfl) hg' k0.size
  have hsd := hs'.down
  have hrow' := hs'.row
  -- the block of the result is none of the player's
  have hnr : ∀ b, Own p lr' gr' G b → ¬ b = w.heap.size := by
    rintro b h rfl
    refine hown _ (by omega) hrn ?_
    have := Own.fresh hf' hg' (by rw [hsz]; omega) h
    rcases this with h | h | h | h
    · exact .inl h
    · exact .inr (.inl h)
    · exact .inr (.inr (.inl h))
    · exact .inr (.inr (.inr (List.mem_append_left _ h)))
  have hset : ∀ (w2 : World) (v : Int), St w2 B0 p la lc s deep (pl s deep k log).2.1 (pl s deep k log).2.2 G lr' gr' → St (w2.setCell ⟨w.heap.size, 0, none⟩ (.int .i64 v)) B0 p la lc s deep (pl s deep k log).2.1 (pl s deep k log).2.2 G lr' gr' := fun w2 v h =>
    h.keep ((Kp.refl (fun b => b = w.heap.size) w2).setCell ⟨w.heap.size, 0, none⟩ (.inl rfl) _) (fun b hb e => by omega) hnr
  rcases hcase with ⟨h1, rfl⟩ | ⟨older, g', h1, rfl, h2, h3⟩
  · refine ⟨⟨0, hr'⟩, ⟨lr', gr', hset _ _ hsd, hF, hGf⟩, hK.setCell ⟨w.heap.size, 0, none⟩ (.inr (Nat.le_refl _)) _, .inl ?_⟩
    rw [h1]
    exact ⟨rfl, rfl⟩
  · refine ⟨⟨0, hr'⟩, _, older, rfl, h2, ?_⟩
    by_cases hd2 : (pl s deep k log).1.2 = deep
    · have : g' = w.heap.size + 1 := by
        rw [hd2, ← hlen] at h1
        simpa using h1.symm
      subst this
      refine .inl ⟨rfl, _, h3, ⟨lr', gr', hset _ _ (hsd.keepF ((Kp.refl _ w').alloc _)), hF, hGf⟩, (hK.alloc _).setCell ⟨w.heap.size, 0, none⟩ (.inr (Nat.le_refl _)) _, .inl ⟨hd2, rfl⟩⟩
    · have hlt : (pl s deep k log).1.2 < deep := by omega
      have h4 : G[(pl s deep k log).1.2]? = some g' := by
        rw [List.getElem?_append_left (by omega)] at h1
        exact h1
      have hmem := List.mem_of_getElem? h4
      have hgl := hrow g' (.inr (.inr (.inr hmem)))
      obtain ⟨_, _, _, _, hgk⟩ := hs'
      obtain ⟨_, x1, hx1⟩ := hgk (w.heap.size + 1) (by simp)
      refine .inr (.inl ⟨⟨g', 0, none⟩, rfl, fun e => by cases e; omega, ⟨_, _, hx1⟩, ⟨_, _, h3⟩, ⟨lr', gr', hsd.keepF ((Kp.refl _ w').alloc _), hF, hGf⟩, hK.alloc _, .inr ⟨hlt, _, g', h4, rfl, ?_, hp_old h3 _⟩⟩)
      intro x hx
      rcases List.mem_cons.1 hx with e | hx
      · rw [e]
      · exact h2 x hx

set_option maxHeartbeats 400000 in
theorem run_all (B0 p : Nat) (la : Option Addr) (lc : Nat) (s : GSteps) (hs : Nums s) : ∀ m, RunAll B0 p la lc s m := by
  intro m
  induction m with
  | zero => intro deep k log G lr gr w hm; omega
  | succ m ih =>
    intro deep k log G lr gr w hm hk hd hlog hst
    have hmf : ∀ (fn : Fn) (first cap : Array Value) (w : World), (Instr.makeFunc fn first cap).run Try.prog w = .ok (.func fn first cap) w := fun _ _ _ _ => rfl
    have k0 : Kp (fun _ => False) w ((w.alloc (.cells #[.pointer (some ⟨p, 0, none⟩)] 35)).alloc (.cells #[.int .i64 (deep : Int)] 3)) := ((Kp.refl _ w).alloc _).alloc _
    have hrow := hst.row
    have HD := Lib.hid (doRun B0 p la lc s hs m ih deep k log G lr gr w.heap.size (w.heap.size + 1) _ hm hk hd hlog (hst.keepF k0) (hp_old (hp_new _ _) _) (hp_new' _ _ (by simp)) (fun h => by have := hrow _ h; omega) (fun h => by have := hrow _ h; omega))
    have HK0 := Lib.hid k0
    clear k0 hst ih hrow
    go_enter Try.func21, Try.ntmps21
    go_wp2_with fail
    refine HD.out.mono ?_
    rintro e w2 ⟨⟨lr', gr', hs', hf', hg'⟩, hk', hcase⟩
    have H1 := Lib.hid (And.intro hs' (And.intro (Fresh.trans (.inl rfl) hf' HK0.out.size) (Fresh.trans (.inl rfl) hg' HK0.out.size)))
    have H2 := Lib.hid ((HK0.out.mono (S' := Own p lr gr G) fun _ _ h => h.elim).step hk' fun _ _ h => h)
    clear hs' hf' hg' hk' HD
    rcases hcase with ⟨h1, rfl⟩ | ⟨h1, older, g', h2, rfl, h3, h4⟩
    · have H3 := Lib.hid h1
      clear h1
      go_wp2
      go_ret
      exact ⟨⟨lr', gr', H1.out.1, H1.out.2.1, H1.out.2.2⟩, H2.out, .inl ⟨H3.out, rfl⟩⟩
    · refine ⟨rfl, ⟨lr', gr', H1.out.1, H1.out.2.1, H1.out.2.2⟩, H2.out, .inr ⟨h1, older, g', h2, rfl, h3, h4⟩⟩
end Go.Proofs.Ytbjndmmelngbdaa
