/-
  A sender: New, Next, Offer, by contracts.
-/
import Derived.Test.YtehdhdocalbfpaaSendB
namespace Go.Proofs.Ytehdhdocalbfpaa
open Go.RowKit ring
set_option linter.unusedVariables false
attribute [local go_sem ↓] Go.wp_at_zero Go.wp_at_succ

/-- What New leaves. -/
def SNew (w : World) (win tmo most : Nat) (e : Ending) (w' : World) : Prop :=
  ∃ S sb, e = .returned (.tuple #[.pointer (some ⟨sb, 0, none⟩), .int .i64 0]) ∧ Snd w' S sb win tmo most 0 [] [] ∧ (∀ b ∈ S, w.heap.size ≤ b) ∧ Fr [] w w'
set_option maxRecDepth 100000 in
theorem snew_no (w : World) (a b c : Int) (h : a < 1 ∨ 32 < a ∨ b < 1 ∨ 1000 < b ∨ c < 1 ∨ 256 < c) : Calls Try.prog 16 #[.int .i64 a, .int .i64 b, .int .i64 c] w fun e w' => e = .returned (.tuple #[.pointer none, .int .i64 2]) ∧ w = w' := by
  go_enter Try.func16, Try.ntmps16
  go_wp2
  all_goals first
    | (exfalso; omega)
    | (go_ret2; exact ⟨rfl, rfl⟩)
set_option maxRecDepth 100000 in
theorem snew_ok (w : World) (win tmo most : Nat) (h1 : 1 ≤ win ∧ win ≤ 32) (h2 : 1 ≤ tmo ∧ tmo ≤ 1000) (h3 : 1 ≤ most ∧ most ≤ 256) : Calls Try.prog 16 #[.int .i64 win, .int .i64 tmo, .int .i64 most] w (SNew w win tmo most) := by
  have hn := Lib.hid (enew_ok w most h3.1 (by omega))
  have i1 : ¬ (win : Int) < 1 := by omega
  have i2 : ¬ (32 : Int) < win := by omega
  have i3 : ¬ (tmo : Int) < 1 := by omega
  have i4 : ¬ (1000 : Int) < tmo := by omega
  have i5 : ¬ (most : Int) < 1 := by omega
  have i6 : ¬ (256 : Int) < most := by omega
  have HH := Lib.hid (And.intro h1 (And.intro h2 h3))
  go_enter Try.func16, Try.ntmps16
  go_wp2_with (go_at_call 54; refine hn.out.mono ?_; rintro e w1 ⟨b, g, Cs, rfl, hr, hb, hg, fr⟩)
  have hX := Lib.hid (And.intro hr (And.intro hb (And.intro hg fr)))
  clear hr hb hg fr
  go_wp2
  all_goals try (exfalso; omega)
  all_goals
    go_ret2
    obtain ⟨hr, hb, hg, fr⟩ := hX.out
    obtain ⟨h1, h2, h3⟩ := HH.out
    refine ⟨[w1.heap.size, b, g], w1.heap.size, rfl, ⟨⟨b, g, Cs, 0, .slice none 0 0, rfl, Blk.new _ _ _, hr.fr ((Fr.refl [] _).alloc _) (by simp) (by simp), World.ownsRow_nil _ _ _ _⟩, by simp, by simp, h1, h2, h3, by simp⟩, ?_, fr.alloc _⟩
    intro k hk
    have := fr.size
    simp at hk
    rcases hk with rfl | rfl | rfl <;> omega

section
variable (w : World) (S : List Nat) (sb win tmo most acked : Nat) (L : List Ev) (A : List Int)
/-- What Next answers. -/
def SNext (w : World) (S : List Nat) (sb win tmo most acked : Nat) (L : List Ev) (A : List Int) (now : Int) (e : Ending) (w' : World) : Prop :=
  match wayOf win tmo L.length A now with
  | none => e = .returned (.tuple #[.int .u64 0, Ev.zero.val, .bool false]) ∧ SndTo w S w' sb win tmo most acked L A
  | some b => ∃ (i : Nat) (x : Ev), i = (if b = true then A.length else 0) ∧ L[i]? = some x ∧ e = .returned (.tuple #[.int .u64 ((acked : Int) + 1 + i), x.val, .bool true]) ∧ SndTo w S w' sb win tmo most acked L (if b = true then A ++ [now] else A.set 0 now)
theorem wayOf_again {win tmo n : Nat} {A : List Int} {now : Int} (h : wayOf win tmo n A now = some false) : 0 < A.length := by
  unfold wayOf at h
  split at h
  · rename_i h1; exact h1.1
  · split at h <;> simp at h
theorem wayOf_fresh {win tmo n : Nat} {A : List Int} {now : Int} (h : wayOf win tmo n A now = some true) : A.length < n ∧ A.length < win := by
  unfold wayOf at h
  split at h
  · simp at h
  · split at h
    · assumption
    · simp at h
end
theorem ev_layEv_same (W : World) (g o : Nat) (e : Ev) (h : can8 W g o = true) : ev? (layEv W g o e) g o = some e.val := by
  have ht : W.there g o e.cells.length := fun j hj => by
    have := List.all_eq_true.1 h j (List.mem_range.2 (by simpa [Ev.cells] using hj))
    simpa using this
  have hr : (layEv W g o e).rangeAt g o e.cells := World.rangeAt_setCells_same W g o e.cells ht
  have h0 := hr 0 _ rfl
  have h1 := hr 1 _ rfl
  have h2 := hr 2 _ rfl
  have h3 := hr 3 _ rfl
  have h4 := hr 4 _ rfl
  have h5 := hr 5 _ rfl
  have h6 := hr 6 _ rfl
  have h7 := hr 7 _ rfl
  rw [Nat.add_zero] at h0
  unfold ev?
  rw [h0, h1, h2, h3, h4, h5, h6, h7]
  rfl
theorem can_new (W : World) : can8 (W.alloc (.cells #[.int .u8 0, .int .u32 0, .int .u32 0, .int .u32 0, .int .i32 0, .int .i32 0, .int .u32 0, .float .f64 0] 56)) W.heap.size 0 = true := (Blk.new W Ev.zero.cells.toArray 56).oneCan
theorem run_storeEv0 (w : World) (g o : Nat) : (storeEv ⟨g, o, none⟩ (.agg #[.int .u8 0, .int .u32 0, .int .u32 0, .int .u32 0, .int .i32 0, .int .i32 0, .int .u32 0, .float .f64 0])).run Try.prog w = bif can8 w g o then .ok () (layEv w g o Ev.zero) else (storeEv' ⟨g, o, none⟩ Ev.zero.val).run Try.prog w := run_storeEv w g o Ev.zero
attribute [local go_sem] ev_layEv_same can_new run_storeEv0
section
variable (w : World) (S : List Nat) (sb win tmo most acked : Nat) (L : List Ev) (A : List Int)
set_option maxRecDepth 100000 in
theorem next_none (now : Int) (h : Snd w S sb win tmo most acked L A) (ho : wayOf win tmo L.length A now = none) : Calls Try.prog 20 #[.pointer (some ⟨sb, 0, none⟩), .int .u32 now] w fun e w' => e = .returned (.tuple #[.int .u64 0, Ev.zero.val, .bool false]) ∧ SndTo w S w' sb win tmo most acked L A := by
  obtain ⟨z, hz⟩ : ∃ z, z = w.heap.size := ⟨_, rfl⟩
  have fr0 : Fr [] w (w.alloc (.cells Ev.zero.cells.toArray 56)) := (Fr.refl [] w).alloc _
  have hZ0 := Blk.new w Ev.zero.cells.toArray 56
  have h0 := h.fr0 fr0
  have hqe := eql103n
  rw [← hz] at hZ0
  have HH := Lib.hid (And.intro fr0 hz)
  have HS := Lib.hid h
  clear fr0 h
  go_enter Try.func20, Try.ntmps20
  go_wp2_with fail
  simp only [zero_cells, ← hz]
  generalize (w.alloc _) = w0 at *
  clear hz
  have hy := snd_way w0 S sb win tmo most acked L A now h0
  rw [ho, wayVal] at hy
  have HY := Lib.hid hy
  have H0 := Lib.hid (And.intro h0 hZ0)
  clear h0 hZ0 ho hy
  (with_reducible refine HY.out.mono ?_)
  rintro e w1 ⟨rfl, m, rfl⟩
  have hcan := H0.out.2.oneCan
  go_wp2
  have hb : Blk (layEv (w0.drewN m) z 0 Ev.zero) z Ev.zero.cells.toArray 56 := (H0.out.2.drewN m).setOne
  refine bodyPost_ret (v := .tuple #[.int .u64 0, Ev.zero.val, .bool false]) (results_tct rfl _ _ z 0 _ _ _ rfl rfl rfl hb.one) rfl ⟨rfl, ?_⟩
  obtain ⟨fr0, hz⟩ := HH.out
  have f1 : Fr [z] w0 (layEv (w0.drewN m) z 0 Ev.zero) := ((Fr.refl [z] w0).drewN m).setEv 0 Ev.zero (.inl (by simp))
  refine ⟨S, H0.out.1.fr f1 (fun k hk hm => by simp at hm; rw [hm] at hk; have := HS.out.lt_size _ hk; omega), fun b hb => .inl hb, ((fr0.trans f1 (by simp [hz])).mono (by simp))⟩
/-! the two ways -/
theorem eat0 (w : World) (b g : Nat) (Cs : List Ev) (f : Nat) (L : List Ev) (most : Nat) (x : Ev) (h : ERing w b g Cs f L most) (hi : L[0]? = some x) : Calls Try.prog 60 #[.pointer (some ⟨b, 0, none⟩), .int .i64 0] w fun e w' => e = .returned (.tuple #[x.val, .bool true]) ∧ Fr [] w w' ∧ ERing w' b g Cs f L most := eat w b g Cs f L most 0 x h hi
theorem eqlg103f (w : World) (k : Nat) (xs : Array Value) : (eqGuard .eql 103 (.tmp 14) (.const .nilFunc) (.func (Fn.func k) xs #[]) .nilFunc).run Try.prog w = .ok () w := by kernel_rfl
set_option maxRecDepth 100000 in
theorem next_fresh (now : Int) (x : Ev) (h : Snd w S sb win tmo most acked L A) (ho : wayOf win tmo L.length A now = some true) (hx : L[A.length]? = some x) : Calls Try.prog 20 #[.pointer (some ⟨sb, 0, none⟩), .int .u32 now] w fun e w' => e = .returned (.tuple #[.int .u64 ((acked : Int) + 1 + (A.length : Int)), x.val, .bool true]) ∧ SndTo w S w' sb win tmo most acked L (A ++ [now]) := by
  have hwf := wayOf_fresh ho
  have hxl : A.length < L.length := (List.getElem?_eq_some_iff.1 hx).1
  have hla := h.la
  have hlm := h.len
  have hmm := h.lm
  obtain ⟨z, hz⟩ : ∃ z, z = w.heap.size := ⟨_, rfl⟩
  have fr0 : Fr [] w (w.alloc (.cells Ev.zero.cells.toArray 56)) := (Fr.refl [] w).alloc _
  have hZ0 := Blk.new w Ev.zero.cells.toArray 56
  have h0 := h.fr0 fr0
  have hqe := eql103f
  have hge := eqlg103f
  rw [← hz] at hZ0
  have HH := Lib.hid (And.intro fr0 (And.intro hz h))
  clear fr0 h
  go_enter Try.func20, Try.ntmps20
  go_wp2_with fail
  simp only [zero_cells, ← hz]
  generalize (w.alloc _) = w0 at *
  clear hz
  have hy := snd_way w0 S sb win tmo most acked L A now h0
  rw [ho, wayVal] at hy
  have HY := Lib.hid hy
  have H0 := Lib.hid (And.intro h0 hZ0)
  clear h0 hZ0 ho hy
  (with_reducible refine HY.out.mono ?_)
  rintro e w1 ⟨rfl, m, rfl⟩
  have hA := Lib.hid (fresh_next (w0.drewN m) S sb win tmo most acked L A now (H0.out.1.fr0 ((Fr.refl [] w0).drewN m)) hwf.1 hwf.2)
  go_wp2_with fail
  (with_reducible refine hA.out.mono ?_)
  rintro e w2 ⟨rfl, S2, s2, s3, s4⟩
  obtain ⟨rb, g, Cs, f, atv, hS2, hb2, hr2, ho2⟩ := s2.ex
  have hz2 := s4.blk (H0.out.2.drewN m) (fun hm => by have := HH.out.2.2.lt_size _ hm; have := HH.out.2.1; omega)
  have zS2 : z ∉ S2 := fun hm => by
    rcases s3 _ hm with h1 | h1
    · have := HH.out.2.2.lt_size _ h1; have := HH.out.2.1; omega
    · have h5 : z < (w0.drewN m).heap.size := H0.out.2.lt
      omega
  have d3 := hb2.at 3 (v := .pointer (some ⟨rb, 0, none⟩)) rfl
  have hE := Lib.hid (eat w2 rb g Cs f L most (A.length) x hr2 hx)
  have H2 := Lib.hid (And.intro s2 (And.intro s3 (And.intro s4 (And.intro hb2 (And.intro hz2 zS2)))))
  clear s2 s3 s4 hS2 hb2 hr2 ho2 hz2 zS2 hx
  go_wp2_with fail
  (with_reducible refine hE.out.mono ?_)
  rintro e w3 ⟨rfl, f3, hr3⟩
  clear d3
  go_wp2_with fail
  have s3 := H2.out.1.fr0 f3
  have b3 := f3.blk H2.out.2.2.2.1 (by simp)
  have z3 := f3.blk H2.out.2.2.2.2.1 (by simp)
  have nzb : sb ≠ z := H2.out.2.2.2.1.ne H2.out.2.2.2.2.1 (by decide)
  have nz : z ≠ w3.heap.size := by have := z3.lt; omega
  have nb : sb ≠ w3.heap.size := by have := b3.lt; omega
  obtain ⟨y, hy⟩ : ∃ y, y = w3.heap.size := ⟨_, rfl⟩
  rw [← hy] at nz nb ⊢
  have can : can8 (w3.alloc (.cells Ev.zero.cells.toArray 56)) y 0 = true := by rw [hy]; exact can_new w3
  have fa : Fr [y] w3 (layEv (w3.alloc (.cells Ev.zero.cells.toArray 56)) y 0 x) := ((Fr.refl _ w3).alloc _).setEv 0 x (.inl (by simp))
  have ey := ev_layEv_same (w3.alloc (.cells Ev.zero.cells.toArray 56)) y 0 x can
  have s4 : Snd (layEv (w3.alloc (.cells Ev.zero.cells.toArray 56)) y 0 x) S2 sb win tmo most acked L (A ++ [now]) := s3.fr fa (fun k hk hm => by simp at hm; rw [hm] at hk; have := s3.lt_size _ hk; omega)
  have b4 := fa.blk b3 (by simpa using nb)
  have z4 := fa.blk z3 (by simpa using nz)
  have f4 : Fr [] w3 (layEv (w3.alloc (.cells Ev.zero.cells.toArray 56)) y 0 x) := fa.mono (by simp [hy])
  simp only [zero_cells]
  generalize layEv _ y 0 x = w4 at *
  have c2 := b4.at 2 (v := .int .u64 acked) rfl
  have hcan := z4.oneCan
  have k1 : IntKind.u64.wrap ((acked : Int) + 1) = (acked : Int) + 1 := by rw [IntKind.wrap_u64]; omega
  have k2 : IntKind.u64.wrap (A.length : Int) = A.length := by rw [IntKind.wrap_u64]; omega
  have k3 : IntKind.u64.wrap ((acked : Int) + 1 + (A.length : Int)) = (acked : Int) + 1 + A.length := by rw [IntKind.wrap_u64]; omega
  have H4 := Lib.hid (And.intro s4 (And.intro z4 (f3.trans f4 (by simp))))
  clear s3 b3 z3 s4 b4 z4 can fa f3 f4 hr3 hy
  go_region_held3 (fun w' => w'.cell? ⟨sb, 2, none⟩ = some (.int .u64 acked) ∧ ev? w' y 0 = some x.val) ((try simp only [World.cell?_drew, ev_drew, cell_layEv' _ _ _ _ _ _ nzb, ev_layEv _ _ _ _ _ _ (Ne.symm nz)]; exact ⟨c2, ey⟩)) (fail)
  simp only [Exit.then]
  go_wp2
  have hb : Blk (layEv w4.drew z 0 x) z x.cells.toArray 56 := (H4.out.2.1.drew).setOne
  refine bodyPost_ret (v := .tuple #[.int .u64 ((acked : Int) + 1 + (A.length : Int)), x.val, .bool true]) (results_tct rfl _ _ z 0 _ _ _ rfl rfl rfl hb.one) rfl ⟨rfl, ?_⟩
  obtain ⟨f0, hz, h⟩ := HH.out
  obtain ⟨s2, s3, s4, hb2, hz2, zS2⟩ := H2.out
  have f5 : Fr [z] w4 (layEv w4.drew z 0 x) := ((Fr.refl [z] w4).drew).setEv 0 x (.inl (by simp))
  refine ⟨S2, H4.out.1.fr f5 (fun k hk hm => by simp at hm; rw [hm] at hk; exact zS2 hk), fun k hk => (s3 k hk).imp id (fun h => Nat.le_trans f0.size h), ?_⟩
  exact ((((f0.drewN m).mono (T := S) (by simp)).trans s4 (fun b hb => .inl hb)).trans H4.out.2.2 (by simp)).trans f5 (by simp [hz])
set_option maxRecDepth 100000 in
theorem next_again (now : Int) (x : Ev) (h : Snd w S sb win tmo most acked L A) (ho : wayOf win tmo L.length A now = some false) (hx : L[0]? = some x) : Calls Try.prog 20 #[.pointer (some ⟨sb, 0, none⟩), .int .u32 now] w fun e w' => e = .returned (.tuple #[.int .u64 ((acked : Int) + 1), x.val, .bool true]) ∧ SndTo w S w' sb win tmo most acked L (A.set 0 now) := by
  have hwa := wayOf_again ho
  have hxl : 0 < L.length := (List.getElem?_eq_some_iff.1 hx).1
  have hla := h.la
  have hlm := h.len
  have hmm := h.lm
  obtain ⟨z, hz⟩ : ∃ z, z = w.heap.size := ⟨_, rfl⟩
  have fr0 : Fr [] w (w.alloc (.cells Ev.zero.cells.toArray 56)) := (Fr.refl [] w).alloc _
  have hZ0 := Blk.new w Ev.zero.cells.toArray 56
  have h0 := h.fr0 fr0
  have hqe := eql103f
  have hge := eqlg103f
  rw [← hz] at hZ0
  have HH := Lib.hid (And.intro fr0 (And.intro hz h))
  clear fr0 h
  go_enter Try.func20, Try.ntmps20
  go_wp2_with fail
  simp only [zero_cells, ← hz]
  generalize (w.alloc _) = w0 at *
  clear hz
  have hy := snd_way w0 S sb win tmo most acked L A now h0
  rw [ho, wayVal] at hy
  have HY := Lib.hid hy
  have H0 := Lib.hid (And.intro h0 hZ0)
  clear h0 hZ0 ho hy
  (with_reducible refine HY.out.mono ?_)
  rintro e w1 ⟨rfl, m, rfl⟩
  have hA := Lib.hid (again_next (w0.drewN m) S sb win tmo most acked L A now (H0.out.1.fr0 ((Fr.refl [] w0).drewN m)) hwa)
  go_wp2_with fail
  (with_reducible refine hA.out.mono ?_)
  rintro e w2 ⟨rfl, S2, s2, s3, s4⟩
  obtain ⟨rb, g, Cs, f, atv, hS2, hb2, hr2, ho2⟩ := s2.ex
  have hz2 := s4.blk (H0.out.2.drewN m) (fun hm => by have := HH.out.2.2.lt_size _ hm; have := HH.out.2.1; omega)
  have zS2 : z ∉ S2 := fun hm => by
    rcases s3 _ hm with h1 | h1
    · have := HH.out.2.2.lt_size _ h1; have := HH.out.2.1; omega
    · have h5 : z < (w0.drewN m).heap.size := H0.out.2.lt
      omega
  have d3 := hb2.at 3 (v := .pointer (some ⟨rb, 0, none⟩)) rfl
  have hE := Lib.hid (eat0 w2 rb g Cs f L most x hr2 hx)
  have H2 := Lib.hid (And.intro s2 (And.intro s3 (And.intro s4 (And.intro hb2 (And.intro hz2 zS2)))))
  clear s2 s3 s4 hS2 hb2 hr2 ho2 hz2 zS2 hx
  go_wp2_with fail
  (with_reducible refine hE.out.mono ?_)
  rintro e w3 ⟨rfl, f3, hr3⟩
  clear d3
  go_wp2_with fail
  have s3 := H2.out.1.fr0 f3
  have b3 := f3.blk H2.out.2.2.2.1 (by simp)
  have z3 := f3.blk H2.out.2.2.2.2.1 (by simp)
  have nzb : sb ≠ z := H2.out.2.2.2.1.ne H2.out.2.2.2.2.1 (by decide)
  have nz : z ≠ w3.heap.size := by have := z3.lt; omega
  have nb : sb ≠ w3.heap.size := by have := b3.lt; omega
  obtain ⟨y, hy⟩ : ∃ y, y = w3.heap.size := ⟨_, rfl⟩
  rw [← hy] at nz nb ⊢
  have can : can8 (w3.alloc (.cells Ev.zero.cells.toArray 56)) y 0 = true := by rw [hy]; exact can_new w3
  have fa : Fr [y] w3 (layEv (w3.alloc (.cells Ev.zero.cells.toArray 56)) y 0 x) := ((Fr.refl _ w3).alloc _).setEv 0 x (.inl (by simp))
  have ey := ev_layEv_same (w3.alloc (.cells Ev.zero.cells.toArray 56)) y 0 x can
  have s4 : Snd (layEv (w3.alloc (.cells Ev.zero.cells.toArray 56)) y 0 x) S2 sb win tmo most acked L (A.set 0 now) := s3.fr fa (fun k hk hm => by simp at hm; rw [hm] at hk; have := s3.lt_size _ hk; omega)
  have b4 := fa.blk b3 (by simpa using nb)
  have z4 := fa.blk z3 (by simpa using nz)
  have f4 : Fr [] w3 (layEv (w3.alloc (.cells Ev.zero.cells.toArray 56)) y 0 x) := fa.mono (by simp [hy])
  simp only [zero_cells]
  generalize layEv _ y 0 x = w4 at *
  have c2 := b4.at 2 (v := .int .u64 acked) rfl
  have hcan := z4.oneCan
  have k1 : IntKind.u64.wrap ((acked : Int) + 1) = (acked : Int) + 1 := by rw [IntKind.wrap_u64]; omega
  have k2 : IntKind.u64.wrap (0 : Int) = 0 := by rw [IntKind.wrap_u64]; omega
  have H4 := Lib.hid (And.intro s4 (And.intro z4 (f3.trans f4 (by simp))))
  clear s3 b3 z3 s4 b4 z4 can fa f3 f4 hr3 hy
  go_region_held3 (fun w' => w'.cell? ⟨sb, 2, none⟩ = some (.int .u64 acked) ∧ ev? w' y 0 = some x.val) ((try simp only [World.cell?_drew, ev_drew, cell_layEv' _ _ _ _ _ _ nzb, ev_layEv _ _ _ _ _ _ (Ne.symm nz)]; exact ⟨c2, ey⟩)) (fail)
  simp only [Exit.then]
  go_wp2
  have hb : Blk (layEv w4.drew z 0 x) z x.cells.toArray 56 := (H4.out.2.1.drew).setOne
  refine bodyPost_ret (v := .tuple #[.int .u64 ((acked : Int) + 1), x.val, .bool true]) (results_tct rfl _ _ z 0 _ _ _ rfl rfl rfl hb.one) rfl ⟨rfl, ?_⟩
  obtain ⟨f0, hz, h⟩ := HH.out
  obtain ⟨s2, s3, s4, hb2, hz2, zS2⟩ := H2.out
  have f5 : Fr [z] w4 (layEv w4.drew z 0 x) := ((Fr.refl [z] w4).drew).setEv 0 x (.inl (by simp))
  refine ⟨S2, H4.out.1.fr f5 (fun k hk hm => by simp at hm; rw [hm] at hk; exact zS2 hk), fun k hk => (s3 k hk).imp id (fun h => Nat.le_trans f0.size h), ?_⟩
  exact ((((f0.drewN m).mono (T := S) (by simp)).trans s4 (fun b hb => .inl hb)).trans H4.out.2.2 (by simp)).trans f5 (by simp [hz])
/-- Next. -/
theorem snd_next (now : Int) (h : Snd w S sb win tmo most acked L A) : Calls Try.prog 20 #[.pointer (some ⟨sb, 0, none⟩), .int .u32 now] w (SNext w S sb win tmo most acked L A now) := by
  have hal := h.al
  rcases ho : wayOf win tmo L.length A now with _ | _ | _
  · refine (next_none w S sb win tmo most acked L A now h ho).mono fun e w' h => ?_
    unfold SNext; rw [ho]; exact h
  · have hwa := wayOf_again ho
    refine (next_again w S sb win tmo most acked L A now (L[0]'(by omega)) h ho (List.getElem?_eq_getElem _)).mono fun e w' h => ?_
    unfold SNext; rw [ho]; exact ⟨0, _, rfl, List.getElem?_eq_getElem _, by simpa using h.1, by simpa using h.2⟩
  · have hwf := wayOf_fresh ho
    refine (next_fresh w S sb win tmo most acked L A now (L[A.length]'hwf.1) h ho (List.getElem?_eq_getElem _)).mono fun e w' h => ?_
    unfold SNext; rw [ho]; exact ⟨A.length, _, rfl, List.getElem?_eq_getElem _, h.1, by simpa using h.2⟩
end

end Go.Proofs.Ytehdhdocalbfpaa
