/-
  TableBits: the walk.
-/
import Derived.Test.YtgoolkgjcmdilaaDoorBiM
import Derived.BigRegion
import Derived.Deep.CutBlock
import Derived.Deep.DeepCutAuto
namespace Go.Proofs.YtgoolkgjcmdilaaDoor
open Go.RowKit
set_option linter.unusedVariables false
set_option linter.unusedSimpArgs false
attribute [local go_sem] Oper.semAt_some

def pv (f : Nat → Nat) (i k : Nat) : Value := if k < i then .pointer (some ⟨f k, 0, none⟩) else .pointer none
def arr3 (f : Nat → Nat) (i : Nat) : Array Value := #[pv f i 0, pv f i 1, pv f i 2]
def upd1 {α : Type} (f : Nat → α) (i : Nat) (x : α) : Nat → α := fun k => if k = i then x else f k
theorem arr3_set (f : Nat → Nat) {i : Nat} (b : Nat) (hi : i < 3) : (arr3 f i).setIfInBounds i (.pointer (some ⟨b, 0, none⟩)) = arr3 (upd1 f i b) (i + 1) := by
  have : i = 0 ∨ i = 1 ∨ i = 2 := by omega
  rcases this with rfl | rfl | rfl <;> simp [arr3, pv, upd1]
theorem arr3_at (f : Nat → Nat) {i : Nat} (hi : i < 3) : (arr3 f i)[i]? = some (.pointer none) := by
  have : i = 0 ∨ i = 1 ∨ i = 2 := by omega
  rcases this with rfl | rfl | rfl <;> simp [arr3, pv]
theorem arr3_all (f : Nat → Nat) : arr3 f 3 = #[.pointer (some ⟨f 0, 0, none⟩), .pointer (some ⟨f 1, 0, none⟩), .pointer (some ⟨f 2, 0, none⟩)] := by simp [arr3, pv]
/-- When the first i sets are made. -/
structure Mk (w : World) (rf : Nat → Int) (bx bt bm i : Nat) (bf mf : Nat → Nat) (vf uf : Nat → Value) (W : World) : Prop where
  bx : Blk W bx #[.int .i64 (rf 0), .int .i64 (rf 1), .int .i64 (rf 2)] 70
  bt : Blk W bt (arr3 bf i) 73
  bm : Blk W bm (arr3 mf i) 75
  each : ∀ k, k < i → ∃ n : Nat, PB (bf k) (mf k) (vf k) (uf k) (List.replicate n false) W
  low : ∀ k, k < i → ∀ g, g ∈ rows2 (vf k) (uf k) → w.heap.size ≤ g
  sep : ∀ j k, j < i → k < i → j ≠ k → ∀ g, g ∈ rows2 (vf j) (uf j) → g ∉ rows2 (vf k) (uf k)
  fr : Fr [] w W
theorem cellR {W : World} {b : Nat} {rf : Nat → Int} (h : Blk W b #[.int .i64 (rf 0), .int .i64 (rf 1), .int .i64 (rf 2)] 70) {i : Nat} (hi : i < 3) : W.cell? ⟨b, i, none⟩ = some (.int .i64 (rf i)) := by
  have : i = 0 ∨ i = 1 ∨ i = 2 := by omega
  rcases this with rfl | rfl | rfl
  · exact h.at 0 rfl
  · exact h.at 1 rfl
  · exact h.at 2 rfl
/-- One set more. -/
theorem Mk.next {w W W2 W4 W5 W6 : World} {rf : Nat → Int} {bx bt bm i n b m : Nat} {v u : Value} {bf mf : Nat → Nat} {vf uf : Nat → Value} {ws : List Nat} (h : Mk w rf bx bt bm i bf mf vf uf W) (hi : i < 3) (hbt : w.heap.size ≤ bt) (hbm : w.heap.size ≤ bm)
    (f2 : Fr [] W W2) (hs : BitsAt W2 b v (List.replicate n false) ws) (hb : W.heap.size ≤ b) (hv : ∀ g, v.ownBlock = some g → W.heap.size ≤ g) (e4 : W4 = W2.setCell ⟨bt, i, none⟩ (.pointer (some ⟨b, 0, none⟩)))
    (f5 : Fr [] W4 W5) (hr : RefB W5 m u (List.replicate n false)) (hm : W4.heap.size ≤ m) (hu : ∀ g, u.ownBlock = some g → W4.heap.size ≤ g) (e6 : W6 = W5.setCell ⟨bm, i, none⟩ (.pointer (some ⟨m, 0, none⟩))) :
    Mk w rf bx bt bm (i + 1) (upd1 bf i b) (upd1 mf i m) (upd1 vf i v) (upd1 uf i u) W6 := by
  have f4 : Fr [bt] W2 W4 := by rw [e4]; exact (Fr.refl _ _).setCell _ _ (.inl (by simp))
  have f6 : Fr [bm] W5 W6 := by rw [e6]; exact (Fr.refl _ _).setCell _ _ (.inl (by simp))
  have bt2 := f2.blk h.bt (by simp)
  have bm2 := f2.blk h.bm (by simp)
  have bx2 := f2.blk h.bx (by simp)
  have hne : bm ≠ bt := fun e => by have := (bm2.inj (e ▸ bt2)).2; cases this
  have bt4 : Blk W4 bt (arr3 (upd1 bf i b) (i + 1)) 73 := by rw [e4, ← arr3_set bf b hi]; exact bt2.set i _
  have bm4 := f4.blk bm2 (by simpa using hne)
  have bx4 := f4.blk bx2 (fun hm => by simp at hm; subst hm; have := (bx2.inj bt2).2; cases this)
  have bt5 := f5.blk bt4 (by simp)
  have bm5 := f5.blk bm4 (by simp)
  have bx5 := f5.blk bx4 (by simp)
  have bm6 : Blk W6 bm (arr3 (upd1 mf i m) (i + 1)) 75 := by rw [e6, ← arr3_set mf m hi]; exact bm5.set i _
  have bt6 := f6.blk bt5 (by simp; exact fun e => hne e.symm)
  have bx6 := f6.blk bx5 (fun hm => by simp at hm; subst hm; have := (bx5.inj bm5).2; cases this)
  have hs2 := f2.size
  have hs4 := f4.size
  have hs5 := f5.size
  have hw := h.fr.size
  have hold : ∀ k, k < i → ∀ g, g ∈ rows2 (vf k) (uf k) → g < W.heap.size := fun k hk g hg => by
    obtain ⟨n, hp⟩ := h.each k hk
    obtain ⟨c, e, hc, _⟩ := hp.rowty g hg
    exact hc.lt
  have hnew : ∀ g, g ∈ rows2 v u → W.heap.size ≤ g := fun g hg => by
    rcases List.mem_append.1 hg with q | q
    · exact hv g (by simpa using q)
    · have := hu g (by simpa using q); omega
  have hsn : BitsAt W6 b v (List.replicate n false) ws := by
    have q4 := hs.fr f4 (fun hm => by simp at hm; subst hm; have := (hs.hd.inj bt2).2; cases this) (fun g hg hm => by simp at hm; subst hm; exact own_notin hs.own bt2 (by decide) (by simp [hg]))
    have q5 := q4.grow f5
    exact q5.fr f6 (fun hm => by simp at hm; subst hm; have := (q5.hd.inj bm5).2; cases this) (fun g hg hm => by simp at hm; subst hm; exact own_notin q5.own bm5 (by decide) (by simp [hg]))
  have hrn : RefB W6 m u (List.replicate n false) := hr.fr f6 (fun hm => by simp at hm; subst hm; have := (hr.hd.inj bm5).2; cases this) (fun g hg hm => by simp at hm; subst hm; exact own_notin hr.own bm5 (by decide) (by simp [hg]))
  refine ⟨bx6, bt6, bm6, fun k hk => ?_, fun k hk g hg => ?_, fun j k hj hk hjk g hg hg2 => ?_, (((h.fr.trans f2 (by simp)).trans f4 (by simp; exact hbt)).trans f5 (by simp)).trans f6 (by simp; exact hbm)⟩
  · by_cases hki : k = i
    · subst hki
      simp only [upd1, if_true]
      exact ⟨n, ⟨ws, hsn⟩, hrn⟩
    · simp only [upd1, if_neg hki]
      obtain ⟨n', hp⟩ := h.each k (by omega)
      refine ⟨n', ?_⟩
      have p2 := hp.grow f2
      have p4 : PB (bf k) (mf k) (vf k) (uf k) (List.replicate n' false) W4 := by
        obtain ⟨ws', q⟩ := p2.set
        exact p2.fr f4 (fun hm => by simp at hm; have := (q.hd.inj (hm ▸ bt2)).2; cases this) (fun hm => by simp at hm; have := (p2.ref.hd.inj (hm ▸ bt2)).2; cases this) (fun g hg hm => by simp at hm; subst hm; exact p2.off bt2 (by decide) (by decide) hg)
      have p5 := p4.grow f5
      obtain ⟨ws', q⟩ := p5.set
      exact p5.fr f6 (fun hm => by simp at hm; have := (q.hd.inj (hm ▸ bm5)).2; cases this) (fun hm => by simp at hm; have := (p5.ref.hd.inj (hm ▸ bm5)).2; cases this) (fun g hg hm => by simp at hm; subst hm; exact p5.off bm5 (by decide) (by decide) hg)
  · by_cases hki : k = i
    · subst hki
      simp only [upd1, if_true] at hg
      have := hnew g hg; omega
    · simp only [upd1, if_neg hki] at hg
      exact h.low k (by omega) g hg
  · by_cases hji : j = i
    · subst hji
      simp only [upd1, if_true, if_neg (Ne.symm hjk)] at hg hg2
      have := hnew g hg
      have := hold k (by omega) g hg2
      omega
    · by_cases hki : k = i
      · subst hki
        simp only [upd1, if_true, if_neg hjk] at hg hg2
        have := hnew g hg2
        have := hold j (by omega) g hg
        omega
      · simp only [upd1, if_neg hji, if_neg hki] at hg hg2
        exact h.sep j k (by omega) (by omega) hjk g hg hg2
set_option maxRecDepth 100000 in
set_option maxHeartbeats 8000000 in
theorem bits_walk (w : World) (rf : Nat → Int) (sl : Value) (l : List Btt) (hT : DeB w) (hs : RdBt w sl l) (hl : l.length ≤ 4611686018427387904) : Calls Tryd.prog 5 #[.agg #[.int .i64 (rf 0), .int .i64 (rf 1), .int .i64 (rf 2)], sl] w fun e w' => e = .returned (.bool true) ∧ Fr [] w w' := by
  obtain ⟨sp, sc, rfl, hsl⟩ := hs
  obtain ⟨n, hn⟩ : ∃ n, n = l.length := ⟨_, rfl⟩
  rw [← hn] at hl hsl ⊢
  have HS := Lib.hid (And.intro hn hsl)
  have HT := Lib.hid hT
  clear hn hsl hT
  have F : Fr [] w (((w.alloc (.cells #[.int .i64 (rf 0), .int .i64 (rf 1), .int .i64 (rf 2)] 70)).alloc (.cells #[.pointer none, .pointer none, .pointer none] 73)).alloc (.cells #[.pointer none, .pointer none, .pointer none] 75)) := (((Fr.refl [] w).alloc _).alloc _).alloc _
  have kb := ((Blk.new w #[.int .i64 (rf 0), .int .i64 (rf 1), .int .i64 (rf 2)] 70).alloc (.cells #[.pointer none, .pointer none, .pointer none] 73)).alloc (.cells #[.pointer none, .pointer none, .pointer none] 75)
  have kt := (Blk.new_at (w := w.alloc (.cells #[.int .i64 (rf 0), .int .i64 (rf 1), .int .i64 (rf 2)] 70)) (k := w.heap.size + 1) (by simp) #[.pointer none, .pointer none, .pointer none] 73).alloc (.cells #[.pointer none, .pointer none, .pointer none] 75)
  have km := Blk.new_at (w := (w.alloc (.cells #[.int .i64 (rf 0), .int .i64 (rf 1), .int .i64 (rf 2)] 70)).alloc (.cells #[.pointer none, .pointer none, .pointer none] 73)) (k := w.heap.size + 1 + 1) (by simp) #[.pointer none, .pointer none, .pointer none] 75
  have HF := Lib.hid (And.intro F (And.intro kb (And.intro kt km)))
  clear F kb kt km
  go_enter Tryd.func5, Tryd.ntmps5
  go_wp2_with fail
  obtain ⟨F, kb, kt, km⟩ := HF.out
  obtain ⟨w3, hw3⟩ : ∃ w3, w3 = ((w.alloc (.cells #[.int .i64 (rf 0), .int .i64 (rf 1), .int .i64 (rf 2)] 70)).alloc (.cells #[.pointer none, .pointer none, .pointer none] 73)).alloc (.cells #[.pointer none, .pointer none, .pointer none] 75) := ⟨_, rfl⟩
  rw [← hw3] at F kb kt km ⊢
  clear hw3 HF
  obtain ⟨bx, hbx⟩ : ∃ b, b = w.heap.size := ⟨_, rfl⟩
  obtain ⟨bt, hbt⟩ : ∃ b, b = w.heap.size + 1 := ⟨_, rfl⟩
  obtain ⟨bm, hbm⟩ : ∃ b, b = w.heap.size + 1 + 1 := ⟨_, rfl⟩
  have HB := Lib.hid (show w.heap.size ≤ bt ∧ w.heap.size ≤ bm from ⟨by omega, by omega⟩)
  rw [← hbm] at km ⊢
  rw [← hbt] at kt ⊢
  rw [← hbx] at kb ⊢
  have hMk : Mk w rf bx bt bm 0 (fun _ => 0) (fun _ => 0) (fun _ => undef) (fun _ => undef) w3 := ⟨kb, kt, km, fun k hk => by omega, fun k hk => by omega, fun j k hj => by omega, F⟩
  have HMk := Lib.hid hMk
  clear F kb kt km hbx hbt hbm hMk
  go_loopw [7] (fun iv wr => ∃ i : Nat, iv = .int .i64 i ∧ i ≤ 3 ∧ ∃ bf mf vf uf, Mk w rf bx bt bm i bf mf vf uf wr) (fun iv _ => 3 - (intOf iv).toNat)
  case atStart => exact ⟨0, rfl, by omega, _, _, _, _, HMk.out⟩
  case round =>
    obtain ⟨i, rfl, hi, bf, mf, vf, uf, hM⟩ := hrel
    obtain ⟨wi, hwi⟩ : ∃ wi : World, wi = wr := ⟨_, rfl⟩
    rw [← hwi] at hM ⊢
    clear hwi wr
    have HMi := Lib.hid hM
    clear hM
    by_cases hin : i < 3
    · have cr := cellR HMi.out.bx hin
      obtain ⟨r, hr⟩ : ∃ r, r = rf i := ⟨_, rfl⟩
      rw [← hr] at cr
      have g0 : (0 : Int) ≤ (i : Int) := by omega
      have g1 : (i : Int) < 3 := by omega
      have HR := Lib.hid hr
      clear hr
      by_cases hf : 0 ≤ r ∧ r ≤ 65536
      · obtain ⟨nr, rfl⟩ : ∃ nr : Nat, r = nr := ⟨r.toNat, by omega⟩
        have hnr : nr ≤ 65536 := by omega
        have hd : decide ((0 : Int) ≤ (nr : Int) ∧ (nr : Int) ≤ 65536) = true := decide_eq_true hf
        have HD := Lib.hid (And.intro hd hnr)
        clear hf hd hnr
        go_wp2_with fail
        (with_reducible refine (newB_ok wi nr HD.out.2).mono ?_)
        rintro e w2 ⟨b, v, ws, rfl, hs2, hb2, hv2, f2⟩
        have cr2 := (f2.cell (World.block_lt_of_cell? wi _ cr) (by simp)).trans cr
        have HA := Lib.hid (And.intro f2 (And.intro hs2 (And.intro hb2 hv2)))
        clear f2 hs2 hb2 hv2 cr
        go_wp2_with fail
        (with_reducible refine (fits_any w2 nr).mono ?_)
        rintro e wx ⟨rfl, rfl⟩
        rw [HD.out.1]
        have tc := (HA.out.1.blk HMi.out.bt (by simp)).at i (arr3_at bf hin)
        have tf := (HA.out.1.blk HMi.out.bt (by simp)).free i
        go_upto_region 12 with fail
        obtain ⟨w4, hw4⟩ : ∃ w4, w4 = w2.setCell ⟨bt, i, none⟩ (.pointer (some ⟨b, 0, none⟩)) := ⟨_, rfl⟩
        have hbtx : bx ≠ bt := fun e => by have := (HMi.out.bx.inj (e ▸ HMi.out.bt)).2; cases this
        have hbtm : bm ≠ bt := fun e => by have := (HMi.out.bm.inj (e ▸ HMi.out.bt)).2; cases this
        have cr4 : w4.cell? ⟨bx, i, none⟩ = some (.int .i64 nr) := by
          rw [hw4]
          exact (World.cell?_setCell_other _ _ _ _ (fun e => hbtx (congrArg Addr.block e).symm)).trans cr2
        have bm4 : Blk w4 bm (arr3 mf i) 75 := by rw [hw4]; exact (HA.out.1.blk HMi.out.bm (by simp)).other _ _ hbtm
        rw [← hw4]
        have HW4 := Lib.hid (And.intro hw4 bm4)
        clear hw4 bm4 tc tf cr2 hbtx hbtm
        go_wp2_with fail
        (with_reducible refine (newR_any w4 nr HD.out.2).mono ?_)
        rintro e w5 ⟨m, u, rfl, hr5, hm5, hu5, f5⟩
        have mc := (f5.blk HW4.out.2 (by simp)).at i (arr3_at mf hin)
        have mf' := (f5.blk HW4.out.2 (by simp)).free i
        have HC := Lib.hid (And.intro f5 (And.intro hr5 (And.intro hm5 hu5)))
        clear f5 hr5 hm5 hu5 cr4
        go_wp2_with fail
        refine ⟨⟨i + 1, by go_num, by omega, _, _, _, _, Mk.next HMi.out hin HB.out.1 HB.out.2 HA.out.1 HA.out.2.1 HA.out.2.2.1 HA.out.2.2.2 HW4.out.1 HC.out.1 HC.out.2.1 HC.out.2.2.1 HC.out.2.2.2 rfl⟩, by simp [intOf]; omega⟩
      · have hnn : r < 0 ∨ 65536 < r := by omega
        have hd : decide (0 ≤ r ∧ r ≤ 65536) = false := decide_eq_false hf
        have HD := Lib.hid (And.intro hd hnn)
        clear hf hd hnn
        go_wp2_with fail
        (with_reducible refine (newB_no wi r HD.out.2).mono ?_)
        rintro e w2 ⟨rfl, f2⟩
        have cr2 := (f2.cell (World.block_lt_of_cell? wi _ cr) (by simp)).trans cr
        have HF2 := Lib.hid (HMi.out.fr.trans f2 (by simp))
        clear f2 cr
        go_wp2_with fail
        (with_reducible refine (fits_any w2 r).mono ?_)
        rintro e wx ⟨rfl, rfl⟩
        rw [HD.out.1]
        go_wp2_with fail
        (with_reducible refine (lives_any w2 (deB_fr2 HT.out HF2.out)).mono ?_)
        rintro e wx ⟨rfl, f3⟩
        have HF3 := Lib.hid (HF2.out.trans f3 (by simp))
        clear f3
        go_wp2_with fail
        all_goals (refine bodyPost_ret (v := .bool true) (by simp [results, Tryd.results5, go_sem]) rfl ⟨rfl, HF3.out⟩)
    · obtain rfl : i = 3 := by omega
      have bt3 := HMi.out.bt
      have bm3 := HMi.out.bm
      rw [arr3_all] at bt3 bm3
      have ex : ∃ Bf : Nat → List Bool, ∀ k, k < 3 → PB (bf k) (mf k) (vf k) (uf k) (Bf k) wi ∧ ∃ n : Nat, Bf k = List.replicate n false := by
        obtain ⟨n0, p0⟩ := HMi.out.each 0 (by decide)
        obtain ⟨n1, p1⟩ := HMi.out.each 1 (by decide)
        obtain ⟨n2, p2⟩ := HMi.out.each 2 (by decide)
        refine ⟨fun k => if k = 0 then List.replicate n0 false else if k = 1 then List.replicate n1 false else List.replicate n2 false, fun k hk => ?_⟩
        have : k = 0 ∨ k = 1 ∨ k = 2 := by omega
        rcases this with rfl | rfl | rfl
        · exact ⟨p0, n0, rfl⟩
        · exact ⟨p1, n1, rfl⟩
        · exact ⟨p2, n2, rfl⟩
      obtain ⟨Bf, hBf⟩ := ex
      have hTB : TB w bf mf vf uf Bf wi := ⟨fun k hk => (hBf k hk).1, HMi.out.low, HMi.out.sep, HMi.out.fr⟩
      obtain ⟨n0, hn0⟩ := (hBf 0 (by decide)).2
      obtain ⟨ws0, hb0⟩ := (hTB.each 0 (by decide)).set
      have a0 := bt3.at 0 (v := .pointer (some ⟨bf 0, 0, none⟩)) rfl
      have HA := Lib.hid (And.intro hTB (And.intro bt3 (And.intro bm3 (And.intro hb0 hn0))))
      clear hTB bt3 bm3 hb0 hn0 hBf
      go_wp2_with fail
      (with_reducible refine (allB_any wi (bf 0) (vf 0) (Bf 0) ws0 HA.out.2.2.2.1).mono ?_)
      rintro e w2 ⟨k, b2, v2, rfl, q1, q2, q3, q4, q5, f2⟩
      have hhalf := half_new HA.out.1 HT.out f2 q1 q2 q3 q4 q5 (Fr.refl [] w2) (vw := .slice none 0 0) (by rw [HA.out.2.2.2.2, onesI_none]; exact World.ownsRow_nil _ _ _ _)
      have HL := Lib.hid (show LB w bt bm bf mf vf uf (.func (.func 78) #[] #[.pointer (some ⟨k, 0, none⟩)]) (.slice none 0 0) w2 from ⟨⟨_, HA.out.1.grow f2⟩, hhalf, f2.blk HA.out.2.1 (by simp), f2.blk HA.out.2.2.1 (by simp)⟩)
      clear q1 q2 q3 q4 q5 f2 hhalf a0
      go_wp2_with fail
      go_loopw [10, 11, 12] (fun hv vw iv wr => ∃ i : Nat, iv = .int .i64 i ∧ i ≤ n ∧ LB w bt bm bf mf vf uf hv vw wr) (fun _ _ iv _ => n - (intOf iv).toNat)
      case atStart => exact ⟨0, rfl, Nat.zero_le _, HL.out⟩
      case round =>
        obtain ⟨i, rfl, hi, hL⟩ := hrel
        obtain ⟨wi2, hwi⟩ : ∃ wi2 : World, wi2 = wr := ⟨_, rfl⟩
        rw [← hwi] at hL ⊢
        clear hwi wr
        obtain ⟨hv, hhv⟩ : ∃ x, x = u10 := ⟨_, rfl⟩
        obtain ⟨vw, hvw⟩ : ∃ x, x = u11 := ⟨_, rfl⟩
        rw [← hhv, ← hvw] at hL ⊢
        clear hhv hvw
        have HLi := Lib.hid hL
        clear hL HL HA
        by_cases hin : i < n
        · have hlt : i < l.length := by rw [← HS.out.1]; exact hin
          obtain ⟨x, hx⟩ : ∃ x, l[i]? = some x := ⟨_, List.getElem?_eq_getElem hlt⟩
          obtain ⟨g, o, rfl, hc⟩ := HS.out.2.resolve_left (by omega)
          have HX := Lib.hid (hc i x hx)
          obtain ⟨d, onn, win, ii⟩ := x
          dsimp only at HX
          obtain ⟨a, ha, a3⟩ := mod3 onn
          obtain ⟨c, hcc, c3⟩ := mod3 win
          have HAC := Lib.hid (And.intro ha hcc)
          have fr0 : Fr [] w wi2 := by obtain ⟨_, q⟩ := HLi.out.ex; exact q.fr
          have s1 := (fr0.cell (World.block_lt_of_cell? w _ HX.out.2.1) (by simp)).trans HX.out.2.1
          have s2 := (fr0.cell (World.block_lt_of_cell? w _ HX.out.2.2.1) (by simp)).trans HX.out.2.2.1
          have g0 : (0 : Int) ≤ (i : Int) := by omega
          have g1 : (i : Int) < (n : Int) := by omega
          have HFR := Lib.hid fr0
          clear hx hlt hc ha hcc fr0
          by_cases hh : i = n / 2
          · have hd1 : (n : Int) / 2 = (i : Int) := by omega
            have hd2 : wrap64 ((n : Int) / 2) = (i : Int) := by rw [w64 (by omega)]; omega
            have a0 := HLi.out.bt.at 0 (v := .pointer (some ⟨bf 0, 0, none⟩)) rfl
            obtain ⟨Bf2, hTB2⟩ := HLi.out.ex
            obtain ⟨ws2, hb2⟩ := (hTB2.each 0 (by decide)).set
            have HB2 := Lib.hid (And.intro hTB2 hb2)
            clear hh hTB2 hb2 s1 s2
            go_wp2_with fail
            (with_reducible refine (allB_any wi2 (bf 0) (vf 0) (Bf2 0) ws2 HB2.out.2).mono ?_)
            rintro e w4 ⟨k4, b4, v4, rfl, q1, q2, q3, q4, q5, f4⟩
            have c0 := (f4.blk HLi.out.bm (by simp)).at 0 (v := .pointer (some ⟨mf 0, 0, none⟩)) rfl
            have HQ := Lib.hid (And.intro q1 (And.intro q2 (And.intro q3 (And.intro q4 (And.intro q5 f4)))))
            clear q1 q2 q3 q4 q5 f4 a0
            go_wp2_with fail
            (with_reducible refine (rall_any w4 (mf 0) (uf 0) (Bf2 0) ((HB2.out.1.each 0 (by decide)).ref.grow HQ.out.2.2.2.2.2)).mono ?_)
            rintro e w5 ⟨vp, rfl, ho, -, f5⟩
            have hhalf := half_new HB2.out.1 HT.out HQ.out.2.2.2.2.2 HQ.out.1 HQ.out.2.1 HQ.out.2.2.1 HQ.out.2.2.2.1 HQ.out.2.2.2.2.1 f5 ho
            have f25 := HQ.out.2.2.2.2.2.trans f5 (by simp)
            have HM := Lib.hid (show LB w bt bm bf mf vf uf _ vp w5 from ⟨⟨_, HB2.out.1.grow f25⟩, hhalf, f25.blk HLi.out.bt (by simp), f25.blk HLi.out.bm (by simp)⟩)
            have s1 := ((HFR.out.trans f25 (by simp)).cell (World.block_lt_of_cell? w _ HX.out.2.1) (by simp)).trans HX.out.2.1
            have s2 := ((HFR.out.trans f25 (by simp)).cell (World.block_lt_of_cell? w _ HX.out.2.2.1) (by simp)).trans HX.out.2.2.1
            clear ho f5 hhalf f25 c0 hd1 hd2
            go_wp2_with fail
            (with_reducible refine (three_any w5 onn).mono ?_)
            rintro e wx ⟨rfl, rfl⟩
            rw [HAC.out.1]
            go_wp2_with fail
            (with_reducible refine (three_any w5 win).mono ?_)
            rintro e wx ⟨rfl, rfl⟩
            rw [HAC.out.2]
            clear s1 s2
            go_wp2_with fail
            refine region_tail (by kernel_rfl) (by kernel_rfl) [[], [0], [0, 1], [], [3], [3, 4], [], [6], [6, 7], [], [9], [9, 10], [], [], [12, 13], [12, 13, 14], [0, 1, 2, 3, 4, 5, 6, 7, 8, 9, 10, 11, 12, 13, 14, 15], [0, 1, 2, 3, 4, 5, 6, 7, 8, 9, 10, 11, 12, 13, 14, 15, 16]] (by kernel_rfl) 16 (by decide) (by kernel_rfl) [.is (.int .i64 a), .is (.pointer (some ⟨bt, a, none⟩)), .is (.pointer (some ⟨bf a, 0, none⟩)), .is (.int .i64 c), .is (.pointer (some ⟨bt, c, none⟩)), .is (.pointer (some ⟨bf c, 0, none⟩)), .is (.int .i64 a), .is (.pointer (some ⟨bm, a, none⟩)), .is (.pointer (some ⟨mf a, 0, none⟩)), .is (.int .i64 c), .is (.pointer (some ⟨bm, c, none⟩)), .is (.pointer (some ⟨mf c, 0, none⟩)), .is (.slice (some ⟨g, o, none⟩) n sc), .is (.int .i64 i), .is (.pointer (some ⟨g, o + i * 4, none⟩)), .is (Btt.val' (Btt.mk d onn win ii))] 192 rfl (by kernel_rfl) ?_ ?_
            · intro q a1 W1 i hi hnq hd hG K hK
              have hlt : i < 16 := hi
              have hc : i = 0 ∨ i = 1 ∨ i = 2 ∨ i = 3 ∨ i = 4 ∨ i = 5 ∨ i = 6 ∨ i = 7 ∨ i = 8 ∨ i = 9 ∨ i = 10 ∨ i = 11 ∨ i = 12 ∨ i = 13 ∨ i = 14 ∨ i = 15 := by omega
              rcases hc with rfl | rfl | rfl | rfl | rfl | rfl | rfl | rfl | rfl | rfl | rfl | rfl | rfl | rfl | rfl | rfl
              · have e13 := hG.old 13 (by kernel_rfl)
                refine op_do rfl (wanted_none rfl) hK (fun K' hK' => ?_)
                unfold Oper.wp
                go_simp
                exact hK' _ _ (Fr.refl _ _) rfl
              · have e5 := hG.old 5 (by kernel_rfl)
                have e90 := hG.val (v := .int .i64 a) 0 90 (hd _ rfl ⟨0, .data⟩ (by simp) rfl) rfl rfl
                have g0 : (0 : Int) ≤ (a : Int) := by omega
                have g1 : (a : Int) < 3 := by omega
                refine op_do rfl (wanted_none rfl) hK (fun K' hK' => ?_)
                unfold Oper.wp
                go_simp
                exact hK' _ _ (Fr.refl _ _) rfl
              · have e91 := hG.val (v := .pointer (some ⟨bt, a, none⟩)) 1 91 (hd _ rfl ⟨1, .data⟩ (by simp) rfl) rfl rfl
                have z0 := (hG.grown.cell (a := ⟨bt, a, none⟩) HM.out.bt.lt (by simp)).trans (cell3 HM.out.bt a3)
                refine op_do rfl (wanted_none rfl) hK (fun K' hK' => ?_)
                unfold Oper.wp
                go_simp
                exact hK' _ _ (Fr.refl _ _) rfl
              · have e14 := hG.old 14 (by kernel_rfl)
                refine op_do rfl (wanted_none rfl) hK (fun K' hK' => ?_)
                unfold Oper.wp
                go_simp
                exact hK' _ _ (Fr.refl _ _) rfl
              · have e5 := hG.old 5 (by kernel_rfl)
                have e93 := hG.val (v := .int .i64 c) 3 93 (hd _ rfl ⟨3, .data⟩ (by simp) rfl) rfl rfl
                have g0 : (0 : Int) ≤ (c : Int) := by omega
                have g1 : (c : Int) < 3 := by omega
                refine op_do rfl (wanted_none rfl) hK (fun K' hK' => ?_)
                unfold Oper.wp
                go_simp
                exact hK' _ _ (Fr.refl _ _) rfl
              · have e94 := hG.val (v := .pointer (some ⟨bt, c, none⟩)) 4 94 (hd _ rfl ⟨4, .data⟩ (by simp) rfl) rfl rfl
                have z0 := (hG.grown.cell (a := ⟨bt, c, none⟩) HM.out.bt.lt (by simp)).trans (cell3 HM.out.bt c3)
                refine op_do rfl (wanted_none rfl) hK (fun K' hK' => ?_)
                unfold Oper.wp
                go_simp
                exact hK' _ _ (Fr.refl _ _) rfl
              · have e13 := hG.old 13 (by kernel_rfl)
                refine op_do rfl (wanted_none rfl) hK (fun K' hK' => ?_)
                unfold Oper.wp
                go_simp
                exact hK' _ _ (Fr.refl _ _) rfl
              · have e6 := hG.old 6 (by kernel_rfl)
                have e96 := hG.val (v := .int .i64 a) 6 96 (hd _ rfl ⟨6, .data⟩ (by simp) rfl) rfl rfl
                have g0 : (0 : Int) ≤ (a : Int) := by omega
                have g1 : (a : Int) < 3 := by omega
                refine op_do rfl (wanted_none rfl) hK (fun K' hK' => ?_)
                unfold Oper.wp
                go_simp
                exact hK' _ _ (Fr.refl _ _) rfl
              · have e97 := hG.val (v := .pointer (some ⟨bm, a, none⟩)) 7 97 (hd _ rfl ⟨7, .data⟩ (by simp) rfl) rfl rfl
                have z0 := (hG.grown.cell (a := ⟨bm, a, none⟩) HM.out.bm.lt (by simp)).trans (cell3 HM.out.bm a3)
                refine op_do rfl (wanted_none rfl) hK (fun K' hK' => ?_)
                unfold Oper.wp
                go_simp
                exact hK' _ _ (Fr.refl _ _) rfl
              · have e14 := hG.old 14 (by kernel_rfl)
                refine op_do rfl (wanted_none rfl) hK (fun K' hK' => ?_)
                unfold Oper.wp
                go_simp
                exact hK' _ _ (Fr.refl _ _) rfl
              · have e6 := hG.old 6 (by kernel_rfl)
                have e99 := hG.val (v := .int .i64 c) 9 99 (hd _ rfl ⟨9, .data⟩ (by simp) rfl) rfl rfl
                have g0 : (0 : Int) ≤ (c : Int) := by omega
                have g1 : (c : Int) < 3 := by omega
                refine op_do rfl (wanted_none rfl) hK (fun K' hK' => ?_)
                unfold Oper.wp
                go_simp
                exact hK' _ _ (Fr.refl _ _) rfl
              · have e100 := hG.val (v := .pointer (some ⟨bm, c, none⟩)) 10 100 (hd _ rfl ⟨10, .data⟩ (by simp) rfl) rfl rfl
                have z0 := (hG.grown.cell (a := ⟨bm, c, none⟩) HM.out.bm.lt (by simp)).trans (cell3 HM.out.bm c3)
                refine op_do rfl (wanted_none rfl) hK (fun K' hK' => ?_)
                unfold Oper.wp
                go_simp
                exact hK' _ _ (Fr.refl _ _) rfl
              · have e1 := hG.old 1 (by kernel_rfl)
                refine op_do rfl (wanted_none rfl) hK (fun K' hK' => ?_)
                unfold Oper.wp
                go_simp
                exact hK' _ _ (Fr.refl _ _) rfl
              · have e12 := hG.old 12 (by kernel_rfl)
                refine op_do rfl (wanted_none rfl) hK (fun K' hK' => ?_)
                unfold Oper.wp
                go_simp
                exact hK' _ _ (Fr.refl _ _) rfl
              · have e102 := hG.val (v := .slice (some ⟨g, o, none⟩) n sc) 12 102 (hd _ rfl ⟨12, .data⟩ (by simp) rfl) rfl rfl
                have e103 := hG.val (v := .int .i64 i) 13 103 (hd _ rfl ⟨13, .data⟩ (by simp) rfl) rfl rfl
                have g0 : (0 : Int) ≤ (i : Int) := by omega
                have g1 : (i : Int) < (n : Int) := by omega
                refine op_do rfl (wanted_none rfl) hK (fun K' hK' => ?_)
                unfold Oper.wp
                go_simp
                exact hK' _ _ (Fr.refl _ _) rfl
              · have e104 := hG.val (v := .pointer (some ⟨g, o + i * 4, none⟩)) 14 104 (hd _ rfl ⟨14, .data⟩ (by simp) rfl) rfl rfl
                obtain ⟨_, hTB⟩ := HM.out.ex
                obtain ⟨y0, y1, y2, y3⟩ := HX.out
                have z0 := ((hTB.fr.trans hG.grown (by simp)).cell (World.block_lt_of_cell? w _ y0) (by simp)).trans y0
                have z1 := ((hTB.fr.trans hG.grown (by simp)).cell (World.block_lt_of_cell? w _ y1) (by simp)).trans y1
                have z2 := ((hTB.fr.trans hG.grown (by simp)).cell (World.block_lt_of_cell? w _ y2) (by simp)).trans y2
                have z3 := ((hTB.fr.trans hG.grown (by simp)).cell (World.block_lt_of_cell? w _ y3) (by simp)).trans y3
                clear y0 y1 y2 y3 hTB
                refine op_do rfl (wanted_none rfl) hK (fun K' hK' => ?_)
                unfold Oper.wp
                go_simp
                exact hK' _ _ (Fr.refl _ _) rfl
            · intro q a1 W1 hq hG
              have f1 := hG.grown
              obtain ⟨vs, hv, rfl⟩ := hG.front 192 rfl (by kernel_rfl) (by decide) hq [(0, 90), (1, 91), (2, 92), (3, 93), (4, 94), (5, 95), (6, 96), (7, 97), (8, 98), (9, 99), (10, 100), (11, 101), (12, 102), (13, 103), (14, 104), (15, 105)] (by kernel_rfl)
              clear hG hq
              have r0 : vs 0 = .int .i64 a := hv 0 90 (by decide) rfl
              have r1 : vs 1 = .pointer (some ⟨bt, a, none⟩) := hv 1 91 (by decide) rfl
              have r2 : vs 2 = .pointer (some ⟨bf a, 0, none⟩) := hv 2 92 (by decide) rfl
              have r3 : vs 3 = .int .i64 c := hv 3 93 (by decide) rfl
              have r4 : vs 4 = .pointer (some ⟨bt, c, none⟩) := hv 4 94 (by decide) rfl
              have r5 : vs 5 = .pointer (some ⟨bf c, 0, none⟩) := hv 5 95 (by decide) rfl
              have r6 : vs 6 = .int .i64 a := hv 6 96 (by decide) rfl
              have r7 : vs 7 = .pointer (some ⟨bm, a, none⟩) := hv 7 97 (by decide) rfl
              have r8 : vs 8 = .pointer (some ⟨mf a, 0, none⟩) := hv 8 98 (by decide) rfl
              have r9 : vs 9 = .int .i64 c := hv 9 99 (by decide) rfl
              have r10 : vs 10 = .pointer (some ⟨bm, c, none⟩) := hv 10 100 (by decide) rfl
              have r11 : vs 11 = .pointer (some ⟨mf c, 0, none⟩) := hv 11 101 (by decide) rfl
              have r12 : vs 12 = .slice (some ⟨g, o, none⟩) n sc := hv 12 102 (by decide) rfl
              have r13 : vs 13 = .int .i64 i := hv 13 103 (by decide) rfl
              have r14 : vs 14 = .pointer (some ⟨g, o + i * 4, none⟩) := hv 14 104 (by decide) rfl
              have r15 : vs 15 = Btt.val' (Btt.mk d onn win ii) := hv 15 105 (by decide) rfl
              simp only [List.drop_succ_cons, List.drop_zero, lay, List.foldl_cons, List.foldl_nil, r0, r1, r2, r3, r4, r5, r6, r7, r8, r9, r10, r11, r12, r13, r14, r15]
              simp only [List.setIfInBounds_toArray, List.set_cons_zero, List.set_cons_succ]
              clear hv r0 r1 r2 r3 r4 r5 r6 r7 r8 r9 r10 r11 r12 r13 r14 r15
              clear vs
              have F1 := Lib.hid f1
              clear f1
              go_wp2_with fail
              obtain ⟨Bf, hTB⟩ := HM.out.ex
              (with_reducible refine (tb_bit (hTB.grow F1.out) (HM.out.half.grow F1.out) HT.out a3 c3 (Btt.mk d onn win ii)).mono ?_)
              rintro e W2 ⟨rfl, htb, hhf, hk⟩
              have HE := Lib.hid (And.intro htb (And.intro hhf hk))
              clear htb hhf hk hTB
              go_wp2_with fail
              refine ⟨⟨i + 1, by go_num, by omega, ⟨⟨_, HE.out.1⟩, HE.out.2.1, HE.out.2.2 _ _ _ (by decide) (F1.out.blk HM.out.bt (by simp)), HE.out.2.2 _ _ _ (by decide) (F1.out.blk HM.out.bm (by simp))⟩⟩, by simp [intOf]; omega⟩
          · obtain ⟨q, hq⟩ : ∃ q, q = n / 2 := ⟨_, rfl⟩
            have hd1 : (n : Int) / 2 = (q : Int) := by omega
            have hd2 : wrap64 ((n : Int) / 2) = (q : Int) := by rw [w64 (by omega)]; omega
            have hne : ¬ (i : Int) = (q : Int) := by omega
            clear hh hq
            go_wp2_with fail
            have HM := HLi
            (with_reducible refine (three_any wi2 onn).mono ?_)
            rintro e wx ⟨rfl, rfl⟩
            rw [HAC.out.1]
            go_wp2_with fail
            (with_reducible refine (three_any wi2 win).mono ?_)
            rintro e wx ⟨rfl, rfl⟩
            rw [HAC.out.2]
            clear s1 s2 hd1 hd2 hne
            go_wp2_with fail
            refine region_tail (by kernel_rfl) (by kernel_rfl) [[], [0], [0, 1], [], [3], [3, 4], [], [6], [6, 7], [], [9], [9, 10], [], [], [12, 13], [12, 13, 14], [0, 1, 2, 3, 4, 5, 6, 7, 8, 9, 10, 11, 12, 13, 14, 15], [0, 1, 2, 3, 4, 5, 6, 7, 8, 9, 10, 11, 12, 13, 14, 15, 16]] (by kernel_rfl) 16 (by decide) (by kernel_rfl) [.is (.int .i64 a), .is (.pointer (some ⟨bt, a, none⟩)), .is (.pointer (some ⟨bf a, 0, none⟩)), .is (.int .i64 c), .is (.pointer (some ⟨bt, c, none⟩)), .is (.pointer (some ⟨bf c, 0, none⟩)), .is (.int .i64 a), .is (.pointer (some ⟨bm, a, none⟩)), .is (.pointer (some ⟨mf a, 0, none⟩)), .is (.int .i64 c), .is (.pointer (some ⟨bm, c, none⟩)), .is (.pointer (some ⟨mf c, 0, none⟩)), .is (.slice (some ⟨g, o, none⟩) n sc), .is (.int .i64 i), .is (.pointer (some ⟨g, o + i * 4, none⟩)), .is (Btt.val' (Btt.mk d onn win ii))] 192 rfl (by kernel_rfl) ?_ ?_
            · intro q a1 W1 i hi hnq hd hG K hK
              have hlt : i < 16 := hi
              have hc : i = 0 ∨ i = 1 ∨ i = 2 ∨ i = 3 ∨ i = 4 ∨ i = 5 ∨ i = 6 ∨ i = 7 ∨ i = 8 ∨ i = 9 ∨ i = 10 ∨ i = 11 ∨ i = 12 ∨ i = 13 ∨ i = 14 ∨ i = 15 := by omega
              rcases hc with rfl | rfl | rfl | rfl | rfl | rfl | rfl | rfl | rfl | rfl | rfl | rfl | rfl | rfl | rfl | rfl
              · have e13 := hG.old 13 (by kernel_rfl)
                refine op_do rfl (wanted_none rfl) hK (fun K' hK' => ?_)
                unfold Oper.wp
                go_simp
                exact hK' _ _ (Fr.refl _ _) rfl
              · have e5 := hG.old 5 (by kernel_rfl)
                have e90 := hG.val (v := .int .i64 a) 0 90 (hd _ rfl ⟨0, .data⟩ (by simp) rfl) rfl rfl
                have g0 : (0 : Int) ≤ (a : Int) := by omega
                have g1 : (a : Int) < 3 := by omega
                refine op_do rfl (wanted_none rfl) hK (fun K' hK' => ?_)
                unfold Oper.wp
                go_simp
                exact hK' _ _ (Fr.refl _ _) rfl
              · have e91 := hG.val (v := .pointer (some ⟨bt, a, none⟩)) 1 91 (hd _ rfl ⟨1, .data⟩ (by simp) rfl) rfl rfl
                have z0 := (hG.grown.cell (a := ⟨bt, a, none⟩) HM.out.bt.lt (by simp)).trans (cell3 HM.out.bt a3)
                refine op_do rfl (wanted_none rfl) hK (fun K' hK' => ?_)
                unfold Oper.wp
                go_simp
                exact hK' _ _ (Fr.refl _ _) rfl
              · have e14 := hG.old 14 (by kernel_rfl)
                refine op_do rfl (wanted_none rfl) hK (fun K' hK' => ?_)
                unfold Oper.wp
                go_simp
                exact hK' _ _ (Fr.refl _ _) rfl
              · have e5 := hG.old 5 (by kernel_rfl)
                have e93 := hG.val (v := .int .i64 c) 3 93 (hd _ rfl ⟨3, .data⟩ (by simp) rfl) rfl rfl
                have g0 : (0 : Int) ≤ (c : Int) := by omega
                have g1 : (c : Int) < 3 := by omega
                refine op_do rfl (wanted_none rfl) hK (fun K' hK' => ?_)
                unfold Oper.wp
                go_simp
                exact hK' _ _ (Fr.refl _ _) rfl
              · have e94 := hG.val (v := .pointer (some ⟨bt, c, none⟩)) 4 94 (hd _ rfl ⟨4, .data⟩ (by simp) rfl) rfl rfl
                have z0 := (hG.grown.cell (a := ⟨bt, c, none⟩) HM.out.bt.lt (by simp)).trans (cell3 HM.out.bt c3)
                refine op_do rfl (wanted_none rfl) hK (fun K' hK' => ?_)
                unfold Oper.wp
                go_simp
                exact hK' _ _ (Fr.refl _ _) rfl
              · have e13 := hG.old 13 (by kernel_rfl)
                refine op_do rfl (wanted_none rfl) hK (fun K' hK' => ?_)
                unfold Oper.wp
                go_simp
                exact hK' _ _ (Fr.refl _ _) rfl
              · have e6 := hG.old 6 (by kernel_rfl)
                have e96 := hG.val (v := .int .i64 a) 6 96 (hd _ rfl ⟨6, .data⟩ (by simp) rfl) rfl rfl
                have g0 : (0 : Int) ≤ (a : Int) := by omega
                have g1 : (a : Int) < 3 := by omega
                refine op_do rfl (wanted_none rfl) hK (fun K' hK' => ?_)
                unfold Oper.wp
                go_simp
                exact hK' _ _ (Fr.refl _ _) rfl
              · have e97 := hG.val (v := .pointer (some ⟨bm, a, none⟩)) 7 97 (hd _ rfl ⟨7, .data⟩ (by simp) rfl) rfl rfl
                have z0 := (hG.grown.cell (a := ⟨bm, a, none⟩) HM.out.bm.lt (by simp)).trans (cell3 HM.out.bm a3)
                refine op_do rfl (wanted_none rfl) hK (fun K' hK' => ?_)
                unfold Oper.wp
                go_simp
                exact hK' _ _ (Fr.refl _ _) rfl
              · have e14 := hG.old 14 (by kernel_rfl)
                refine op_do rfl (wanted_none rfl) hK (fun K' hK' => ?_)
                unfold Oper.wp
                go_simp
                exact hK' _ _ (Fr.refl _ _) rfl
              · have e6 := hG.old 6 (by kernel_rfl)
                have e99 := hG.val (v := .int .i64 c) 9 99 (hd _ rfl ⟨9, .data⟩ (by simp) rfl) rfl rfl
                have g0 : (0 : Int) ≤ (c : Int) := by omega
                have g1 : (c : Int) < 3 := by omega
                refine op_do rfl (wanted_none rfl) hK (fun K' hK' => ?_)
                unfold Oper.wp
                go_simp
                exact hK' _ _ (Fr.refl _ _) rfl
              · have e100 := hG.val (v := .pointer (some ⟨bm, c, none⟩)) 10 100 (hd _ rfl ⟨10, .data⟩ (by simp) rfl) rfl rfl
                have z0 := (hG.grown.cell (a := ⟨bm, c, none⟩) HM.out.bm.lt (by simp)).trans (cell3 HM.out.bm c3)
                refine op_do rfl (wanted_none rfl) hK (fun K' hK' => ?_)
                unfold Oper.wp
                go_simp
                exact hK' _ _ (Fr.refl _ _) rfl
              · have e1 := hG.old 1 (by kernel_rfl)
                refine op_do rfl (wanted_none rfl) hK (fun K' hK' => ?_)
                unfold Oper.wp
                go_simp
                exact hK' _ _ (Fr.refl _ _) rfl
              · have e12 := hG.old 12 (by kernel_rfl)
                refine op_do rfl (wanted_none rfl) hK (fun K' hK' => ?_)
                unfold Oper.wp
                go_simp
                exact hK' _ _ (Fr.refl _ _) rfl
              · have e102 := hG.val (v := .slice (some ⟨g, o, none⟩) n sc) 12 102 (hd _ rfl ⟨12, .data⟩ (by simp) rfl) rfl rfl
                have e103 := hG.val (v := .int .i64 i) 13 103 (hd _ rfl ⟨13, .data⟩ (by simp) rfl) rfl rfl
                have g0 : (0 : Int) ≤ (i : Int) := by omega
                have g1 : (i : Int) < (n : Int) := by omega
                refine op_do rfl (wanted_none rfl) hK (fun K' hK' => ?_)
                unfold Oper.wp
                go_simp
                exact hK' _ _ (Fr.refl _ _) rfl
              · have e104 := hG.val (v := .pointer (some ⟨g, o + i * 4, none⟩)) 14 104 (hd _ rfl ⟨14, .data⟩ (by simp) rfl) rfl rfl
                obtain ⟨_, hTB⟩ := HM.out.ex
                obtain ⟨y0, y1, y2, y3⟩ := HX.out
                have z0 := ((hTB.fr.trans hG.grown (by simp)).cell (World.block_lt_of_cell? w _ y0) (by simp)).trans y0
                have z1 := ((hTB.fr.trans hG.grown (by simp)).cell (World.block_lt_of_cell? w _ y1) (by simp)).trans y1
                have z2 := ((hTB.fr.trans hG.grown (by simp)).cell (World.block_lt_of_cell? w _ y2) (by simp)).trans y2
                have z3 := ((hTB.fr.trans hG.grown (by simp)).cell (World.block_lt_of_cell? w _ y3) (by simp)).trans y3
                clear y0 y1 y2 y3 hTB
                refine op_do rfl (wanted_none rfl) hK (fun K' hK' => ?_)
                unfold Oper.wp
                go_simp
                exact hK' _ _ (Fr.refl _ _) rfl
            · intro q a1 W1 hq hG
              have f1 := hG.grown
              obtain ⟨vs, hv, rfl⟩ := hG.front 192 rfl (by kernel_rfl) (by decide) hq [(0, 90), (1, 91), (2, 92), (3, 93), (4, 94), (5, 95), (6, 96), (7, 97), (8, 98), (9, 99), (10, 100), (11, 101), (12, 102), (13, 103), (14, 104), (15, 105)] (by kernel_rfl)
              clear hG hq
              have r0 : vs 0 = .int .i64 a := hv 0 90 (by decide) rfl
              have r1 : vs 1 = .pointer (some ⟨bt, a, none⟩) := hv 1 91 (by decide) rfl
              have r2 : vs 2 = .pointer (some ⟨bf a, 0, none⟩) := hv 2 92 (by decide) rfl
              have r3 : vs 3 = .int .i64 c := hv 3 93 (by decide) rfl
              have r4 : vs 4 = .pointer (some ⟨bt, c, none⟩) := hv 4 94 (by decide) rfl
              have r5 : vs 5 = .pointer (some ⟨bf c, 0, none⟩) := hv 5 95 (by decide) rfl
              have r6 : vs 6 = .int .i64 a := hv 6 96 (by decide) rfl
              have r7 : vs 7 = .pointer (some ⟨bm, a, none⟩) := hv 7 97 (by decide) rfl
              have r8 : vs 8 = .pointer (some ⟨mf a, 0, none⟩) := hv 8 98 (by decide) rfl
              have r9 : vs 9 = .int .i64 c := hv 9 99 (by decide) rfl
              have r10 : vs 10 = .pointer (some ⟨bm, c, none⟩) := hv 10 100 (by decide) rfl
              have r11 : vs 11 = .pointer (some ⟨mf c, 0, none⟩) := hv 11 101 (by decide) rfl
              have r12 : vs 12 = .slice (some ⟨g, o, none⟩) n sc := hv 12 102 (by decide) rfl
              have r13 : vs 13 = .int .i64 i := hv 13 103 (by decide) rfl
              have r14 : vs 14 = .pointer (some ⟨g, o + i * 4, none⟩) := hv 14 104 (by decide) rfl
              have r15 : vs 15 = Btt.val' (Btt.mk d onn win ii) := hv 15 105 (by decide) rfl
              simp only [List.drop_succ_cons, List.drop_zero, lay, List.foldl_cons, List.foldl_nil, r0, r1, r2, r3, r4, r5, r6, r7, r8, r9, r10, r11, r12, r13, r14, r15]
              simp only [List.setIfInBounds_toArray, List.set_cons_zero, List.set_cons_succ]
              clear hv r0 r1 r2 r3 r4 r5 r6 r7 r8 r9 r10 r11 r12 r13 r14 r15
              clear vs
              have F1 := Lib.hid f1
              clear f1
              go_wp2_with fail
              obtain ⟨Bf, hTB⟩ := HM.out.ex
              (with_reducible refine (tb_bit (hTB.grow F1.out) (HM.out.half.grow F1.out) HT.out a3 c3 (Btt.mk d onn win ii)).mono ?_)
              rintro e W2 ⟨rfl, htb, hhf, hk⟩
              have HE := Lib.hid (And.intro htb (And.intro hhf hk))
              clear htb hhf hk hTB
              go_wp2_with fail
              refine ⟨⟨i + 1, by go_num, by omega, ⟨⟨_, HE.out.1⟩, HE.out.2.1, HE.out.2.2 _ _ _ (by decide) (F1.out.blk HM.out.bt (by simp)), HE.out.2.2 _ _ _ (by decide) (F1.out.blk HM.out.bm (by simp))⟩⟩, by simp [intOf]; omega⟩
        · obtain rfl : i = n := by omega
          go_wp2_with fail
          go_loopw [15] (fun jv wr => ∃ j : Nat, jv = .int .i64 j ∧ j ≤ 3 ∧ LB w bt bm bf mf vf uf hv vw wr) (fun jv _ => 3 - (intOf jv).toNat)
          case atStart => exact ⟨0, rfl, Nat.zero_le _, HLi.out⟩
          case round =>
            obtain ⟨j, rfl, hj, hL⟩ := hrel
            obtain ⟨wk, hwk⟩ : ∃ wk : World, wk = wr := ⟨_, rfl⟩
            rw [← hwk] at hL ⊢
            clear hwk wr
            have HM := Lib.hid hL
            clear hL
            by_cases j3 : j < 3
            · have g0 : (0 : Int) ≤ (j : Int) := by omega
              have g1 : (j : Int) < 3 := by omega
              go_wp2_with fail
              refine region_tail (by kernel_rfl) (by kernel_rfl) [[], [0], [0, 1], [], [3], [3, 4], [], [6], [6, 7], [], [9], [9, 10], [], [0, 1, 2, 3, 4, 5, 6, 7, 8, 9, 10, 11, 12], [0, 1, 2, 3, 4, 5, 6, 7, 8, 9, 10, 11, 12, 13]] (by kernel_rfl) 13 (by decide) (by kernel_rfl) [.is (.int .i64 j), .is (.pointer (some ⟨bt, j, none⟩)), .is (.pointer (some ⟨bf j, 0, none⟩)), .is (.int .i64 j), .is (.pointer (some ⟨bt, j, none⟩)), .is (.pointer (some ⟨bf j, 0, none⟩)), .is (.int .i64 j), .is (.pointer (some ⟨bm, j, none⟩)), .is (.pointer (some ⟨mf j, 0, none⟩)), .is (.int .i64 j), .is (.pointer (some ⟨bm, j, none⟩)), .is (.pointer (some ⟨mf j, 0, none⟩)), .is (Btt.val' (Btt.mk 9 0 0 0))] 192 rfl (by kernel_rfl) ?_ ?_
              · intro q a1 W1 i hi hnq hd hG K hK
                have hlt : i < 13 := hi
                have hc : i = 0 ∨ i = 1 ∨ i = 2 ∨ i = 3 ∨ i = 4 ∨ i = 5 ∨ i = 6 ∨ i = 7 ∨ i = 8 ∨ i = 9 ∨ i = 10 ∨ i = 11 ∨ i = 12 := by omega
                rcases hc with rfl | rfl | rfl | rfl | rfl | rfl | rfl | rfl | rfl | rfl | rfl | rfl | rfl
                · have e15 := hG.old 15 (by kernel_rfl)
                  refine op_do rfl (wanted_none rfl) hK (fun K' hK' => ?_)
                  unfold Oper.wp
                  go_simp
                  exact hK' _ _ (Fr.refl _ _) rfl
                · have e5 := hG.old 5 (by kernel_rfl)
                  have e112 := hG.val (v := .int .i64 j) 0 112 (hd _ rfl ⟨0, .data⟩ (by simp) rfl) rfl rfl
                  have g0 : (0 : Int) ≤ (j : Int) := by omega
                  have g1 : (j : Int) < 3 := by omega
                  refine op_do rfl (wanted_none rfl) hK (fun K' hK' => ?_)
                  unfold Oper.wp
                  go_simp
                  exact hK' _ _ (Fr.refl _ _) rfl
                · have e113 := hG.val (v := .pointer (some ⟨bt, j, none⟩)) 1 113 (hd _ rfl ⟨1, .data⟩ (by simp) rfl) rfl rfl
                  have z0 := (hG.grown.cell (a := ⟨bt, j, none⟩) HM.out.bt.lt (by simp)).trans (cell3 HM.out.bt j3)
                  refine op_do rfl (wanted_none rfl) hK (fun K' hK' => ?_)
                  unfold Oper.wp
                  go_simp
                  exact hK' _ _ (Fr.refl _ _) rfl
                · have e15 := hG.old 15 (by kernel_rfl)
                  refine op_do rfl (wanted_none rfl) hK (fun K' hK' => ?_)
                  unfold Oper.wp
                  go_simp
                  exact hK' _ _ (Fr.refl _ _) rfl
                · have e5 := hG.old 5 (by kernel_rfl)
                  have e115 := hG.val (v := .int .i64 j) 3 115 (hd _ rfl ⟨3, .data⟩ (by simp) rfl) rfl rfl
                  have g0 : (0 : Int) ≤ (j : Int) := by omega
                  have g1 : (j : Int) < 3 := by omega
                  refine op_do rfl (wanted_none rfl) hK (fun K' hK' => ?_)
                  unfold Oper.wp
                  go_simp
                  exact hK' _ _ (Fr.refl _ _) rfl
                · have e116 := hG.val (v := .pointer (some ⟨bt, j, none⟩)) 4 116 (hd _ rfl ⟨4, .data⟩ (by simp) rfl) rfl rfl
                  have z0 := (hG.grown.cell (a := ⟨bt, j, none⟩) HM.out.bt.lt (by simp)).trans (cell3 HM.out.bt j3)
                  refine op_do rfl (wanted_none rfl) hK (fun K' hK' => ?_)
                  unfold Oper.wp
                  go_simp
                  exact hK' _ _ (Fr.refl _ _) rfl
                · have e15 := hG.old 15 (by kernel_rfl)
                  refine op_do rfl (wanted_none rfl) hK (fun K' hK' => ?_)
                  unfold Oper.wp
                  go_simp
                  exact hK' _ _ (Fr.refl _ _) rfl
                · have e6 := hG.old 6 (by kernel_rfl)
                  have e118 := hG.val (v := .int .i64 j) 6 118 (hd _ rfl ⟨6, .data⟩ (by simp) rfl) rfl rfl
                  have g0 : (0 : Int) ≤ (j : Int) := by omega
                  have g1 : (j : Int) < 3 := by omega
                  refine op_do rfl (wanted_none rfl) hK (fun K' hK' => ?_)
                  unfold Oper.wp
                  go_simp
                  exact hK' _ _ (Fr.refl _ _) rfl
                · have e119 := hG.val (v := .pointer (some ⟨bm, j, none⟩)) 7 119 (hd _ rfl ⟨7, .data⟩ (by simp) rfl) rfl rfl
                  have z0 := (hG.grown.cell (a := ⟨bm, j, none⟩) HM.out.bm.lt (by simp)).trans (cell3 HM.out.bm j3)
                  refine op_do rfl (wanted_none rfl) hK (fun K' hK' => ?_)
                  unfold Oper.wp
                  go_simp
                  exact hK' _ _ (Fr.refl _ _) rfl
                · have e15 := hG.old 15 (by kernel_rfl)
                  refine op_do rfl (wanted_none rfl) hK (fun K' hK' => ?_)
                  unfold Oper.wp
                  go_simp
                  exact hK' _ _ (Fr.refl _ _) rfl
                · have e6 := hG.old 6 (by kernel_rfl)
                  have e121 := hG.val (v := .int .i64 j) 9 121 (hd _ rfl ⟨9, .data⟩ (by simp) rfl) rfl rfl
                  have g0 : (0 : Int) ≤ (j : Int) := by omega
                  have g1 : (j : Int) < 3 := by omega
                  refine op_do rfl (wanted_none rfl) hK (fun K' hK' => ?_)
                  unfold Oper.wp
                  go_simp
                  exact hK' _ _ (Fr.refl _ _) rfl
                · have e122 := hG.val (v := .pointer (some ⟨bm, j, none⟩)) 10 122 (hd _ rfl ⟨10, .data⟩ (by simp) rfl) rfl rfl
                  have z0 := (hG.grown.cell (a := ⟨bm, j, none⟩) HM.out.bm.lt (by simp)).trans (cell3 HM.out.bm j3)
                  refine op_do rfl (wanted_none rfl) hK (fun K' hK' => ?_)
                  unfold Oper.wp
                  go_simp
                  exact hK' _ _ (Fr.refl _ _) rfl
                · refine op_do rfl (wanted_none rfl) hK (fun K' hK' => ?_)
                  unfold Oper.wp
                  go_simp
                  exact hK' _ _ (Fr.refl _ _) rfl
              · intro q a1 W1 hq hG
                have f1 := hG.grown
                obtain ⟨vs, hv, rfl⟩ := hG.front 192 rfl (by kernel_rfl) (by decide) hq [(0, 112), (1, 113), (2, 114), (3, 115), (4, 116), (5, 117), (6, 118), (7, 119), (8, 120), (9, 121), (10, 122), (11, 123), (12, 124)] (by kernel_rfl)
                clear hG hq
                have r0 : vs 0 = .int .i64 j := hv 0 112 (by decide) rfl
                have r1 : vs 1 = .pointer (some ⟨bt, j, none⟩) := hv 1 113 (by decide) rfl
                have r2 : vs 2 = .pointer (some ⟨bf j, 0, none⟩) := hv 2 114 (by decide) rfl
                have r3 : vs 3 = .int .i64 j := hv 3 115 (by decide) rfl
                have r4 : vs 4 = .pointer (some ⟨bt, j, none⟩) := hv 4 116 (by decide) rfl
                have r5 : vs 5 = .pointer (some ⟨bf j, 0, none⟩) := hv 5 117 (by decide) rfl
                have r6 : vs 6 = .int .i64 j := hv 6 118 (by decide) rfl
                have r7 : vs 7 = .pointer (some ⟨bm, j, none⟩) := hv 7 119 (by decide) rfl
                have r8 : vs 8 = .pointer (some ⟨mf j, 0, none⟩) := hv 8 120 (by decide) rfl
                have r9 : vs 9 = .int .i64 j := hv 9 121 (by decide) rfl
                have r10 : vs 10 = .pointer (some ⟨bm, j, none⟩) := hv 10 122 (by decide) rfl
                have r11 : vs 11 = .pointer (some ⟨mf j, 0, none⟩) := hv 11 123 (by decide) rfl
                have r12 : vs 12 = Btt.val' (Btt.mk 9 0 0 0) := hv 12 124 (by decide) rfl
                simp only [List.drop_succ_cons, List.drop_zero, lay, List.foldl_cons, List.foldl_nil, r0, r1, r2, r3, r4, r5, r6, r7, r8, r9, r10, r11, r12]
                simp only [List.setIfInBounds_toArray, List.set_cons_zero, List.set_cons_succ]
                clear hv r0 r1 r2 r3 r4 r5 r6 r7 r8 r9 r10 r11 r12
                clear vs
                have F1 := Lib.hid f1
                clear f1
                go_wp2_with fail
                obtain ⟨Bf, hTB⟩ := HM.out.ex
                (with_reducible refine (tb_bit (hTB.grow F1.out) (HM.out.half.grow F1.out) HT.out j3 j3 (Btt.mk 9 0 0 0)).mono ?_)
                rintro e W2 ⟨rfl, htb, hhf, hk⟩
                have HE := Lib.hid (And.intro htb (And.intro hhf hk))
                clear htb hhf hk hTB
                go_wp2_with fail
                refine ⟨⟨j + 1, by go_num, by omega, ⟨⟨_, HE.out.1⟩, HE.out.2.1, HE.out.2.2 _ _ _ (by decide) (F1.out.blk HM.out.bt (by simp)), HE.out.2.2 _ _ _ (by decide) (F1.out.blk HM.out.bm (by simp))⟩⟩, by simp [intOf]; omega⟩
            · obtain rfl : j = 3 := by omega
              obtain ⟨Bf3, hTB3⟩ := HM.out.ex
              obtain ⟨ws3, hb3⟩ := (hTB3.each 0 (by decide)).set
              have f5 : Fr [] wk (wk.alloc (.cells #[.int .i64 0, .slice none 0 0] 90)) := (Fr.refl _ _).alloc _
              have hz : NoB (wk.alloc (.cells #[.int .i64 0, .slice none 0 0] 90)) (.pointer (some ⟨wk.heap.size, 0, none⟩)) := by unfold NoB; exact .inr ⟨_, rfl, Blk.new wk _ _⟩
              have a0 := (f5.blk HM.out.bt (by simp)).at 0 (v := .pointer (some ⟨bf 0, 0, none⟩)) rfl
              have HZ := Lib.hid (And.intro hz (And.intro (hb3.grow f5) (And.intro (HM.out.half.grow f5) (hTB3.fr.trans f5 (by simp)))))
              clear hb3 f5 hz hTB3 HLi
              go_wp2_with fail
              obtain ⟨w8, hw8⟩ : ∃ w8, w8 = wk.alloc (.cells #[.int .i64 0, .slice none 0 0] 90) := ⟨_, rfl⟩
              obtain ⟨bz, hbz⟩ : ∃ bz, bz = wk.heap.size := ⟨_, rfl⟩
              rw [← hw8, ← hbz] at HZ
              rw [← hw8] at a0 ⊢
              rw [← hbz]
              clear hw8 hbz
              (with_reducible refine (join_no2 w8 (bf 0) (vf 0) (Bf3 0) ws3 (.pointer none) HZ.out.2.1 (nob_nil w8)).mono ?_)
              rintro e wx ⟨rfl, rfl⟩
              go_wp2_with fail
              (with_reducible refine (meet_no1 w8 (.pointer none) _ (nob_nil w8)).mono ?_)
              rintro e wx ⟨rfl, rfl⟩
              go_wp2_with fail
              (with_reducible refine (cut_no1 w8 (.pointer (some ⟨bz, 0, none⟩)) _ HZ.out.1).mono ?_)
              rintro e wx ⟨rfl, rfl⟩
              go_wp2_with fail
              (with_reducible refine (cut_no2 w8 (bf 0) (vf 0) (Bf3 0) ws3 (.pointer (some ⟨bz, 0, none⟩)) HZ.out.2.1 HZ.out.1).mono ?_)
              rintro e wx ⟨rfl, rfl⟩
              go_wp2_with fail
              (with_reducible refine (add_none w8 (.pointer none) (nob_nil w8)).mono ?_)
              rintro e wx ⟨rfl, rfl⟩
              go_wp2_with fail
              (with_reducible refine (add_none w8 (.pointer (some ⟨bz, 0, none⟩)) HZ.out.1).mono ?_)
              rintro e wx ⟨rfl, rfl⟩
              go_wp2_with fail
              (with_reducible refine (count_nil w8).mono ?_)
              rintro e wx ⟨rfl, rfl⟩
              go_wp2_with fail
              (with_reducible refine (least_none w8 (.pointer none) 0 (nob_nil w8)).mono ?_)
              rintro e wx ⟨rfl, rfl⟩
              go_wp2_with fail
              (with_reducible refine (free_none w8 (.pointer (some ⟨bz, 0, none⟩)) 5 HZ.out.1).mono ?_)
              rintro e wx ⟨rfl, rfl⟩
              go_wp2_with fail
              (with_reducible refine (allb_none w8 (.pointer none) (nob_nil w8)).mono ?_)
              rintro e wx ⟨rfl, rfl⟩
              go_wp2_with fail
              (with_reducible refine (numbers76_any w8 0).mono ?_)
              rintro e w9 ⟨v9, rfl, hv9, f9⟩
              obtain ⟨p9, c9, rfl, _, _⟩ := hv9
              have h9 : (stopI [] 0).length = 0 := rfl
              rw [h9]
              obtain ⟨k, b2, v2, B, ws, hhv, hheld, hown, hsep⟩ := HZ.out.2.2.1.grow f9
              subst hhv
              have hF9 := HZ.out.2.2.2.trans f9 (by simp)
              have HY := Lib.hid (And.intro hheld (And.intro hown hF9))
              clear f9 hheld hown hsep hF9 h9 a0
              go_wp2_with fail
              (with_reducible refine (numbers78_any w9 k b2 v2 B ws 0 HY.out.1).mono ?_)
              rintro e w10 ⟨v10, rfl, h10, f10⟩
              rw [stopI_zero] at h10
              have hrd := RdInts.of_own (own_fr HY.out.2.1 f10 (by simp))
              have hll := onesI_len B B.length
              have hlim := HY.out.1.set.lim
              have HV := Lib.hid (And.intro h10 (And.intro hrd (And.intro (show (onesI B B.length).length ≤ 65536 by omega) (HY.out.2.2.trans f10 (by simp)))))
              clear h10 hrd hll hlim f10
              go_wp2_with fail
              (with_reducible refine (sameInts_any w10 v10 vw (onesI B B.length) HV.out.1 HV.out.2.1 HV.out.2.2.1).mono ?_)
              rintro e w11 ⟨rfl, f11⟩
              have HW := Lib.hid (HV.out.2.2.2.trans f11 (by simp))
              clear f11
              go_wp2_with fail
              (with_reducible refine (lives_any w11 (deB_fr2 HT.out HW.out)).mono ?_)
              rintro e w12 ⟨rfl, f12⟩
              have HU := Lib.hid (HW.out.trans f12 (by simp))
              clear f12
              go_wp2_with fail
              refine bodyPost_ret (v := .bool true) (by simp [results, Tryd.results5, go_sem]) rfl ⟨rfl, HU.out⟩
end Go.Proofs.YtgoolkgjcmdilaaDoor
