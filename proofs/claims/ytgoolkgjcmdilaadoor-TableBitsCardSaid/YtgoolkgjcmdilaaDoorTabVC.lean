/-
  Tables of V: Len, Room, Get, Next.
-/
import Derived.Test.YtgoolkgjcmdilaaDoorTabVB
import Derived.BigRegion
import Derived.Deep.CutBlock
import Derived.Deep.DeepCutAuto
namespace Go.Proofs.YtgoolkgjcmdilaaDoor
open Go.RowKit
set_option linter.unusedVariables false
set_option linter.unusedSimpArgs false
attribute [local go_sem] Oper.semAt_some

theorem lenV_any (w : World) (b : Nat) (v : Value) (Ps : List (Int × (Int × ByteArray))) (room : Int) (h : TabV w b v Ps room) : Calls Tryd.prog 73 #[.pointer (some ⟨b, 0, none⟩)] w fun e w' => e = .returned (.int .i64 Ps.length) ∧ w = w' := by
  have HH := Lib.hid h
  obtain ⟨g, cap, rfl, _, _, _, _⟩ := h.row
  have c1 := h.hd.at 1 (v := .slice (some ⟨g, 0, none⟩) Ps.length cap) rfl
  clear h
  go_enter Tryd.func73, Tryd.ntmps73
  go_wp2_with fail
  (with_reducible refine (liveV_any _ b _ Ps room HH.out).mono ?_)
  rintro e w1 ⟨rfl, rfl⟩
  go_wp2
  go_ret
  exact ⟨rfl, rfl⟩
theorem roomV_any (w : World) (b : Nat) (v : Value) (Ps : List (Int × (Int × ByteArray))) (room : Int) (h : TabV w b v Ps room) : Calls Tryd.prog 74 #[.pointer (some ⟨b, 0, none⟩)] w fun e w' => e = .returned (.int .i64 room) ∧ w = w' := by
  have HH := Lib.hid h
  have c0 := h.hd.at 0 (v := .int .i64 room) rfl
  clear h
  go_enter Tryd.func74, Tryd.ntmps74
  go_wp2_with fail
  (with_reducible refine (liveV_any _ b _ Ps room HH.out).mono ?_)
  rintro e w1 ⟨rfl, rfl⟩
  go_wp2
  go_ret
  exact ⟨rfl, rfl⟩
set_option maxRecDepth 100000 in
theorem getV_yes (w : World) (b : Nat) (v : Value) (Ps : List (Int × (Int × ByteArray))) (room id : Int) (x : Int × ByteArray) (h : TabV w b v Ps room) (hi : U32 id) (hx : Ps[rank Ps id]? = some (id, x)) :
    Calls Tryd.prog 60 #[.pointer (some ⟨b, 0, none⟩), .int .u32 id] w fun e w' => e = .returned (.tuple #[.agg #[.int .i64 x.1, .string x.2], .bool true]) ∧ Fr [] w w' := by
  have F0 := ((Fr.refl [] w).alloc (.cells #[.int .i64 0, .string ⟨#[]⟩] 29)).alloc (.cells #[.int .i64 0, .string ⟨#[]⟩] 29)
  have h2 := h.grow F0
  have hL := findV_any _ b v Ps room id h2 hi
  have hh : hasId Ps id = true := (has_at h.up id).2 ⟨x, hx⟩
  rw [hh] at hL
  obtain ⟨r, hr⟩ : ∃ r, r = rank Ps id := ⟨_, rfl⟩
  rw [← hr] at hL hx
  have HL := Lib.hid hL
  have HH := Lib.hid h2
  have HX := Lib.hid hx
  have z0 := Blk.new_at (w := w.alloc (.cells #[.int .i64 0, .string ⟨#[]⟩] 29)) (k := w.heap.size + 1) (by simp) #[.int .i64 0, .string ⟨#[]⟩] 29
  have z1 := (Blk.new w #[.int .i64 0, .string ⟨#[]⟩] 29).alloc (.cells #[.int .i64 0, .string ⟨#[]⟩] 29)
  have HF := Lib.hid (And.intro F0 z1)
  clear h h2 hL hh hx hr z0 z1 F0 hi
  go_enter Tryd.func60, Tryd.ntmps60
  go_wp2_with fail
  (with_reducible refine (liveV_any _ b _ Ps room HH.out).mono ?_)
  rintro e w1 ⟨rfl, rfl⟩
  go_wp2_with fail
  (with_reducible refine (HL.out).mono ?_)
  rintro e w1 ⟨rfl, f1⟩
  have h1 := HH.out.grow f1
  obtain ⟨g, cap, rfl, hc1, hc2, hc3, hr⟩ := h1.row
  have d1 := h1.hd.at 1 (v := .slice (some ⟨g, 0, none⟩) Ps.length cap) rfl
  obtain ⟨c0, c1, c2⟩ := hr.at HX.out
  dsimp only at c0 c1 c2
  have hrl := (List.getElem?_eq_some_iff.1 HX.out).1
  obtain ⟨n, hn⟩ : ∃ n, n = Ps.length := ⟨_, rfl⟩
  rw [← hn] at d1 hrl
  have g0 : (0 : Int) ≤ (r : Int) := by omega
  have g1 : (r : Int) < (n : Int) := by omega
  have zb := f1.blk HF.out.2 (by simp)
  have HG := Lib.hid (And.intro (HF.out.1.trans f1 (by simp)) zb)
  have y0 := zb.at 0 (v := .int .i64 0) rfl
  have v0 := zb.free 0
  have y1 := zb.at 1 (v := .string ⟨#[]⟩) rfl
  have v1 := zb.free 1
  clear h1 hr hn hrl f1 hc1 hc2 hc3 zb
  go_wp2_with fail
  refine bodyPost_ret (v := .tuple #[.agg #[.int .i64 x.1, .string x.2], .bool true]) (by simp [results, Tryd.results60, go_sem, y0, y1]) rfl ⟨rfl, ?_⟩
  exact ((((HG.out.1).setCell ⟨w.heap.size, 0, none⟩ (.int .i64 x.1) (.inr (Nat.le_refl _)))).setCell ⟨w.heap.size, 1, none⟩ (.string x.2) (.inr (Nat.le_refl _)))
set_option maxRecDepth 100000 in
theorem getV_no (w : World) (b : Nat) (v : Value) (Ps : List (Int × (Int × ByteArray))) (room id : Int) (h : TabV w b v Ps room) (hi : U32 id) (hh : hasId Ps id = false) :
    Calls Tryd.prog 60 #[.pointer (some ⟨b, 0, none⟩), .int .u32 id] w fun e w' => e = .returned (.tuple #[.agg #[.int .i64 0, .string ⟨#[]⟩], .bool false]) ∧ Fr [] w w' := by
  have F0 := ((Fr.refl [] w).alloc (.cells #[.int .i64 0, .string ⟨#[]⟩] 29)).alloc (.cells #[.int .i64 0, .string ⟨#[]⟩] 29)
  have h2 := h.grow F0
  have hL := findV_any _ b v Ps room id h2 hi
  rw [hh] at hL
  obtain ⟨r, hr⟩ : ∃ r, r = rank Ps id := ⟨_, rfl⟩
  rw [← hr] at hL
  have HL := Lib.hid hL
  have HH := Lib.hid h2
  have z0 := Blk.new_at (w := w.alloc (.cells #[.int .i64 0, .string ⟨#[]⟩] 29)) (k := w.heap.size + 1) (by simp) #[.int .i64 0, .string ⟨#[]⟩] 29
  have z1 := (Blk.new w #[.int .i64 0, .string ⟨#[]⟩] 29).alloc (.cells #[.int .i64 0, .string ⟨#[]⟩] 29)
  have HF := Lib.hid (And.intro F0 (And.intro z1 z0))
  clear h h2 hL hh hr z0 z1 F0 hi
  go_enter Tryd.func60, Tryd.ntmps60
  go_wp2_with fail
  (with_reducible refine (liveV_any _ b _ Ps room HH.out).mono ?_)
  rintro e w1 ⟨rfl, rfl⟩
  go_wp2_with fail
  (with_reducible refine (HL.out).mono ?_)
  rintro e w1 ⟨rfl, f1⟩
  have zb := f1.blk HF.out.2.1 (by simp)
  have zn := f1.blk HF.out.2.2 (by simp)
  have HG := Lib.hid (HF.out.1.trans f1 (by simp))
  have y0 := zb.at 0 (v := .int .i64 0) rfl
  have v0 := zb.free 0
  have y1 := zb.at 1 (v := .string ⟨#[]⟩) rfl
  have v1 := zb.free 1
  have q0 := zn.at 0 (v := .int .i64 0) rfl
  have q1 := zn.at 1 (v := .string ⟨#[]⟩) rfl
  clear f1 zb zn
  go_wp2_with fail
  refine bodyPost_ret (v := .tuple #[.agg #[.int .i64 0, .string ⟨#[]⟩], .bool false]) (by simp [results, Tryd.results60, go_sem, y0, y1]) rfl ⟨rfl, ?_⟩
  exact ((((HG.out).setCell ⟨w.heap.size, 0, none⟩ (.int .i64 0) (.inr (Nat.le_refl _)))).setCell ⟨w.heap.size, 1, none⟩ (.string ⟨#[]⟩) (.inr (Nat.le_refl _)))

/-- Where Next looks. -/
def nxtV (Ps : List (Int × (Int × ByteArray))) (id : Int) (all : Bool) : Nat := if all then 0 else rank Ps id + (if hasId Ps id then 1 else 0)
theorem nxtV_le (Ps : List (Int × (Int × ByteArray))) (hu : Up Ps) (id : Int) (all : Bool) : nxtV Ps id all ≤ Ps.length := by
  unfold nxtV
  split
  · omega
  · split
    · obtain ⟨x, hx⟩ := (has_at hu id).1 ‹_›
      have := (List.getElem?_eq_some_iff.1 hx).1
      omega
    · have := rank_le Ps id; omega
set_option maxRecDepth 100000 in
set_option maxHeartbeats 1000000 in
theorem nextV_yes (w : World) (b : Nat) (v : Value) (Ps : List (Int × (Int × ByteArray))) (room id : Int) (all : Bool) (p : Int) (x : Int × ByteArray) (h : TabV w b v Ps room) (hi : U32 id) (hx : Ps[nxtV Ps id all]? = some (p, x)) :
    Calls Tryd.prog 15 #[.pointer (some ⟨b, 0, none⟩), .int .u32 id, .bool all] w fun e w' => e = .returned (.tuple #[.int .u32 p, .agg #[.int .i64 x.1, .string x.2], .bool true]) ∧ Fr [] w w' := by
  have F0 := ((Fr.refl [] w).alloc (.cells #[.int .i64 0, .string ⟨#[]⟩] 29)).alloc (.cells #[.int .i64 0, .string ⟨#[]⟩] 29)
  have h2 := h.grow F0
  have hL := findV_any _ b v Ps room id h2 hi
  obtain ⟨r, hr⟩ : ∃ r, r = rank Ps id := ⟨_, rfl⟩
  obtain ⟨hs, hhs⟩ : ∃ b, b = hasId Ps id := ⟨_, rfl⟩
  obtain ⟨m, hm⟩ : ∃ m, m = nxtV Ps id all := ⟨_, rfl⟩
  have hml : m ≤ Ps.length := by rw [hm]; exact nxtV_le Ps h.up id all
  have hlim : Ps.length ≤ 65536 := by have := h.lim; omega
  rw [← hm] at hx
  unfold nxtV at hm
  rw [← hr, ← hhs] at hL hm
  have HL := Lib.hid hL
  have HH := Lib.hid h2
  have HX := Lib.hid hx
  have z0 := Blk.new_at (w := w.alloc (.cells #[.int .i64 0, .string ⟨#[]⟩] 29)) (k := w.heap.size + 1) (by simp) #[.int .i64 0, .string ⟨#[]⟩] 29
  have z1 := (Blk.new w #[.int .i64 0, .string ⟨#[]⟩] 29).alloc (.cells #[.int .i64 0, .string ⟨#[]⟩] 29)
  have HF := Lib.hid (And.intro F0 (And.intro z1 z0))
  have hwr : wrap64 ((r : Int) + 1) = (r : Int) + 1 := w64 (by have := rank_le Ps id; omega)
  have HM := Lib.hid (And.intro hml hlim)
  clear h h2 hL hr hhs hx z0 z1 F0 hi hml hlim
  go_enter Tryd.func15, Tryd.ntmps15
  go_wp2_with fail
  (with_reducible refine (liveV_any _ b _ Ps room HH.out).mono ?_)
  rintro e w1 ⟨rfl, rfl⟩
  go_wp2_with fail
  (with_reducible refine (HL.out).mono ?_)
  rintro e w1 ⟨rfl, f1⟩
  have h1 := HH.out.grow f1
  obtain ⟨g, cap, rfl, hc1, hc2, hc3, hr⟩ := h1.row
  have d1 := h1.hd.at 1 (v := .slice (some ⟨g, 0, none⟩) Ps.length cap) rfl
  obtain ⟨n, hn⟩ : ∃ n, n = Ps.length := ⟨_, rfl⟩
  rw [← hn] at d1
  have HN := Lib.hid hn
  clear hn
  have zb := f1.blk HF.out.2.1 (by simp)
  have zn := f1.blk HF.out.2.2 (by simp)
  have HG := Lib.hid (And.intro (HF.out.1.trans f1 (by simp)) (And.intro zb zn))
  have HR := Lib.hid hr
  have hd1 := Lib.hid d1
  clear h1 hr f1 hc1 hc2 hc3 zb zn d1
  go_upto_block 0 with fail
  go_cut [10] (fun s10 wx => s10 = .int .i64 m ∧ wx = w1)
  case first =>
    cases all with
    | true =>
      rw [if_pos rfl] at hm
      subst hm
      go_wp2_with fail
      go_meet
      case rel => exact ⟨rfl, rfl⟩
    | false =>
      rw [if_neg (by decide)] at hm
      cases hs with
      | true =>
        rw [if_pos rfl] at hm
        subst hm
        go_wp2_with fail
        go_meet
        case rel => exact ⟨by go_num, rfl⟩
      | false =>
        rw [if_neg (by decide)] at hm
        subst hm
        go_wp2_with fail
        go_meet
        case rel => exact ⟨rfl, rfl⟩
  case rest =>
    obtain ⟨rfl, rfl⟩ := hcut
    have c1 := hd1.out
    clear hm hwr
    have hmn : m < n := by rw [HN.out]; exact (List.getElem?_eq_some_iff.1 HX.out).1
    have g0 : (0 : Int) ≤ (m : Int) := by omega
    have g1 : (m : Int) < (n : Int) := by omega
    have g2 : ((m : Int) == (n : Int)) = false := by rw [beq_eq_false_iff_ne]; omega
    clear c1
    obtain ⟨c0, c1, c2⟩ := HR.out.at HX.out
    dsimp only at c0 c1 c2
    have d1 := hd1.out
    have zb := HG.out.2.1
    have zn := HG.out.2.2
    have y0 := zb.at 0 (v := .int .i64 0) rfl
    have v0 := zb.free 0
    have y1 := zb.at 1 (v := .string ⟨#[]⟩) rfl
    have v1 := zb.free 1
    have q0 := zn.at 0 (v := .int .i64 0) rfl
    have q1 := zn.at 1 (v := .string ⟨#[]⟩) rfl
    clear zb zn hmn
    go_wp2_with fail
    go_region
    simp only [Exit.then]
    go_wp2_with fail
    refine bodyPost_ret (v := .tuple #[.int .u32 p, .agg #[.int .i64 x.1, .string x.2], .bool true]) (by simp [results, Tryd.results15, go_sem, y0, y1]) rfl ⟨rfl, ?_⟩
    exact (((((HG.out.1).setCell ⟨w.heap.size, 0, none⟩ (.int .i64 x.1) (.inr (Nat.le_refl _)))).setCell ⟨w.heap.size, 1, none⟩ (.string x.2) (.inr (Nat.le_refl _)))).drew
set_option maxRecDepth 100000 in
set_option maxHeartbeats 1000000 in
theorem nextV_no (w : World) (b : Nat) (v : Value) (Ps : List (Int × (Int × ByteArray))) (room id : Int) (all : Bool) (h : TabV w b v Ps room) (hi : U32 id) (hx : nxtV Ps id all = Ps.length) :
    Calls Tryd.prog 15 #[.pointer (some ⟨b, 0, none⟩), .int .u32 id, .bool all] w fun e w' => e = .returned (.tuple #[.int .u32 0, .agg #[.int .i64 0, .string ⟨#[]⟩], .bool false]) ∧ Fr [] w w' := by
  have F0 := ((Fr.refl [] w).alloc (.cells #[.int .i64 0, .string ⟨#[]⟩] 29)).alloc (.cells #[.int .i64 0, .string ⟨#[]⟩] 29)
  have h2 := h.grow F0
  have hL := findV_any _ b v Ps room id h2 hi
  obtain ⟨r, hr⟩ : ∃ r, r = rank Ps id := ⟨_, rfl⟩
  obtain ⟨hs, hhs⟩ : ∃ b, b = hasId Ps id := ⟨_, rfl⟩
  obtain ⟨m, hm⟩ : ∃ m, m = nxtV Ps id all := ⟨_, rfl⟩
  have hml : m ≤ Ps.length := by rw [hm]; exact nxtV_le Ps h.up id all
  have hlim : Ps.length ≤ 65536 := by have := h.lim; omega
  rw [← hm] at hx
  unfold nxtV at hm
  rw [← hr, ← hhs] at hL hm
  have HL := Lib.hid hL
  have HH := Lib.hid h2
  have HX := Lib.hid hx
  have z0 := Blk.new_at (w := w.alloc (.cells #[.int .i64 0, .string ⟨#[]⟩] 29)) (k := w.heap.size + 1) (by simp) #[.int .i64 0, .string ⟨#[]⟩] 29
  have z1 := (Blk.new w #[.int .i64 0, .string ⟨#[]⟩] 29).alloc (.cells #[.int .i64 0, .string ⟨#[]⟩] 29)
  have HF := Lib.hid (And.intro F0 (And.intro z1 z0))
  have hwr : wrap64 ((r : Int) + 1) = (r : Int) + 1 := w64 (by have := rank_le Ps id; omega)
  have HM := Lib.hid (And.intro hml hlim)
  clear h h2 hL hr hhs hx z0 z1 F0 hi hml hlim
  go_enter Tryd.func15, Tryd.ntmps15
  go_wp2_with fail
  (with_reducible refine (liveV_any _ b _ Ps room HH.out).mono ?_)
  rintro e w1 ⟨rfl, rfl⟩
  go_wp2_with fail
  (with_reducible refine (HL.out).mono ?_)
  rintro e w1 ⟨rfl, f1⟩
  have h1 := HH.out.grow f1
  obtain ⟨g, cap, rfl, hc1, hc2, hc3, hr⟩ := h1.row
  have d1 := h1.hd.at 1 (v := .slice (some ⟨g, 0, none⟩) Ps.length cap) rfl
  obtain ⟨n, hn⟩ : ∃ n, n = Ps.length := ⟨_, rfl⟩
  rw [← hn] at d1
  have HN := Lib.hid hn
  clear hn
  have zb := f1.blk HF.out.2.1 (by simp)
  have zn := f1.blk HF.out.2.2 (by simp)
  have HG := Lib.hid (And.intro (HF.out.1.trans f1 (by simp)) (And.intro zb zn))
  have HR := Lib.hid hr
  have hd1 := Lib.hid d1
  clear h1 hr f1 hc1 hc2 hc3 zb zn d1
  go_upto_block 0 with fail
  go_cut [10] (fun s10 wx => s10 = .int .i64 m ∧ wx = w1)
  case first =>
    cases all with
    | true =>
      rw [if_pos rfl] at hm
      subst hm
      go_wp2_with fail
      go_meet
      case rel => exact ⟨rfl, rfl⟩
    | false =>
      rw [if_neg (by decide)] at hm
      cases hs with
      | true =>
        rw [if_pos rfl] at hm
        subst hm
        go_wp2_with fail
        go_meet
        case rel => exact ⟨by go_num, rfl⟩
      | false =>
        rw [if_neg (by decide)] at hm
        subst hm
        go_wp2_with fail
        go_meet
        case rel => exact ⟨rfl, rfl⟩
  case rest =>
    obtain ⟨rfl, rfl⟩ := hcut
    have c1 := hd1.out
    clear hm hwr
    obtain rfl : m = n := by rw [HN.out]; exact HX.out
    have zb := HG.out.2.1
    have zn := HG.out.2.2
    have y0 := zb.at 0 (v := .int .i64 0) rfl
    have v0 := zb.free 0
    have y1 := zb.at 1 (v := .string ⟨#[]⟩) rfl
    have v1 := zb.free 1
    have q0 := zn.at 0 (v := .int .i64 0) rfl
    have q1 := zn.at 1 (v := .string ⟨#[]⟩) rfl
    clear zb zn
    go_wp2_with fail
    go_region
    simp only [Exit.then]
    go_wp2_with fail
    refine bodyPost_ret (v := .tuple #[.int .u32 0, .agg #[.int .i64 0, .string ⟨#[]⟩], .bool false]) (by simp [results, Tryd.results15, go_sem, y0, y1]) rfl ⟨rfl, ?_⟩
    exact (((((HG.out.1).setCell ⟨w.heap.size, 0, none⟩ (.int .i64 0) (.inr (Nat.le_refl _)))).setCell ⟨w.heap.size, 1, none⟩ (.string ⟨#[]⟩) (.inr (Nat.le_refl _)))).drew
end Go.Proofs.YtgoolkgjcmdilaaDoor
