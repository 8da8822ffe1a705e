/-
  Tb, part 8 of 36: the texts TabO.
-/
import Derived.Test.YtgoolkgjcmdilaaDoorProg
import Derived.Deep.RegionLaw
import Derived.Shelf.RegionOpenPlain
import Derived.BigRegion
import Derived.Deep.CutBlock
import Derived.Deep.DeepCutAuto
import Derived.Test.YtgoolkgjcmdilaaDoorTb7
section
namespace Go.Proofs.YtgoolkgjcmdilaaDoor
open Go.RowKit
set_option linter.unusedVariables false
set_option linter.unusedSimpArgs false
attribute [local go_sem] Oper.semAt_some
def payO (x : Nat) : List Value := [.pointer (some ⟨x, 0, none⟩)]
theorem wideO : Wide payO 1 := ⟨fun _ => rfl, fun x v hv => by simp [payO] at hv; rcases hv with rfl <;> rfl⟩
structure TabO (W : World) (b : Nat) (v : Value) (Ps : List (Int × (Nat))) (room : Int) : Prop where
  hd : Blk W b #[.int .i64 room, v] 212
  own : W.ownsRow 0 218 2 v Ps.length (flat payO Ps)
  nn : v.ownBlock ≠ none
  up : Up Ps
  ids : ∀ p ∈ Ps, U32 p.1
  lim : (Ps.length : Int) ≤ room ∧ room ≤ 65536
/-- A slice of pairs reads. -/
def RowO (W : World) (g : Nat) (Ps : List (Int × (Nat))) : Prop := ∀ j u, (flat payO Ps)[j]? = some u → W.cell? ⟨g, j, none⟩ = some u
theorem RowO.at {W : World} {g : Nat} {Ps : List (Int × (Nat))} (h0 : RowO W g Ps) {i : Nat} {p : Int × (Nat)} (h : Ps[i]? = some p) : W.cell? ⟨g, i * 2, none⟩ = some (.int .u32 p.1) ∧ W.cell? ⟨g, i * 2 + 1, none⟩ = some (.pointer (some ⟨p.2, 0, none⟩)) :=
  ⟨h0 (i * 2) _ (flat_id wideO h), h0 (i * 2 + 1) _ (flat_pay wideO h (j := 0) rfl)⟩
theorem RowO.fr {W W' : World} {g : Nat} {Ps : List (Int × (Nat))} (h : RowO W g Ps) (hf : Fr [] W W') : RowO W' g Ps :=
  fun j u hu => (hf.cell (World.block_lt_of_cell? W _ (h j u hu)) (by simp)).trans (h j u hu)
theorem TabO.row {W : World} {b : Nat} {v : Value} {Ps : List (Int × (Nat))} {room : Int} (h : TabO W b v Ps room) :
    ∃ g cap, v = .slice (some ⟨g, 0, none⟩) Ps.length cap ∧ Ps.length ≤ cap ∧ cap ≤ maxLen ∧ g < W.heap.size ∧ RowO W g Ps := by
  rcases h.own.2 with ⟨rfl, _⟩ | ⟨g, cap, cur, rfl, _, hg, hnc, hm, _, _⟩
  · exact absurd rfl h.nn
  · refine ⟨g, cap, rfl, hnc, hm, (Array.getElem?_eq_some_iff.1 hg).1, fun j u hu => ?_⟩
    have := h.own.cells (g := g) rfl j u hu
    rw [Addr.add_lit] at this
    simpa using this
theorem TabO.notin {W : World} {b : Nat} {v : Value} {Ps : List (Int × (Nat))} {room : Int} (h : TabO W b v Ps room) : b ∉ v.ownBlock.toList := own_notin h.own h.hd (by decide)
theorem TabO.fr {S : List Nat} {W W' : World} {b : Nat} {v : Value} {Ps : List (Int × (Nat))} {room : Int} (h : TabO W b v Ps room) (hf : Fr S W W') (h1 : b ∉ S) (h2 : ∀ g, v.ownBlock = some g → g ∉ S) : TabO W' b v Ps room :=
  ⟨hf.blk h.hd h1, own_fr h.own hf h2, h.nn, h.up, h.ids, h.lim⟩
theorem TabO.grow {W W' : World} {b : Nat} {v : Value} {Ps : List (Int × (Nat))} {room : Int} (h : TabO W b v Ps room) (hf : Fr [] W W') : TabO W' b v Ps room := h.fr hf (by simp) (by simp)
theorem newO_no (w : World) (room : Int) (hr : room < 0 ∨ 65536 < room) : Calls Tryd.prog 106 #[.int .i64 room] w fun e w' => e = .returned (.tuple #[.pointer none, .int .i64 2]) ∧ Fr [] w w' := by
  by_cases h1 : room < 0
  · clear hr
    go_enter Tryd.func106, Tryd.ntmps106
    go_wp2
    refine bodyPost_ret (v := .tuple #[.pointer none, .int .i64 2]) (by simp [results, Tryd.results106, go_sem]) rfl ⟨rfl, Fr.refl _ _⟩
  · have h2 : 65536 < room := by omega
    clear hr
    go_enter Tryd.func106, Tryd.ntmps106
    go_wp2
    refine bodyPost_ret (v := .tuple #[.pointer none, .int .i64 2]) (by simp [results, Tryd.results106, go_sem]) rfl ⟨rfl, Fr.refl _ _⟩
def NewOPost (w : World) (room : Int) (e : Ending) (w' : World) : Prop :=
  ∃ b v, e = .returned (.tuple #[.pointer (some ⟨b, 0, none⟩), .int .i64 0]) ∧ TabO w' b v [] room ∧ w.heap.size ≤ b ∧ (∀ g, v.ownBlock = some g → w.heap.size ≤ g) ∧ Fr [] w w'
theorem newO_ok (w : World) (room : Int) (h0 : 0 ≤ room) (h6 : room ≤ 65536) : Calls Tryd.prog 106 #[.int .i64 room] w (NewOPost w room) := by
  have h1 : ¬ room < 0 := by omega
  have h2 : ¬ 65536 < room := by omega
  go_enter Tryd.func106, Tryd.ntmps106
  go_wp2
  refine bodyPost_ret (v := .tuple #[.pointer (some ⟨w.heap.size + 1, 0, none⟩), .int .i64 0]) (by simp [results, Tryd.results106, go_sem]) rfl ?_
  unfold NewOPost
  refine ⟨w.heap.size + 1, .slice (some ⟨w.heap.size, 0, none⟩) 0 0, rfl, ⟨Blk.new_at (by simp) _ _, ?_, by simp [Value.ownBlock], List.Pairwise.nil, by simp, by simp; omega⟩, by omega, by simp [Value.ownBlock], ((Fr.refl [] w).alloc _).alloc _⟩
  exact (World.ownsRow_made (base := 0) (e := 218) (size := 2) w #[] 0 (Nat.zero_le _) (Nat.zero_le _) rfl).alloc _
theorem liveO_any (w : World) (b : Nat) (v : Value) (Ps : List (Int × (Nat))) (room : Int) (h : TabO w b v Ps room) : Calls Tryd.prog 142 #[.pointer (some ⟨b, 0, none⟩)] w fun e w' => e = .returned (.bool true) ∧ w = w' := by
  obtain ⟨g, cap, rfl, _, _, _, _⟩ := h.row
  have c1 := h.hd.at 1 (v := .slice (some ⟨g, 0, none⟩) Ps.length cap) rfl
  go_enter Tryd.func142, Tryd.ntmps142
  go_wp2
  go_ret
  exact ⟨rfl, rfl⟩
theorem cmpO_any (w : World) (p id : Int) (x : Nat) (hp : U32 p) (hi : U32 id) : Calls Tryd.prog 168 #[.agg #[.int .u32 p, .pointer (some ⟨x, 0, none⟩)], .int .u32 id] w fun e w' => e = .returned (.int .i64 (if p < id then -1 else if id < p then 1 else 0)) ∧ Fr [] w w' := by
  have hb := Blk.new w #[.int .u32 p, .pointer (some ⟨x, 0, none⟩)] 218
  have c0 := hb.at 0 (v := .int .u32 p) rfl
  have HF := Lib.hid ((Fr.refl [] w).alloc (.cells #[.int .u32 p, .pointer (some ⟨x, 0, none⟩)] 218))
  clear hb
  by_cases h1 : p < id
  · rw [if_pos h1]
    go_enter Tryd.func168, Tryd.ntmps168
    go_wp2
    go_ret
    exact ⟨rfl, HF.out⟩
  · by_cases h2 : id < p
    · rw [if_neg h1, if_pos h2]
      go_enter Tryd.func168, Tryd.ntmps168
      go_wp2
      go_ret
      exact ⟨rfl, HF.out⟩
    · rw [if_neg h1, if_neg h2]
      go_enter Tryd.func168, Tryd.ntmps168
      go_wp2
      go_ret
      exact ⟨rfl, HF.out⟩
end Go.Proofs.YtgoolkgjcmdilaaDoor
namespace Go.Proofs.YtgoolkgjcmdilaaDoor
open Go.RowKit
set_option linter.unusedVariables false
set_option linter.unusedSimpArgs false
attribute [local go_sem] Oper.semAt_some
theorem bsfO_any (w : World) (g cap : Nat) (Ps : List (Int × (Nat))) (id : Int) (hu : Up Ps) (hids : ∀ p ∈ Ps, U32 p.1) (hi : U32 id) (hc : Ps.length ≤ 65536) (hr : RowO w g Ps) :
    Calls Tryd.prog 167 #[.slice (some ⟨g, 0, none⟩) Ps.length cap, .int .u32 id, .func (.func 168) #[] #[]] w fun e w' => e = .returned (.tuple #[.int .i64 (rank Ps id), .bool (hasId Ps id)]) ∧ Fr [] w w' := by
  have HU := Lib.hid hu
  have HI := Lib.hid hids
  have HR := Lib.hid hr
  have HID := Lib.hid hi
  obtain ⟨n, hn⟩ : ∃ n, n = Ps.length := ⟨_, rfl⟩
  obtain ⟨r, hr'⟩ : ∃ r, r = rank Ps id := ⟨_, rfl⟩
  obtain ⟨hs, hhs⟩ : ∃ b, b = hasId Ps id := ⟨_, rfl⟩
  have hrn : r ≤ n := by rw [hn, hr']; exact rank_le _ _
  rw [← hn, ← hr', ← hhs]
  have HN := Lib.hid (And.intro hn (And.intro hr' hhs))
  rw [← hn] at hc
  clear hu hids hr hn hr' hhs hi
  go_enter Tryd.func167, Tryd.ntmps167
  go_wp2_with fail
  go_loopw [9, 10, 11] (fun iw jw hw wr => ∃ i j : Nat, iw = .int .i64 i ∧ jw = .int .i64 j ∧ i ≤ r ∧ r ≤ j ∧ j ≤ n ∧ Fr [] w wr) (fun iw jw _ _ => (intOf jw).toNat - (intOf iw).toNat)
  case atStart => exact ⟨0, n, rfl, rfl, Nat.zero_le _, hrn, Nat.le_refl _, Fr.refl _ _⟩
  case round =>
    obtain ⟨i, j, rfl, rfl, h1, h2, h3, hf⟩ := hrel
    obtain ⟨wi, rfl⟩ : ∃ wi : World, wi = wr := ⟨_, rfl⟩
    have HF := Lib.hid hf
    clear hf
    by_cases hij : i < j
    · have hmid := mid_eq (i := i) (j := j) (by omega)
      obtain ⟨h, hh⟩ : ∃ h, h = (i + j) / 2 := ⟨_, rfl⟩
      rw [← hh] at hmid
      have hih : i ≤ h := by omega
      have hhj : h < j := by omega
      have hhn : h < n := by omega
      have HK := Lib.hid (And.intro h1 (And.intro h2 (And.intro h3 (And.intro hih hhj))))
      have hpl : h < Ps.length := by rw [← HN.out.1]; exact hhn
      have hp : Ps[h]? = some Ps[h] := List.getElem?_eq_getElem hpl
      obtain ⟨⟨p, x⟩, hpx⟩ : ∃ p, p = Ps[h] := ⟨_, rfl⟩
      rw [← hpx] at hp
      have hpid := HI.out _ (List.mem_of_getElem? hp)
      have hlt := rank_lt HU.out id hp
      rw [← HN.out.2.1] at hlt
      dsimp only at hlt hpid
      have hcl := (HR.out.fr HF.out).at hp
      obtain ⟨c0, c1⟩ := hcl
      dsimp only at c0 c1
      have g0 : (0 : Int) ≤ (h : Int) := by omega
      have g1 : (h : Int) < (n : Int) := by omega
      have HP := Lib.hid (And.intro hpid hlt)
      clear hpid hlt hp hpx hpl hh hih hhj h1 h2 h3
      go_wp2_with fail
      (with_reducible refine (cmpO_any _ _ _ _ HP.out.1 HID.out).mono ?_)
      rintro e w1 ⟨rfl, f1⟩
      have HF1 := Lib.hid (HF.out.trans f1 (by simp))
      clear f1
      by_cases hpi : p < id
      · rw [if_pos hpi]
        have hhr : h < r := HP.out.2.1 hpi
        go_wp2_with fail
        obtain ⟨k1, k2, k3, k4, k5⟩ := HK.out
        exact ⟨⟨h + 1, j, by go_num, rfl, hhr, k2, k3, HF1.out⟩, by simp [intOf]; omega⟩
      · have hhr : ¬ h < r := fun a => hpi (HP.out.2.2 a)
        obtain ⟨y, hy⟩ : ∃ y, y = (if p < id then (-1 : Int) else if id < p then 1 else 0) := ⟨_, rfl⟩
        rw [← hy]
        have hy0 : ¬ y < 0 := by rw [hy, if_neg hpi]; split <;> omega
        clear hy
        go_wp2_with fail
        obtain ⟨k1, k2, k3, k4, k5⟩ := HK.out
        exact ⟨⟨i, h, rfl, rfl, k1, Nat.le_of_not_lt hhr, Nat.le_of_lt (Nat.lt_of_lt_of_le k5 k3), HF1.out⟩, by simp [intOf]; omega⟩
    · obtain rfl : i = r := by omega
      by_cases hin : i < n
      · have hpl : i < Ps.length := by rw [← HN.out.1]; exact hin
        have hp : Ps[i]? = some Ps[i] := List.getElem?_eq_getElem hpl
        obtain ⟨⟨p, x⟩, hpx⟩ : ∃ p, p = Ps[i] := ⟨_, rfl⟩
        rw [← hpx] at hp
        have hpid := HI.out _ (List.mem_of_getElem? hp)
        have hlt := rank_lt HU.out id hp
        have hcl := (HR.out.fr HF.out).at hp
        obtain ⟨c0, c1⟩ := hcl
        dsimp only at c0 c1 hpid
        have hhas : hs = decide (p = id) := by
          have ha := has_at HU.out id
          rw [← HN.out.2.1, ← HN.out.2.2, hp] at ha
          rw [Bool.eq_iff_iff, ha]
          simp
        have g0 : (0 : Int) ≤ (i : Int) := by omega
        have g1 : (i : Int) < (n : Int) := by omega
        have HP := Lib.hid (And.intro hpid hhas)
        clear hpid hhas hp hpx hpl h1 h2 h3 hlt
        go_wp2_with fail
        (with_reducible refine (cmpO_any _ _ _ _ HP.out.1 HID.out).mono ?_)
        rintro e w1 ⟨rfl, f1⟩
        have HF1 := Lib.hid (HF.out.trans f1 (by simp))
        clear f1
        by_cases hpi : p = id
        · rw [if_neg (by omega), if_neg (by omega)]
          have he : hs = true := by rw [HP.out.2]; exact decide_eq_true hpi
          go_wp2_with fail
          refine bodyPost_ret (v := .tuple #[.int .i64 i, .bool true]) (by simp [results, Tryd.results167, go_sem]) rfl ⟨by first | rfl | rw [he], HF1.out⟩
        · obtain ⟨y, hy⟩ : ∃ y, y = (if p < id then (-1 : Int) else if id < p then 1 else 0) := ⟨_, rfl⟩
          rw [← hy]
          have hy0 : ¬ y = 0 := by rw [hy]; (repeat' split) <;> omega
          have he : hs = false := by rw [HP.out.2]; exact decide_eq_false hpi
          clear hy
          go_wp2_with fail
          refine bodyPost_ret (v := .tuple #[.int .i64 i, .bool false]) (by simp [results, Tryd.results167, go_sem, hy0]) rfl ⟨by first | rfl | rw [he], HF1.out⟩
      · have he : hs = false := by
          have ha := has_at HU.out id
          rw [← HN.out.2.1, ← HN.out.2.2, List.getElem?_eq_none (by rw [← HN.out.1]; omega)] at ha
          cases hs with
          | false => rfl
          | true => obtain ⟨x, hx⟩ := ha.1 rfl; cases hx
        have g1 : ¬ (i : Int) < (n : Int) := by omega
        go_wp2_with fail
        refine bodyPost_ret (v := .tuple #[.int .i64 i, .bool false]) (by simp [results, Tryd.results167, go_sem]) rfl ⟨by first | rfl | rw [he], HF.out⟩
theorem findO_any (w : World) (b : Nat) (v : Value) (Ps : List (Int × (Nat))) (room id : Int) (h : TabO w b v Ps room) (hi : U32 id) :
    Calls Tryd.prog 155 #[.pointer (some ⟨b, 0, none⟩), .int .u32 id] w fun e w' => e = .returned (.tuple #[.int .i64 (rank Ps id), .bool (hasId Ps id)]) ∧ Fr [] w w' := by
  obtain ⟨g, cap, rfl, h1, h2, h3, h4⟩ := h.row
  have c1 := h.hd.at 1 (v := .slice (some ⟨g, 0, none⟩) Ps.length cap) rfl
  have HH := Lib.hid h
  have H4 := Lib.hid h4
  have hl : Ps.length ≤ 65536 := by have := h.lim; omega
  obtain ⟨r, hr'⟩ : ∃ r, r = rank Ps id := ⟨_, rfl⟩
  obtain ⟨hs, hhs⟩ : ∃ b, b = hasId Ps id := ⟨_, rfl⟩
  have C := Lib.hid (fun (W : World) (hW : RowO W g Ps) => hr'.symm ▸ hhs.symm ▸ bsfO_any W g cap Ps id HH.out.up HH.out.ids hi hl hW)
  rw [← hr', ← hhs]
  clear h h2 h3 h4 hr' hhs hl h1
  go_enter Tryd.func155, Tryd.ntmps155
  go_wp2_with fail
  (with_reducible refine (C.out _ H4.out).mono ?_)
  rintro e w1 ⟨rfl, f1⟩
  have HF := Lib.hid f1
  clear f1
  go_wp2_with fail
  refine bodyPost_ret (v := .tuple #[.int .i64 r, .bool hs]) (by simp [results, Tryd.results155, go_sem]) rfl ⟨rfl, HF.out⟩
end Go.Proofs.YtgoolkgjcmdilaaDoor
namespace Go.Proofs.YtgoolkgjcmdilaaDoor
open Go.RowKit
set_option linter.unusedVariables false
set_option linter.unusedSimpArgs false
attribute [local go_sem] Oper.semAt_some
theorem lenO_any (w : World) (b : Nat) (v : Value) (Ps : List (Int × (Nat))) (room : Int) (h : TabO w b v Ps room) : Calls Tryd.prog 138 #[.pointer (some ⟨b, 0, none⟩)] w fun e w' => e = .returned (.int .i64 Ps.length) ∧ w = w' := by
  have HH := Lib.hid h
  obtain ⟨g, cap, rfl, _, _, _, _⟩ := h.row
  have c1 := h.hd.at 1 (v := .slice (some ⟨g, 0, none⟩) Ps.length cap) rfl
  clear h
  go_enter Tryd.func138, Tryd.ntmps138
  go_wp2_with fail
  (with_reducible refine (liveO_any _ b _ Ps room HH.out).mono ?_)
  rintro e w1 ⟨rfl, rfl⟩
  go_wp2
  go_ret
  exact ⟨rfl, rfl⟩
theorem roomO_any (w : World) (b : Nat) (v : Value) (Ps : List (Int × (Nat))) (room : Int) (h : TabO w b v Ps room) : Calls Tryd.prog 156 #[.pointer (some ⟨b, 0, none⟩)] w fun e w' => e = .returned (.int .i64 room) ∧ w = w' := by
  have HH := Lib.hid h
  have c0 := h.hd.at 0 (v := .int .i64 room) rfl
  clear h
  go_enter Tryd.func156, Tryd.ntmps156
  go_wp2_with fail
  (with_reducible refine (liveO_any _ b _ Ps room HH.out).mono ?_)
  rintro e w1 ⟨rfl, rfl⟩
  go_wp2
  go_ret
  exact ⟨rfl, rfl⟩
set_option maxRecDepth 100000 in
theorem getO_yes (w : World) (b : Nat) (v : Value) (Ps : List (Int × (Nat))) (room id : Int) (x : Nat) (h : TabO w b v Ps room) (hi : U32 id) (hx : Ps[rank Ps id]? = some (id, x)) :
    Calls Tryd.prog 133 #[.pointer (some ⟨b, 0, none⟩), .int .u32 id] w fun e w' => e = .returned (.tuple #[.pointer (some ⟨x, 0, none⟩), .bool true]) ∧ Fr [] w w' := by
  have hL := findO_any _ b v Ps room id h hi
  have hh : hasId Ps id = true := (has_at h.up id).2 ⟨x, hx⟩
  rw [hh] at hL
  obtain ⟨r, hr⟩ : ∃ r, r = rank Ps id := ⟨_, rfl⟩
  rw [← hr] at hL hx
  have HL := Lib.hid hL
  have HH := Lib.hid h
  have HX := Lib.hid hx
  clear h hL hh hx hr hi
  go_enter Tryd.func133, Tryd.ntmps133
  go_wp2_with fail
  (with_reducible refine (liveO_any _ b _ Ps room HH.out).mono ?_)
  rintro e w1 ⟨rfl, rfl⟩
  go_wp2_with fail
  (with_reducible refine (HL.out).mono ?_)
  rintro e w1 ⟨rfl, f1⟩
  have h1 := HH.out.grow f1
  obtain ⟨g, cap, rfl, hc1, hc2, hc3, hr⟩ := h1.row
  have d1 := h1.hd.at 1 (v := .slice (some ⟨g, 0, none⟩) Ps.length cap) rfl
  obtain ⟨c0, c1⟩ := hr.at HX.out
  dsimp only at c0 c1
  have hrl := (List.getElem?_eq_some_iff.1 HX.out).1
  obtain ⟨n, hn⟩ : ∃ n, n = Ps.length := ⟨_, rfl⟩
  rw [← hn] at d1 hrl
  have g0 : (0 : Int) ≤ (r : Int) := by omega
  have g1 : (r : Int) < (n : Int) := by omega
  have HF := Lib.hid f1
  clear h1 hr hn hrl f1 hc1 hc2 hc3
  go_wp2_with fail
  refine bodyPost_ret (v := .tuple #[.pointer (some ⟨x, 0, none⟩), .bool true]) (by simp [results, Tryd.results133, go_sem]) rfl ⟨rfl, HF.out⟩
set_option maxRecDepth 100000 in
theorem getO_no (w : World) (b : Nat) (v : Value) (Ps : List (Int × (Nat))) (room id : Int) (h : TabO w b v Ps room) (hi : U32 id) (hh : hasId Ps id = false) :
    Calls Tryd.prog 133 #[.pointer (some ⟨b, 0, none⟩), .int .u32 id] w fun e w' => e = .returned (.tuple #[.pointer none, .bool false]) ∧ Fr [] w w' := by
  have hL := findO_any _ b v Ps room id h hi
  rw [hh] at hL
  have HL := Lib.hid hL
  have HH := Lib.hid h
  clear h hL hh hi
  go_enter Tryd.func133, Tryd.ntmps133
  go_wp2_with fail
  (with_reducible refine (liveO_any _ b _ Ps room HH.out).mono ?_)
  rintro e w1 ⟨rfl, rfl⟩
  go_wp2_with fail
  (with_reducible refine (HL.out).mono ?_)
  rintro e w1 ⟨rfl, f1⟩
  have HF := Lib.hid f1
  clear f1
  go_wp2_with fail
  refine bodyPost_ret (v := .tuple #[.pointer none, .bool false]) (by simp [results, Tryd.results133, go_sem]) rfl ⟨rfl, HF.out⟩
end Go.Proofs.YtgoolkgjcmdilaaDoor
namespace Go.Proofs.YtgoolkgjcmdilaaDoor
open Go.RowKit
set_option linter.unusedVariables false
set_option linter.unusedSimpArgs false
attribute [local go_sem] Oper.semAt_some
theorem infoO : (Tryd.prog.info? 218).map (fun i => (i.zero, i.size, i.bytes)) = some (some (.agg #[.int .u32 0, .pointer none]), 2, 16) := by kernel_rfl
theorem sizeO : (Tryd.prog.info? 218).map (·.size) = some 2 := by kernel_rfl
def oneO (p : Int) (x : Nat) : List Value := [.int .u32 p, .pointer (some ⟨x, 0, none⟩)]
theorem oneO_flat (p : Int) (x : Nat) : flat payO [(p, x)] = oneO p x := rfl
theorem oneO_one (p : Int) (x : Nat) : ∀ v ∈ oneO p x, v.oneCell' = true := by
  intro v hv
  rw [← oneO_flat] at hv
  exact flat_one wideO _ v hv
def InsOPost (w : World) (v : Value) (Ps : List (Int × (Nat))) (i : Nat) (p : Int) (x : Nat) (e : Ending) (w' : World) : Prop :=
  ∃ v', e = .returned v' ∧ w'.ownsRow 0 218 2 v' (Ps.length + 1) (flat payO (Ps.take i ++ (p, x) :: Ps.drop i)) ∧ v'.ownBlock ≠ none ∧ (v'.ownBlock = v.ownBlock ∨ ∃ g, v'.ownBlock = some g ∧ w.heap.size ≤ g) ∧ Fr v.ownBlock.toList w w'
theorem insO_flat (Ps : List (Int × (Nat))) (i : Nat) (p : Int) (x : Nat) : flat payO (Ps.take i ++ (p, x) :: Ps.drop i) = (flat payO Ps).take (i * 2) ++ oneO p x ++ (flat payO Ps).drop (i * 2) := by
  rw [flat_app, flat_cons, flat_take wideO, flat_drop wideO, List.append_assoc]
  rfl
set_option maxRecDepth 100000 in
set_option maxHeartbeats 4000000 in
/-- At the end. -/
theorem insO_end (w : World) (v : Value) (Ps : List (Int × (Nat))) (p : Int) (x : Nat) (bv : Nat) (h : w.ownsRow 0 218 2 v Ps.length (flat payO Ps)) (hl : Ps.length < 65536) (hv : Blk w bv (oneO p x).toArray 218) :
    Calls Tryd.prog 169 #[v, .int .i64 Ps.length, .slice (some ⟨bv, 0, none⟩) 1 1] w (InsOPost w v Ps Ps.length p x) := by
  have hvs : ∀ j u, (oneO p x)[j]? = some u → w.cell? ((⟨bv, 0, none⟩ : Addr).add j) = some u := fun j u hj => by
    rw [Addr.add_lit]
    have := hv.at j (v := u) (by simpa using hj)
    simpa using this
  have H := Lib.hid (And.intro h hvs)
  obtain ⟨xs, hxs⟩ : ∃ xs, xs = flat payO Ps := ⟨_, rfl⟩
  have hE : flat payO (Ps.take Ps.length ++ (p, x) :: Ps.drop Ps.length) = xs ++ oneO p x := by
    rw [insO_flat, List.take_of_length_le (by rw [flat_len wideO]; omega), List.drop_of_length_le (by rw [flat_len wideO]; omega), List.append_nil, hxs]
  rw [← hxs] at h
  have hn : v = .slice none 0 0 ∨ ∃ g cap, v = .slice (some ⟨g, 0, none⟩) Ps.length cap := by
    rcases h.2 with ⟨rfl, h0⟩ | ⟨g, cap, _, rfl, _⟩
    · exact .inl rfl
    · exact .inr ⟨g, cap, rfl⟩
  obtain ⟨n, hn'⟩ : ∃ n, n = Ps.length := ⟨_, rfl⟩
  have hn0 : v = .slice none 0 0 → n = 0 := fun e => by
    subst e
    rcases h.2 with ⟨_, h0⟩ | ⟨g, cap, _, e, _⟩
    · omega
    · cases e
  have HP := Lib.hid (show ∀ v' w', Appended w 218 2 v (n + 1) (xs ++ oneO p x) v' w' → InsOPost w v Ps n p x (.returned v') w' from fun v' w' ha => by
    refine ⟨v', rfl, ?_, ?_, ?_, ha.fr⟩
    · rw [hn', hE, ← hn']; exact ha.own
    · obtain ⟨g, c, e⟩ := own_succ ha.own
      rw [e]; simp [Value.ownBlock]
    · rcases ha.place with e | e
      · exact .inl e
      · exact .inr ⟨_, e, Nat.le_refl _⟩)
  rw [← hn'] at h hl hn ⊢
  have H2 := Lib.hid h
  clear h hv hvs hE hxs hn'
  have HO := Lib.hid (oneO_one p x)
  generalize hone : oneO p x = vs at *
  have hvl : vs.length = 2 := by rw [← hone]; rfl
  clear hone
  rcases hn with rfl | ⟨g, cap, rfl⟩
  · obtain rfl : n = 0 := hn0 rfl
    clear hn0
    go_enter Tryd.func169, Tryd.ntmps169
    go_wp2_with (at_builtin; go_must (refine wpList_app _ rfl _ _ 210 rfl 218 (.agg #[.int .u32 0, .pointer none]) 2 16 Tryd.underlying210 infoO rfl (by decide) _ 0 xs rfl H2.out ⟨bv, 0, none⟩ 1 1 vs rfl (by rw [hvl]) H.out.2 HO.out (by unfold maxLen; omega) (by omega) ?_); intro v1 w3 happ; have HAP := Lib.hid happ; clear happ)
    all_goals (go_ret; exact HP.out _ _ HAP.out)
  · clear hn0
    go_enter Tryd.func169, Tryd.ntmps169
    go_wp2_with (at_builtin; go_must (refine wpList_app _ rfl _ _ 210 rfl 218 (.agg #[.int .u32 0, .pointer none]) 2 16 Tryd.underlying210 infoO rfl (by decide) _ n xs rfl H2.out ⟨bv, 0, none⟩ 1 1 vs rfl (by rw [hvl]) H.out.2 HO.out (by unfold maxLen; omega) (by omega) ?_); intro v1 w3 happ; have HAP := Lib.hid happ; clear happ)
    all_goals (go_ret; exact HP.out _ _ HAP.out)
theorem ovlO_no (w : World) (bv g lb cb o : Nat) (p : Int) (x : Nat) (cur : Array Value) (hv : Blk w bv (oneO p x).toArray 218) (hg : Blk w g cur 218) (hne : bv ≠ g) (hc : cur.size ≠ 0) :
    (callFunc 172 #[.slice (some ⟨bv, 0, none⟩) 1 1, .slice (some ⟨g, o, none⟩) lb cb]).run Tryd.prog w = .ok (.value (.bool false)) w := by
  rw [run_callFunc_extern Tryd.func172 (by kernel_rfl) (by kernel_rfl) (by kernel_rfl) (e := Extern.SlicesOverlaps.overlaps #[210, 210] #[4]) (by kernel_rfl),
    Lib.run_overlaps_apart w 210 4 218 Tryd.underlying210 2 (fun w => by kernel_rfl) ⟨bv, 0, none⟩ ⟨g, o, none⟩ 1 1 lb cb hne 218 218 2 cur.size (by unfold World.shape?; rw [hv]; rfl) (by unfold World.shape?; rw [hg]) hc (hv.free 0) (hv.free 2)]
  rfl
set_option maxRecDepth 100000 in
set_option maxHeartbeats 4000000 in
/-- In the midst, in place. -/
theorem insO_room (w : World) (g cap : Nat) (cur : Array Value) (Ps : List (Int × (Nat))) (i : Nat) (p : Int) (x : Nat) (bv : Nat) (hg : Blk w g cur 218) (hm : cap ≤ maxLen) (hcs : cur.size = cap * 2) (htake : cur.toList.take (Ps.length * 2) = flat payO Ps)
    (hi : i < Ps.length) (hnc : Ps.length < cap) (hl : Ps.length < 65536) (hv : Blk w bv (oneO p x).toArray 218) (hne : bv ≠ g) :
    Calls Tryd.prog 169 #[.slice (some ⟨g, 0, none⟩) Ps.length cap, .int .i64 i, .slice (some ⟨bv, 0, none⟩) 1 1] w (InsOPost w (.slice (some ⟨g, 0, none⟩) Ps.length cap) Ps i p x) := by
  obtain ⟨xs, hxs⟩ : ∃ xs, xs = flat payO Ps := ⟨_, rfl⟩
  have hxl : xs.length = Ps.length * 2 := by rw [hxs]; exact flat_len wideO Ps
  have hE := insO_flat Ps i p x
  rw [← hxs] at hE htake
  obtain ⟨n, hn⟩ : ∃ n, n = Ps.length := ⟨_, rfl⟩
  obtain ⟨vs, hvs⟩ : ∃ vs, vs = oneO p x := ⟨_, rfl⟩
  have hvl : vs.length = 2 := by rw [hvs]; rfl
  have hvo : ∀ v ∈ vs, v.oneCell' = true := by rw [hvs]; exact oneO_one p x
  have hxo : ∀ v ∈ xs.drop (i * 2), v.oneCell' = true := fun v hv => flat_one wideO Ps v (hxs ▸ List.mem_of_mem_drop hv)
  rw [← hn] at hi hnc hl hxl htake ⊢
  have htk : cur.toList.take xs.length = xs := by rw [hxl]; exact htake
  have hcl : cur.toList.length = cap * 2 := by simpa using hcs
  have hfit : xs.length + 2 ≤ cur.toList.length := by rw [hxl, hcl]; omega
  have hpl : i * 2 ≤ xs.length := by rw [hxl]; omega
  have hov := fun lb cb o => ovlO_no w bv g lb cb o p x cur hv hg hne (by rw [hcs]; omega)
  have hc63 : cap ≤ 9223372036854775807 := by unfold maxLen at hm; omega
  have hsrc1 : ∀ j u, (xs.drop (i * 2))[j]? = some u → w.drew.cell? ((⟨g, i * 2, none⟩ : Addr).add j) = some u := fun j u hj => by
    rw [Addr.add_lit]
    rw [List.getElem?_drop] at hj
    have hj2 : cur.toList[i * 2 + j]? = some u := by
      rw [← htk, List.getElem?_take] at hj
      split at hj
      · exact hj
      · cases hj
    exact hg.at (i * 2 + j) (by simpa using hj2)
  have hmn : Nat.min (n + 1 - i) (n - i) = n - i := by simp only [Nat.min_def]; split <;> omega
  have hmn2 : Nat.min 1 (n + 1 - i) = 1 := by simp only [Nat.min_def]; split <;> omega
  have hcp1 : ∀ ty dc sc, (Builtin.copy_ #[210, 210] ty #[.slice (some ⟨g, i * 2 + 2, none⟩) (n - i) dc, .slice (some ⟨g, i * 2, none⟩) (n + 1 - i) sc]).run Tryd.prog w.drew = .ok (goInt ((n - i : Nat) : Int)) (w.drew.setRow g (up1 cur.toList xs (i * 2) 2).toArray) := fun ty dc sc => by
    have h := run_copy_k w.drew 210 210 ty 218 2 g (i * 2 + 2) (n - i) dc ⟨g, i * 2, none⟩ (n + 1 - i) sc cur 218 (xs.drop (i * 2)) Tryd.underlying210 sizeO hg
      (by rw [List.length_drop, hxl, hmn]; omega) hsrc1 (by rw [List.length_drop, hxl, hcs]; omega) hxo
    rw [hmn] at h
    exact h
  obtain ⟨W1, hW1⟩ : ∃ W1, W1 = w.drew.setRow g (up1 cur.toList xs (i * 2) 2).toArray := ⟨_, rfl⟩
  have hg1 : Blk W1 g (up1 cur.toList xs (i * 2) 2).toArray 218 := by rw [hW1]; exact setRow_heap w.drew g cur _ 218 _ hg
  have hv1 : Blk W1 bv vs.toArray 218 := by rw [hW1, hvs]; exact (setRow_other w.drew g bv _ hne).trans hv
  have hcp2 : ∀ ty dc, (Builtin.copy_ #[210, 210] ty #[.slice (some ⟨g, i * 2, none⟩) (n + 1 - i) dc, .slice (some ⟨bv, 0, none⟩) 1 1]).run Tryd.prog W1 = .ok (goInt (1 : Nat)) (W1.setRow g (up2 cur.toList xs vs (i * 2) 2).toArray) := fun ty dc => by
    have h := run_copy_k W1 210 210 ty 218 2 g (i * 2) (n + 1 - i) dc ⟨bv, 0, none⟩ 1 1 _ 218 vs Tryd.underlying210 sizeO hg1
      (by rw [hmn2, hvl]) (fun j u hj => by rw [Addr.add_lit]; exact hv1.at (0 + j) (by simpa using hj)) (by have := up1_len (K := 2) hpl hfit; rw [hcl] at this; rw [List.size_toArray, this, hvl]; omega) hvo
    rw [hmn2] at h
    simpa [up2] using h
  have HW := Lib.hid (And.intro hW1 (And.intro hg1 hv1))
  rw [← hW1] at hcp1
  have HC1 := Lib.hid hcp1
  have HC2 := Lib.hid hcp2
  have HOV := Lib.hid hov
  have hz2 : ¬ ((i : Int) = (n : Int)) := by omega
  have hb1 : (0 : Int) ≤ (i : Int) + 1 := by omega
  have hin : i ≤ n := by omega
  have hb2 : ¬ (cap = i + 1) := by omega
  have hb3 : (i : Int) ≤ (n : Int) + 1 := by omega
  have hb4 : ¬ (cap = i) := by omega
  have hb5 : ¬ (cap : Int) < (n : Int) + 1 := by omega
  have mixed : Tryd.prog.follows Departure.mixedOrders = true := by kernel_rfl
  have hw1 : IntKind.i64.wrap ((i : Int) + 1) = (i : Int) + 1 := wr (by omega)
  have htn : ((i : Int) + 1).toNat = i + 1 := by omega
  have hb6 : (i : Int) + 1 ≤ (n : Int) + 1 := by omega
  have HALL := Lib.hid (And.intro hE (And.intro hn (And.intro htk (And.intro hfit (And.intro hpl (And.intro hvl (And.intro hvs (And.intro hxl (And.intro hcl (And.intro hg hm))))))))))
  clear hE hn htk hfit hpl hvl hvs hxl hcl hg hm hvo hxo hsrc1 hv hg1 hv1 hcp1 hcp2 hW1 hmn hmn2 htake hcs hxs
  go_enter Tryd.func169, Tryd.ntmps169
  go_wp2_with (simp only [HOV.out])
  go_region_law_o (refine step_copyR rfl _ _ 210 210 rfl (.slice (some ⟨g, i * 2 + 2, none⟩) (n - i) (cap - (i + 1))) (.slice (some ⟨g, i * 2, none⟩) (n + 1 - i) (cap - i)) (by simp [Act.eval, Act.put]) (by simp [Act.eval, Act.put]) (HC1.out 3 (cap - (i + 1)) (cap - i)) ?_)
  go_wp2_with (refine wpList_copyR _ rfl _ _ 210 210 rfl (.slice (some ⟨g, i * 2, none⟩) (n + 1 - i) (cap - i)) (.slice (some ⟨bv, 0, none⟩) 1 1) rfl rfl (HC2.out 3 (cap - i)) ?_)
  go_ret
  obtain ⟨hE, hn, htk, hfit, hpl, hvl, hvs, hxl, hcl, hg, hm⟩ := HALL.out
  obtain ⟨hW1, hg1, hv1⟩ := HW.out
  refine ⟨.slice (some ⟨g, 0, none⟩) (n + 1) cap, rfl, ⟨?_, .inr ⟨g, cap, _, by rw [← hn], Nat.zero_le _, setRow_heap W1 g _ _ 218 _ hg1, by omega, hm, ?_, ?_⟩⟩, by simp [Value.ownBlock], .inl rfl, ?_⟩
  · rw [flat_len wideO]
    simp; omega
  · rw [List.size_toArray, up2_len hpl hfit hvl, hcl]
  · have := up2_take hpl htk hfit hvl
    rw [hE, ← hvs, ← this, hxl, ← hn]
    rw [show (n + 1) * 2 = n * 2 + 2 by omega]
  · rw [hW1]
    exact (((Fr.refl _ w).drew).setRow g _ (.inl (by simp [Value.ownBlock]))).setRow g _ (.inl (by simp [Value.ownBlock]))
set_option maxRecDepth 100000 in
set_option maxHeartbeats 4000000 in
/-- In the midst, no room. -/
theorem insO_grow (w : World) (g cap : Nat) (Ps : List (Int × (Nat))) (i : Nat) (p : Int) (x : Nat) (bv : Nat) (h : w.ownsRow 0 218 2 (.slice (some ⟨g, 0, none⟩) Ps.length cap) Ps.length (flat payO Ps))
    (hi : i < Ps.length) (hnc : cap = Ps.length) (hl : Ps.length < 65536) (hv : Blk w bv (oneO p x).toArray 218) :
    Calls Tryd.prog 169 #[.slice (some ⟨g, 0, none⟩) Ps.length cap, .int .i64 i, .slice (some ⟨bv, 0, none⟩) 1 1] w (InsOPost w (.slice (some ⟨g, 0, none⟩) Ps.length cap) Ps i p x) := by
  have hcells : ∀ j u, (flat payO Ps)[j]? = some u → w.cell? ⟨g, j, none⟩ = some u := fun j u hu => by
    have := h.cells (g := g) rfl j u hu
    rw [Addr.add_lit] at this
    simpa using this
  have hgw : g < w.heap.size := own_lt h rfl
  obtain ⟨xs, hxs⟩ : ∃ xs, xs = flat payO Ps := ⟨_, rfl⟩
  have hxl : xs.length = Ps.length * 2 := by rw [hxs]; exact flat_len wideO Ps
  have hE := insO_flat Ps i p x
  rw [← hxs] at hE hcells
  obtain ⟨n, hn⟩ : ∃ n, n = Ps.length := ⟨_, rfl⟩
  obtain ⟨vs, hvs⟩ : ∃ vs, vs = oneO p x := ⟨_, rfl⟩
  have hvl : vs.length = 2 := by rw [hvs]; rfl
  have hvo : ∀ v ∈ vs, v.oneCell' = true := by rw [hvs]; exact oneO_one p x
  have hxo : ∀ v ∈ xs.drop (i * 2), v.oneCell' = true := fun v hv => flat_one wideO Ps v (hxs ▸ List.mem_of_mem_drop hv)
  rw [← hn] at hi hnc hl hxl ⊢
  subst hnc
  have hpl : i * 2 ≤ xs.length := by rw [hxl]; omega
  obtain ⟨i0, hi0, hz0, hzs, hzb⟩ := info_parts infoO
  have hold : (Builtin.firstCells i0.size i (.slice (some ⟨g, 0, none⟩) i cap)).run Tryd.prog w.drew = .ok (xs.take (i * 2)).toArray w.drew := by
    rw [hzs]
    exact run_firstCells_some w.drew 2 i ⟨g, 0, none⟩ i cap (xs.take (i * 2)) (by rw [List.length_take]; omega) (fun j v hj => by
      rw [Addr.add_lit]
      rw [List.getElem?_take] at hj
      split at hj
      · have := hcells j v hj
        simpa using this
      · cases hj)
  obtain ⟨G, hG⟩ : ∃ G, G = grownCap w (cap + 1) cap 218 := ⟨_, rfl⟩
  have hGn : cap + 1 ≤ G := by rw [hG]; exact grownCap_ge w _ _ _
  have hGm : G ≤ maxLen := by rw [hG]; exact grownCap_le_maxLen w _ _ _ (by unfold maxLen; omega)
  have hG63 : G ≤ 9223372036854775807 := by unfold maxLen at hGm; omega
  obtain ⟨zs, hzs'⟩ : ∃ zs, zs = (Builtin.zeroCells (.agg #[.int .u32 0, .pointer none] : Value).cells (cap + 1 - i)).toList ++ (Builtin.zeroCells (.agg #[.int .u32 0, .pointer none] : Value).cells (G - (cap + 1))).toList := ⟨_, rfl⟩
  have hzl : zs.length = (cap + 1 - i) * 2 + (G - (cap + 1)) * 2 := by rw [hzs']; simp [Builtin.zeroCells, Value.cells]
  have hrz : ∀ ty, (Builtin.append_ #[210, 3] ty #[.slice (some ⟨g, 0, none⟩) i cap, .int .i64 ((cap : Int) + 1 - (i : Int))]).run Tryd.prog w = .ok (.slice (some ⟨w.heap.size, 0, none⟩) (cap + 1) G) (w.drew.alloc (.cells (xs.take (i * 2) ++ zs).toArray 218)) := fun ty => by
    have hq := Lib.run_append_grow_zeros w 210 3 ty 218 i0 _ .i64 .i64 Tryd.underlying210 Tryd.underlying3 hi0 hz0 (some ⟨g, 0, none⟩) i cap (xs.take (i * 2)) hold (cap + 1 - i) (by omega) (by rw [hzs]; omega) (by omega) (by omega) (by rw [hzb]; omega)
      (by rw [hzb, show i + (cap + 1 - i) = cap + 1 by omega]; exact growslice_fits (by omega) (by omega))
    rw [show i + (cap + 1 - i) = cap + 1 by omega, ← hG] at hq
    rw [show (cap : Int) + 1 - (i : Int) = ((cap + 1 - i : Nat) : Int) by omega, hq, hzs']
    have ha : (xs.take (i * 2)).toArray ++ Builtin.zeroCells (.agg #[.int .u32 0, .pointer none] : Value).cells (cap + 1 - i) ++ Builtin.zeroCells (.agg #[.int .u32 0, .pointer none] : Value).cells (G - (cap + 1)) = (xs.take (i * 2) ++ ((Builtin.zeroCells (.agg #[.int .u32 0, .pointer none] : Value).cells (cap + 1 - i)).toList ++ (Builtin.zeroCells (.agg #[.int .u32 0, .pointer none] : Value).cells (G - (cap + 1))).toList)).toArray := by
      apply Array.ext'
      simp [List.append_assoc]
    rw [ha]
  obtain ⟨W1, hW1⟩ : ∃ W1, W1 = w.drew.alloc (.cells (xs.take (i * 2) ++ zs).toArray 218) := ⟨_, rfl⟩
  rw [← hW1] at hrz
  obtain ⟨g', hg'⟩ : ∃ g', g' = w.heap.size := ⟨_, rfl⟩
  rw [← hg'] at hrz
  have hB1 : Blk W1 g' (xs.take (i * 2) ++ zs).toArray 218 := by rw [hW1, hg']; exact Blk.new w.drew _ _
  have hvB : Blk W1 bv vs.toArray 218 := by rw [hW1, hvs]; exact Blk.alloc (w := w.drew) hv _
  have hbv : bv ≠ g' := by have := hv.lt; omega
  have hgg : g ≠ g' := by omega
  have hmn : Nat.min 1 (cap + 1 - i) = 1 := by simp only [Nat.min_def]; split <;> omega
  have hmn2 : Nat.min (cap - i) (cap - i) = cap - i := by simp only [Nat.min_def]; split <;> omega
  have hcp1 : ∀ ty dc, (Builtin.copy_ #[210, 210] ty #[.slice (some ⟨g', i * 2, none⟩) (cap + 1 - i) dc, .slice (some ⟨bv, 0, none⟩) 1 1]).run Tryd.prog W1 = .ok (goInt ((1 : Nat) : Int)) (W1.setRow g' (new1 xs vs zs (i * 2)).toArray) := fun ty dc => by
    have hq := run_copy_k W1 210 210 ty 218 2 g' (i * 2) (cap + 1 - i) dc ⟨bv, 0, none⟩ 1 1 _ 218 vs Tryd.underlying210 sizeO hB1
      (by rw [hmn, hvl]) (fun j u hj => by rw [Addr.add_lit]; exact hvB.at (0 + j) (by simpa using hj)) (by rw [List.size_toArray, List.length_append, List.length_take, hzl, hvl]; omega) hvo
    rw [hmn] at hq
    simpa [new1] using hq
  obtain ⟨W2, hW2⟩ : ∃ W2, W2 = W1.setRow g' (new1 xs vs zs (i * 2)).toArray := ⟨_, rfl⟩
  rw [← hW2] at hcp1
  have hB2 : Blk W2 g' (new1 xs vs zs (i * 2)).toArray 218 := by rw [hW2]; exact setRow_heap W1 g' _ _ 218 _ hB1
  have hnl : (xs.drop (i * 2)).length + vs.length ≤ zs.length := by rw [List.length_drop, hzl, hvl, hxl]; omega
  have hcp2 : ∀ ty dc sc, (Builtin.copy_ #[210, 210] ty #[.slice (some ⟨g', i * 2 + 2, none⟩) (cap - i) dc, .slice (some ⟨g, i * 2, none⟩) (cap - i) sc]).run Tryd.prog W2.drew = .ok (goInt ((cap - i : Nat) : Int)) (W2.drew.setRow g' (new2 xs vs zs (i * 2)).toArray) := fun ty dc sc => by
    have hq := run_copy_k W2.drew 210 210 ty 218 2 g' (i * 2 + 2) (cap - i) dc ⟨g, i * 2, none⟩ (cap - i) sc _ 218 (xs.drop (i * 2)) Tryd.underlying210 sizeO hB2
      (by rw [List.length_drop, hxl, hmn2]; omega) (fun j u hj => by
        rw [Addr.add_lit]
        rw [List.getElem?_drop] at hj
        have e : W2.drew.cell? ⟨g, i * 2 + j, none⟩ = w.cell? ⟨g, i * 2 + j, none⟩ := by
          refine World.cell?_of_block ?_
          show W2.heap[g]? = w.heap[g]?
          rw [hW2, setRow_other W1 g' g _ hgg, hW1]
          exact heap_alloc_old w.drew _ hgw
        rw [e]
        exact hcells _ _ hj) (by rw [List.size_toArray, new1_len hpl hnl, List.length_drop, hzl, hxl]; omega) hxo
    rw [hmn2] at hq
    simpa [new2, hvl] using hq
  have HR := Lib.hid hrz
  have HC1 := Lib.hid hcp1
  have HC2 := Lib.hid hcp2
  have HALL := Lib.hid (And.intro hE (And.intro hn (And.intro hpl (And.intro hnl (And.intro hvl (And.intro hvs (And.intro hxl (And.intro hzl (And.intro hGm (And.intro hW1 (And.intro hW2 (And.intro hB2 hg'))))))))))))
  have hz2 : ¬ ((i : Int) = (cap : Int)) := by omega
  have hz3 : (cap : Int) < (cap : Int) + 1 := by omega
  have hb1 : (0 : Int) ≤ (i : Int) + 1 := by omega
  have hin : i ≤ cap := by omega
  have hGi : ¬ (G = i) := by omega
  have hGim : ¬ (G = i + 1) := by omega
  have hci : ¬ (cap = i) := by omega
  have mixed : Tryd.prog.follows Departure.mixedOrders = true := by kernel_rfl
  have hw1 : IntKind.i64.wrap ((i : Int) + 1) = (i : Int) + 1 := wr (by omega)
  have htn : ((i : Int) + 1).toNat = i + 1 := by omega
  have hb6 : (i : Int) + 1 ≤ (cap : Int) + 1 := by omega
  have hb3 : (i : Int) ≤ (cap : Int) + 1 := by omega
  clear hE hn hpl hnl hvl hvs hxl hzl hGm hW1 hW2 hB2 hB1 hvB hv hvo hxo h hcells hxs hrz hcp1 hcp2 hold hi0 hz0 hzs hzb hG hzs' hmn hmn2 hgw hbv hgg hg'
  go_enter Tryd.func169, Tryd.ntmps169
  go_wp2_with (first
    | (at_builtin; go_must (refine wpList_appR _ rfl _ _ 210 3 rfl (.slice (some ⟨g, 0, none⟩) i cap) (.int .i64 ((cap : Int) + 1 - (i : Int))) rfl rfl (HR.out _) ?_))
    | (refine wpList_copyR _ rfl _ _ 210 210 rfl (.slice (some ⟨g', i * 2, none⟩) (cap + 1 - i) (G - i)) (.slice (some ⟨bv, 0, none⟩) 1 1) rfl rfl (HC1.out 3 (G - i)) ?_))
  go_region_law_o (refine step_copyR rfl _ _ 210 210 rfl (.slice (some ⟨g', i * 2 + 2, none⟩) (cap - i) (G - (i + 1))) (.slice (some ⟨g, i * 2, none⟩) (cap - i) (cap - i)) (by simp [Act.eval, Act.put]) (by simp [Act.eval, Act.put]) (HC2.out 3 (G - (i + 1)) (cap - i)) ?_)
  go_wp2
  go_ret
  obtain ⟨hE, hn, hpl, hnl, hvl, hvs, hxl, hzl, hGm, hW1, hW2, hB2, hg'⟩ := HALL.out
  refine ⟨.slice (some ⟨g', 0, none⟩) (cap + 1) G, rfl, ⟨?_, .inr ⟨g', G, _, by rw [← hn], Nat.zero_le _, setRow_heap W2.drew g' _ _ 218 _ hB2, by omega, hGm, ?_, ?_⟩⟩, by simp [Value.ownBlock], .inr ⟨g', rfl, by omega⟩, ?_⟩
  · rw [flat_len wideO]
    simp; omega
  · rw [List.size_toArray, new2_len hpl hnl, hzl]
    omega
  · have := new2_take hpl hnl
    rw [hE, ← hvs, ← this, hxl, hvl, ← hn, show (cap + 1) * 2 = cap * 2 + 2 by omega]
  · rw [hW2, hW1]
    exact ((((((Fr.refl _ w).drew).alloc _).setRow g' _ (.inr (by omega))).drew).setRow g' _ (.inr (by omega)))
theorem insO_any (w : World) (v : Value) (Ps : List (Int × (Nat))) (i : Nat) (p : Int) (x : Nat) (bv : Nat) (h : w.ownsRow 0 218 2 v Ps.length (flat payO Ps)) (nn : v.ownBlock ≠ none) (hi : i ≤ Ps.length) (hl : Ps.length < 65536)
    (hv : Blk w bv (oneO p x).toArray 218) (hne : v.ownBlock ≠ some bv) :
    Calls Tryd.prog 169 #[v, .int .i64 i, .slice (some ⟨bv, 0, none⟩) 1 1] w (InsOPost w v Ps i p x) := by
  rcases Nat.lt_or_ge i Ps.length with hlt | hge
  · rcases h.2 with ⟨rfl, _⟩ | ⟨g, cap, cur, rfl, _, hg, hnc, hm, hcs, htake⟩
    · exact absurd rfl nn
    · rcases Nat.lt_or_ge Ps.length cap with hc | hc
      · exact insO_room w g cap cur Ps i p x bv hg hm hcs htake hlt hc hl hv (fun e => hne (by rw [e]; rfl))
      · exact insO_grow w g cap Ps i p x bv h hlt (by omega) hl hv
  · obtain rfl : i = Ps.length := by omega
    exact insO_end w v Ps p x bv h hl hv
end Go.Proofs.YtgoolkgjcmdilaaDoor
namespace Go.Proofs.YtgoolkgjcmdilaaDoor
open Go.RowKit
set_option linter.unusedVariables false
set_option linter.unusedSimpArgs false
attribute [local go_sem] Oper.semAt_some
theorem tabO_ins {W : World} {b : Nat} {v0 v' : Value} {Ps : List (Int × (Nat))} {room id : Int} {x : Nat} (hb : Blk W b #[.int .i64 room, v0] 212)
    (ho : W.ownsRow 0 218 2 v' (Ps.length + 1) (flat payO (insAt Ps id x))) (hnn : v'.ownBlock ≠ none) (hne : ∀ g, v'.ownBlock = some g → g ≠ b) (hu : Up Ps) (hids : ∀ p ∈ Ps, U32 p.1) (hi : U32 id) (hh : hasId Ps id = false) (hl : (Ps.length : Int) < room) (h6 : room ≤ 65536) :
    TabO (W.setCell ⟨b, 1, none⟩ v') b v' (insAt Ps id x) room := by
  have hlen : (insAt Ps id x).length = Ps.length + 1 := by
    have := rank_le Ps id
    simp [insAt]; omega
  refine ⟨hb.set 1 v', ?_, hnn, up_ins hu x hh, fun p hp => ?_, by rw [hlen]; omega⟩
  · rw [hlen]
    exact own_fr ho ((Fr.refl [b] W).setCell _ _ (.inl (by simp))) (fun g e => by have := hne g e; simp; exact this)
  · unfold insAt at hp
    rcases List.mem_append.1 hp with hp | hp
    · exact hids p (List.mem_of_mem_take hp)
    · rcases List.mem_cons.1 hp with rfl | hp
      · exact hi
      · exact hids p (List.mem_of_mem_drop hp)
def PutOPost (w : World) (b : Nat) (v : Value) (Qs : List (Int × (Nat))) (room : Int) (a : Value) (e : Ending) (w' : World) : Prop :=
  e = .returned (.tuple #[a, .int .i64 0]) ∧ ∃ v', TabO w' b v' Qs room ∧ (v'.ownBlock = v.ownBlock ∨ ∃ g, v'.ownBlock = some g ∧ w.heap.size ≤ g) ∧ Fr (b :: v.ownBlock.toList) w w'
set_option maxRecDepth 100000 in
set_option maxHeartbeats 1000000 in
theorem putO_new (w : World) (b : Nat) (v : Value) (Ps : List (Int × (Nat))) (room id : Int) (x : Nat) (h : TabO w b v Ps room) (hi : U32 id) (hh : hasId Ps id = false) (hlen : ¬ room ≤ (Ps.length : Int)) :
    Calls Tryd.prog 158 #[.pointer (some ⟨b, 0, none⟩), .int .u32 id, .pointer (some ⟨x, 0, none⟩)] w (PutOPost w b v (insAt Ps id x) room (.pointer none)) := by
  have hL := findO_any _ b v Ps room id h hi
  obtain ⟨r, hr⟩ : ∃ r, r = rank Ps id := ⟨_, rfl⟩
  have HI := Lib.hid (And.intro hi hh)
  rw [hh] at hL
  rw [← hr] at hL
  have HR := Lib.hid hr
  have HL := Lib.hid hL
  have HH := Lib.hid h
  clear h hL hr hi hh
  go_enter Tryd.func158, Tryd.ntmps158
  go_wp2_with fail
  (with_reducible refine (liveO_any _ b _ Ps room HH.out).mono ?_)
  rintro e w1 ⟨rfl, rfl⟩
  go_wp2_with fail
  (with_reducible refine (HL.out).mono ?_)
  rintro e w1 ⟨rfl, f1⟩
  have h1 := HH.out.grow f1
  obtain ⟨g, cap, rfl, hc1, hc2, hc3, hrw⟩ := h1.row
  have d0 := h1.hd.at 0 (v := .int .i64 room) rfl
  have d1 := h1.hd.at 1 (v := .slice (some ⟨g, 0, none⟩) Ps.length cap) rfl
  obtain ⟨n, hn⟩ : ∃ n, n = Ps.length := ⟨_, rfl⟩
  rw [← hn] at d1 hlen
  have hrn : r ≤ n := by rw [HR.out, hn]; exact rank_le _ _
  have hl6 : n < 65536 := by have := h1.lim; rw [← hn] at this; omega
  have hgb : g ≠ b := fun e => h1.notin (by simp [Value.ownBlock, e])
  have fb := h1.hd.free 1
  have HG := Lib.hid (And.intro f1 (And.intro h1 (And.intro hn (And.intro hgb (And.intro hrn (And.intro hl6 hc3))))))
  have f2 : Fr [] w1 (w1.alloc (.cells #[.int .u32 id, .pointer (some ⟨x, 0, none⟩)] 218)).drew := ((Fr.refl _ _).alloc _).drew
  have hI := insO_any (w1.alloc (.cells #[.int .u32 id, .pointer (some ⟨x, 0, none⟩)] 218)).drew (.slice (some ⟨g, 0, none⟩) Ps.length cap) Ps r id x w1.heap.size (h1.grow f2).own h1.nn (by rw [← hn]; exact hrn) (by rw [← hn]; exact hl6) (Blk.new w1 _ _) (by simp [Value.ownBlock]; omega)
  rw [← hn] at hI
  have HINS := Lib.hid hI
  have HW2 := Lib.hid f2
  clear h1 hrw hn f1 hc1 hc2 hc3 hrn hl6 hgb hI f2
  go_wp2_with fail
  go_region
  simp only [Exit.then]
  go_wp2_with fail
  (with_reducible refine (HINS.out).mono ?_)
  intro e w5 hip
  obtain ⟨v', rfl, ho, hnn, hpl, hf⟩ := hip
  obtain ⟨hf1, h1, hn, hgb, hrn, hl6, hgw⟩ := HG.out
  have hb5 := hf.blk (HW2.out.blk h1.hd (by simp)) (by simp [Value.ownBlock]; exact fun e => hgb e.symm)
  obtain ⟨gq, cpq, rfl⟩ := own_succ ho
  have c5 := hb5.at 1 (v := .slice (some ⟨g, 0, none⟩) Ps.length cap) rfl
  have e5 := hb5.free 1
  have HQ := Lib.hid (And.intro ho (And.intro hnn (And.intro hpl (And.intro hf hb5))))
  clear ho hnn hpl hf hb5 hf1 h1 hn hgb hrn hl6 hgw d0 d1 fb
  go_wp2_with fail
  refine bodyPost_ret (v := .tuple #[.pointer none, .int .i64 0]) (by simp [results, Tryd.results158, go_sem]) rfl ?_
  obtain ⟨ho, hnn, hpl, hf, hb5⟩ := HQ.out
  obtain ⟨hf1, h1, hn, hgb, hrn, hl6, hgw⟩ := HG.out
  have hsz : w1.heap.size ≤ (w1.alloc (.cells #[.int .u32 id, .pointer (some ⟨x, 0, none⟩)] 218)).drew.heap.size := HW2.out.size
  have hbw := h1.hd.lt
  have hins : flat payO (Ps.take r ++ (id, x) :: Ps.drop r) = flat payO (insAt Ps id x) := by unfold insAt; rw [← HR.out]
  rw [hins] at ho
  refine ⟨rfl, _, tabO_ins hb5 ho hnn (fun g2 e => ?_) h1.up h1.ids HI.out.1 HI.out.2 (by rw [← hn]; omega) h1.lim.2, ?_, ?_⟩
  · rcases hpl with q | ⟨g', q, hge⟩
    · rw [q] at e; simp [Value.ownBlock] at e; subst e; exact hgb
    · rw [q] at e; cases e; omega
  · rcases hpl with q | ⟨g', q, hge⟩
    · exact .inl q
    · exact .inr ⟨g', q, Nat.le_trans hf1.size (Nat.le_trans hsz hge)⟩
  · have hw2 := (hf1.trans HW2.out (by simp)).mono (T := [b, g]) (by simp)
    exact (hw2.trans hf (fun y hy => .inl (by simp [Value.ownBlock] at hy; simp [hy]))).setCell _ _ (.inl (by simp))
end Go.Proofs.YtgoolkgjcmdilaaDoor
namespace Go.Proofs.YtgoolkgjcmdilaaDoor
open Go.RowKit
set_option linter.unusedVariables false
set_option linter.unusedSimpArgs false
attribute [local go_sem] Oper.semAt_some
theorem delO_flat (Ps : List (Int × (Nat))) (i : Nat) : flat payO (Ps.eraseIdx i) = (flat payO Ps).take (i * 2) ++ (flat payO Ps).drop (i * 2 + 2) := by
  rw [List.eraseIdx_eq_take_drop_succ, flat_app, ← flat_take wideO, ← flat_drop wideO, show (i + 1) * (1 + 1) = i * 2 + 2 by omega]
theorem zeroO : ∀ w, (zeroValue 218).run Tryd.prog w = .ok (.agg #[.int .u32 0, .pointer none]) w := fun w => by kernel_rfl
set_option maxRecDepth 100000 in
set_option maxHeartbeats 4000000 in
theorem deleO_any (w : World) (g cap m : Nat) (cur : Array Value) (Ps : List (Int × (Nat))) (i : Nat) (hg : Blk w g cur 218) (hm : cap ≤ maxLen) (hcs : cur.size = cap * 2) (hn : Ps.length = m + 1) (htake : cur.toList.take (Ps.length * 2) = flat payO Ps)
    (hi : i < m + 1) (hnc : m + 1 ≤ cap) (hl : m < 65536) :
    Calls Tryd.prog 162 #[.slice (some ⟨g, 0, none⟩) (m + 1) cap, .int .i64 (i : Nat), .int .i64 ((i : Int) + 1)] w fun e w' =>
      e = .returned (.slice (some ⟨g, 0, none⟩) m cap) ∧ w'.ownsRow 0 218 2 (.slice (some ⟨g, 0, none⟩) m cap) m (flat payO (Ps.eraseIdx i)) ∧ Fr [g] w w' := by
  obtain ⟨xs, hxs⟩ : ∃ xs, xs = flat payO Ps := ⟨_, rfl⟩
  have hxl : xs.length = (m + 1) * 2 := by rw [hxs, ← hn]; exact flat_len wideO Ps
  have hE := delO_flat Ps i
  have hEl : (flat payO (Ps.eraseIdx i)).length = m * 2 := by rw [flat_len wideO, List.length_eraseIdx_of_lt (by omega), hn]; rfl
  rw [← hxs] at hE htake
  rw [hn] at htake
  have hxo : ∀ v ∈ xs.drop (i * 2 + 2), v.oneCell' = true := fun v hv => flat_one wideO Ps v (hxs ▸ List.mem_of_mem_drop hv)
  have htk : cur.toList.take xs.length = xs := by rw [hxl]; exact htake
  have hcl : cur.toList.length = cap * 2 := by simpa using hcs
  have hfit : xs.length ≤ cur.toList.length := by rw [hxl, hcl]; omega
  have hpq : i * 2 ≤ i * 2 + 2 := by omega
  have hql : i * 2 + 2 ≤ xs.length := by rw [hxl]; omega
  have hdl : (xs.drop (i * 2 + 2)).length = (m - i) * 2 := by rw [List.length_drop, hxl]; omega
  have hpm : i * 2 + (xs.drop (i * 2 + 2)).length = m * 2 := by rw [hdl]; omega
  obtain ⟨i0, hi0, hz0, hzs, hzb⟩ := info_parts infoO
  have hsrc : ∀ j u, (xs.drop (i * 2 + 2))[j]? = some u → w.drew.cell? ((⟨g, i * 2 + 2, none⟩ : Addr).add j) = some u := fun j u hj => by
    rw [Addr.add_lit]
    rw [List.getElem?_drop] at hj
    have hj2 : cur.toList[i * 2 + 2 + j]? = some u := by
      rw [← htk, List.getElem?_take] at hj
      split at hj
      · exact hj
      · cases hj
    exact hg.at (i * 2 + 2 + j) (by simpa using hj2)
  obtain ⟨W1, hW1⟩ : ∃ W1, W1 = w.drew.setRow g (del1 cur.toList xs (i * 2) (i * 2 + 2)).toArray := ⟨_, rfl⟩
  have hap : ∀ ty (ad : Addr) c, (m - i ≠ 0 → ad = ⟨g, i * 2 + 2, none⟩) → (Builtin.append_ #[210, 210] ty #[.slice (some ⟨g, 0, none⟩) i cap, .slice (some ad) (m - i) c]).run Tryd.prog w.drew = .ok (.slice (some ⟨g, 0, none⟩) m cap) W1 := fun ty ad c had => by
    have h := run_append_room (P := Tryd.prog) w.drew 210 ty 218 i0 Tryd.underlying210 hi0 g i cap cur hg ad (m - i) c (xs.drop (i * 2 + 2)) (by rw [hzs, hdl]) (fun j u hj => by
      by_cases h0 : m - i = 0
      · have := (List.getElem?_eq_some_iff.1 hj).1
        rw [hdl, h0] at this
        omega
      · rw [had h0]
        exact hsrc j u hj) hxo (by omega) (by rw [hzs, hdl, hcs]; omega)
    rw [h, hW1, hzs, show i + (m - i) = m by omega]
    rfl
  have hg1 : Blk W1 g (del1 cur.toList xs (i * 2) (i * 2 + 2)).toArray 218 := by rw [hW1]; exact setRow_heap w.drew g cur _ 218 _ hg
  have hd1 := del1_len hpq hql hfit
  have hclr : ∀ ty c, (Builtin.clear_ #[210] ty #[.slice (some ⟨g, m * 2, none⟩) 1 c]).run Tryd.prog W1 = .ok (.tuple #[]) (W1.setRow g (del2 cur.toList xs [.int .u32 0, .pointer none] (i * 2) (i * 2 + 2) (m * 2)).toArray) := fun ty c => by
    have hst := run_storeCells_at Tryd.prog g (m * 2) 218 [.int .u32 0, .pointer none] 0 _ W1 hg1 (by rw [List.size_toArray, hd1, hcl]; simp; omega) (by intro v hv; simp at hv; rcases hv with rfl | rfl <;> rfl)
    have hz : (Builtin.zeroCells (.agg #[.int .u32 0, .pointer none] : Value).cells 1).toList = [.int .u32 0, .pointer none] := by simp [Builtin.zeroCells, Value.cells]; rfl
    simp only [Nat.add_zero] at hst
    simp [Builtin.clear_, run_underlying Tryd.underlying210, zeroO]
    rw [hz, hst]
    simp [del2]
  have HC := Lib.hid hclr
  have HAP := Lib.hid hap
  have HALL := Lib.hid (And.intro hE (And.intro hEl (And.intro htk (And.intro hfit (And.intro hpq (And.intro hql (And.intro hpm (And.intro hcl (And.intro hm (And.intro hW1 (And.intro hg1 hd1)))))))))))
  have hz2 : ¬ ((i : Int) = (i : Int) + 1) := by omega
  have hb1 : (0 : Int) ≤ (i : Int) + 1 := by omega
  have hin : i ≤ m + 1 := by omega
  have hin2 : (i : Int) + 1 ≤ (m : Int) + 1 := by omega
  have hc63 : cap ≤ 9223372036854775807 := by unfold maxLen at hm; omega
  have mixed : Tryd.prog.follows Departure.mixedOrders = true := by kernel_rfl
  have htn : ((i : Int) + 1).toNat = i + 1 := by omega
  have hb4 : ¬ (cap = i) := by omega
  have hb5 : ¬ (cap = m) := by omega
  have hb7 : (m : Int) + 1 ≤ (cap : Int) := by omega
  have hb8 : (i : Int) ≤ (cap : Int) := by omega
  clear hE hEl htk hfit hpq hql hpm hcl hm hW1 hg1 hd1 hclr hap hsrc hxo hdl hxl hxs hcs htake hn hg hi0 hz0 hzs hzb
  have hcl0 := HC.out 0 (cap - m)
  have HFIN := Lib.hid (show (.slice (some ⟨g, 0, none⟩) m cap : Value) = .slice (some ⟨g, 0, none⟩) m cap ∧ (W1.setRow g (del2 cur.toList xs [.int .u32 0, .pointer none] (i * 2) (i * 2 + 2) (m * 2)).toArray).ownsRow 0 218 2 (.slice (some ⟨g, 0, none⟩) m cap) m (flat payO (Ps.eraseIdx i)) ∧ Fr [g] w (W1.setRow g (del2 cur.toList xs [.int .u32 0, .pointer none] (i * 2) (i * 2 + 2) (m * 2)).toArray) from by
    obtain ⟨hE, hEl, htk, hfit, hpq, hql, hpm, hcl, hm, hW1, hg1, hd1⟩ := HALL.out
    refine ⟨rfl, ⟨hEl, .inr ⟨g, cap, _, rfl, Nat.zero_le _, setRow_heap W1 g _ _ 218 _ hg1, by omega, hm, ?_, ?_⟩⟩, ?_⟩
    · rw [List.size_toArray, del2_len hpq hql hfit (by rw [hcl]; simp; omega), hcl]
    · have := del2_take (zs := [.int .u32 0, .pointer none]) hpq hql htk hfit
      rw [hpm] at this
      rw [hE]
      exact this
    · rw [hW1]
      exact ((Fr.refl _ w).drew.setRow g _ (.inl (by simp))).setRow g _ (.inl (by simp)))
  by_cases hci : cap = i + 1
  · obtain rfl : i = m := by omega
    subst hci
    have hap2 : (Builtin.append_ #[210, 210] 210 #[.slice (some ⟨g, 0, none⟩) i (i + 1), .slice (some ⟨g, 0, none⟩) 0 0]).run Tryd.prog w.drew = .ok (.slice (some ⟨g, 0, none⟩) i (i + 1)) W1 := by
      have := HAP.out 210 ⟨g, 0, none⟩ 0 (fun h => absurd (Nat.sub_self _) h)
      rw [Nat.sub_self] at this
      exact this
    have HAP2 := Lib.hid hap2
    have hb9 : (i : Int) ≤ (i : Int) + 1 := by omega
    have hb10 : (0 : Int) ≤ (i : Int) := by omega
    rw [show i + 1 - i = 1 by omega] at hcl0
    clear hap2
    go_enter Tryd.func162, Tryd.ntmps162
    go_wp2_with fail
    go_region_law_o (refine step_appR rfl _ _ 210 210 rfl (.slice (some ⟨g, 0, none⟩) i (i + 1)) (.slice (some ⟨g, 0, none⟩) 0 0) (by simp [Act.eval, Act.put]) (by simp [Act.eval, Act.put]) HAP2.out ?_)
    go_wp2
    go_ret
    exact ⟨rfl, HFIN.out.2⟩
  · go_enter Tryd.func162, Tryd.ntmps162
    go_wp2_with fail
    go_region_law_o (refine step_appR rfl _ _ 210 210 rfl (.slice (some ⟨g, 0, none⟩) i cap) (.slice (some ⟨g, i * 2 + 2, none⟩) (m - i) (cap - (i + 1))) (by simp [Act.eval, Act.put]) (by simp [Act.eval, Act.put]) (HAP.out 210 _ (cap - (i + 1)) (fun _ => rfl)) ?_)
    go_wp2
    go_ret
    exact ⟨rfl, HFIN.out.2⟩
end Go.Proofs.YtgoolkgjcmdilaaDoor
namespace Go.Proofs.YtgoolkgjcmdilaaDoor
open Go.RowKit
set_option linter.unusedVariables false
set_option linter.unusedSimpArgs false
attribute [local go_sem] Oper.semAt_some
set_option maxRecDepth 100000 in
set_option maxHeartbeats 1000000 in
theorem delO_no (w : World) (b : Nat) (v : Value) (Ps : List (Int × (Nat))) (room id : Int) (h : TabO w b v Ps room) (hi : U32 id) (hh : hasId Ps id = false) :
    Calls Tryd.prog 148 #[.pointer (some ⟨b, 0, none⟩), .int .u32 id] w fun e w' => e = .returned (.tuple #[.pointer none, .bool false]) ∧ Fr [] w w' := by
  have HG := Lib.hid (getO_no _ b v Ps room id h hi hh)
  clear h hi hh
  go_enter Tryd.func148, Tryd.ntmps148
  go_wp2_with fail
  (with_reducible refine (HG.out).mono ?_)
  rintro e w1 ⟨rfl, f1⟩
  have HF := Lib.hid f1
  clear f1
  go_wp2_with fail
  refine bodyPost_ret (v := .tuple #[.pointer none, .bool false]) (by simp [results, Tryd.results148, go_sem]) rfl ⟨rfl, HF.out⟩
def DelOPost (w : World) (b : Nat) (v : Value) (Qs : List (Int × (Nat))) (room : Int) (a : Value) (e : Ending) (w' : World) : Prop :=
  e = .returned (.tuple #[a, .bool true]) ∧ ∃ v', TabO w' b v' Qs room ∧ v'.ownBlock = v.ownBlock ∧ Fr (b :: v.ownBlock.toList) w w'
set_option maxRecDepth 100000 in
set_option maxHeartbeats 1000000 in
theorem delO_yes (w : World) (b : Nat) (v : Value) (Ps : List (Int × (Nat))) (room id : Int) (x : Nat) (h : TabO w b v Ps room) (hi : U32 id) (hx : Ps[rank Ps id]? = some (id, x)) :
    Calls Tryd.prog 148 #[.pointer (some ⟨b, 0, none⟩), .int .u32 id] w (DelOPost w b v (Ps.eraseIdx (rank Ps id)) room (.pointer (some ⟨x, 0, none⟩))) := by
  have HG := Lib.hid (getO_yes _ b v Ps room id x h hi hx)
  have hh : hasId Ps id = true := (has_at h.up id).2 ⟨x, hx⟩
  have HH := Lib.hid h
  have HI := Lib.hid (And.intro hi hh)
  obtain ⟨r, hr⟩ : ∃ r, r = rank Ps id := ⟨_, rfl⟩
  rw [← hr] at hx ⊢
  have HX := Lib.hid (And.intro hr hx)
  clear h hi hh hr hx
  go_enter Tryd.func148, Tryd.ntmps148
  go_wp2_with fail
  (with_reducible refine (HG.out).mono ?_)
  rintro e w2 ⟨rfl, f2⟩
  have hL := findO_any _ b v Ps room id (HH.out.grow f2) HI.out.1
  rw [← HX.out.1, HI.out.2] at hL
  have HL := Lib.hid hL
  have HF2 := Lib.hid f2
  clear hL f2
  go_wp2_with fail
  (with_reducible refine (HL.out).mono ?_)
  rintro e w3 ⟨rfl, f3⟩
  have h3 := (HH.out.grow HF2.out).grow f3
  obtain ⟨m, hm⟩ : ∃ m, Ps.length = m + 1 := by
    have := (List.getElem?_eq_some_iff.1 HX.out.2).1
    exact ⟨Ps.length - 1, by omega⟩
  have hrm : r < m + 1 := by rw [← hm]; exact (List.getElem?_eq_some_iff.1 HX.out.2).1
  have hl6 : m < 65536 := by have := h3.lim; rw [hm] at this; omega
  rcases h3.own.2 with ⟨rfl, _⟩ | ⟨g, cap, cur, rfl, _, hg, hnc, hmx, hcs, htake⟩
  · exact absurd rfl h3.nn
  have hd1 := h3.hd.at 1 (v := .slice (some ⟨g, 0, none⟩) Ps.length cap) rfl
  have HD := Lib.hid (deleO_any w3 g cap m cur Ps r hg hmx hcs hm htake hrm (by rw [← hm]; exact hnc) hl6)
  have hwr : wrap64 ((r : Int) + 1) = (r : Int) + 1 := w64 (by omega)
  have HT := Lib.hid (And.intro h3 (And.intro hm (And.intro (HF2.out.trans f3 (by simp)) hrm)))
  rw [hm] at hd1
  clear h3 hrm hl6 hg hnc hmx hcs htake f3 hm
  go_wp2_with fail
  (with_reducible refine (HD.out).mono ?_)
  rintro e w5 ⟨rfl, ho, f5⟩
  have hbg : b ≠ g := fun e => HT.out.1.notin (by simp [Value.ownBlock, e])
  have hb5 := f5.blk HT.out.1.hd (by simp; exact hbg)
  have HQ := Lib.hid (And.intro ho (And.intro f5 (And.intro hb5 hbg)))
  have c1 := hb5.at 1 (v := .slice (some ⟨g, 0, none⟩) Ps.length cap) rfl
  have e1 := hb5.free 1
  clear ho f5 hb5 hbg hd1 hwr
  go_wp2_with fail
  refine bodyPost_ret (v := .tuple #[.pointer (some ⟨x, 0, none⟩), .bool true]) (by simp [results, Tryd.results148, go_sem]) rfl ?_
  obtain ⟨ho, f5, hb5, hbg⟩ := HQ.out
  obtain ⟨h3, hm, f3, hrm⟩ := HT.out
  have hlen : (Ps.eraseIdx r).length = m := by rw [List.length_eraseIdx_of_lt (by omega), hm]; rfl
  refine ⟨rfl, .slice (some ⟨g, 0, none⟩) m cap, ⟨hb5.set 1 _, ?_, by simp [Value.ownBlock], up_erase h3.up r, fun p hp => h3.ids p (List.mem_of_mem_eraseIdx hp), by rw [hlen]; have := h3.lim; rw [hm] at this; omega⟩, rfl, ?_⟩
  · rw [hlen]
    exact own_fr ho ((Fr.refl [b] w5).setCell _ _ (.inl (by simp))) (fun g2 e => by simp [Value.ownBlock] at e; subst e; simp; omega)
  · exact (((f3.mono (T := [b, g]) (by simp)).trans f5 (fun x hx => .inl (by simp at hx; simp [hx]))).setCell ⟨b, 1, none⟩ (.slice (some ⟨g, 0, none⟩) m cap) (.inl (by simp)))
end Go.Proofs.YtgoolkgjcmdilaaDoor
end
