/-
  Tables of V: New, live, find.
  Tables of V: find.
  Tables of V: Len, Room, Get, Next.
  Tables of V: slices.Insert.
  Tables of V: Put.
  Tables of V: slices.Delete.
  Tables of V: Del.
  Tables of V: slices.Clone, All.
-/
import Derived.Test.YtgoolkgjcmdilaaDoorTabP
import Derived.Test.YtgoolkgjcmdilaaDoorProg
import Derived.BigRegion
import Derived.Deep.CutBlock
import Derived.Deep.DeepCutAuto
import Derived.Test.YtgoolkgjcmdilaaDoorRow
import Derived.Deep.RegionLaw
import Derived.Shelf.RegionOpenPlain
import Derived.Test.YtgoolkgjcmdilaaDoorInv
namespace Go.Proofs.YtgoolkgjcmdilaaDoor
open Go.RowKit
set_option linter.unusedVariables false
set_option linter.unusedSimpArgs false
attribute [local go_sem] Oper.semAt_some

def payV (x : Int × ByteArray) : List Value := [.int .i64 x.1, .string x.2]
theorem wideV : Wide payV 2 := ⟨fun _ => rfl, fun x v hv => by simp [payV] at hv; rcases hv with rfl | rfl <;> rfl⟩
structure TabV (W : World) (b : Nat) (v : Value) (Ps : List (Int × (Int × ByteArray))) (room : Int) : Prop where
  hd : Blk W b #[.int .i64 room, v] 68
  own : W.ownsRow 0 143 3 v Ps.length (flat payV Ps)
  nn : v.ownBlock ≠ none
  up : Up Ps
  ids : ∀ p ∈ Ps, U32 p.1
  lim : (Ps.length : Int) ≤ room ∧ room ≤ 65536
/-- A slice of pairs reads. -/
def RowV (W : World) (g : Nat) (Ps : List (Int × (Int × ByteArray))) : Prop := ∀ j u, (flat payV Ps)[j]? = some u → W.cell? ⟨g, j, none⟩ = some u
theorem RowV.at {W : World} {g : Nat} {Ps : List (Int × (Int × ByteArray))} (h0 : RowV W g Ps) {i : Nat} {p : Int × (Int × ByteArray)} (h : Ps[i]? = some p) : W.cell? ⟨g, i * 3, none⟩ = some (.int .u32 p.1) ∧ W.cell? ⟨g, i * 3 + 1, none⟩ = some (.int .i64 p.2.1) ∧ W.cell? ⟨g, i * 3 + 2, none⟩ = some (.string p.2.2) :=
  ⟨h0 (i * 3) _ (flat_id wideV h), h0 (i * 3 + 1) _ (flat_pay wideV h (j := 0) rfl), h0 (i * 3 + 2) _ (flat_pay wideV h (j := 1) rfl)⟩
theorem RowV.fr {W W' : World} {g : Nat} {Ps : List (Int × (Int × ByteArray))} (h : RowV W g Ps) (hf : Fr [] W W') : RowV W' g Ps :=
  fun j u hu => (hf.cell (World.block_lt_of_cell? W _ (h j u hu)) (by simp)).trans (h j u hu)
theorem TabV.row {W : World} {b : Nat} {v : Value} {Ps : List (Int × (Int × ByteArray))} {room : Int} (h : TabV W b v Ps room) :
    ∃ g cap, v = .slice (some ⟨g, 0, none⟩) Ps.length cap ∧ Ps.length ≤ cap ∧ cap ≤ maxLen ∧ g < W.heap.size ∧ RowV W g Ps := by
  rcases h.own.2 with ⟨rfl, _⟩ | ⟨g, cap, cur, rfl, _, hg, hnc, hm, _, _⟩
  · exact absurd rfl h.nn
  · refine ⟨g, cap, rfl, hnc, hm, (Array.getElem?_eq_some_iff.1 hg).1, fun j u hu => ?_⟩
    have := h.own.cells (g := g) rfl j u hu
    rw [Addr.add_lit] at this
    simpa using this
theorem TabV.notin {W : World} {b : Nat} {v : Value} {Ps : List (Int × (Int × ByteArray))} {room : Int} (h : TabV W b v Ps room) : b ∉ v.ownBlock.toList := own_notin h.own h.hd (by decide)
theorem TabV.fr {S : List Nat} {W W' : World} {b : Nat} {v : Value} {Ps : List (Int × (Int × ByteArray))} {room : Int} (h : TabV W b v Ps room) (hf : Fr S W W') (h1 : b ∉ S) (h2 : ∀ g, v.ownBlock = some g → g ∉ S) : TabV W' b v Ps room :=
  ⟨hf.blk h.hd h1, own_fr h.own hf h2, h.nn, h.up, h.ids, h.lim⟩
theorem TabV.grow {W W' : World} {b : Nat} {v : Value} {Ps : List (Int × (Int × ByteArray))} {room : Int} (h : TabV W b v Ps room) (hf : Fr [] W W') : TabV W' b v Ps room := h.fr hf (by simp) (by simp)

theorem newV_no (w : World) (room : Int) (hr : room < 0 ∨ 65536 < room) : Calls Tryd.prog 11 #[.int .i64 room] w fun e w' => e = .returned (.tuple #[.pointer none, .int .i64 2]) ∧ Fr [] w w' := by
  by_cases h1 : room < 0
  · clear hr
    go_enter Tryd.func11, Tryd.ntmps11
    go_wp2
    refine bodyPost_ret (v := .tuple #[.pointer none, .int .i64 2]) (by simp [results, Tryd.results11, go_sem]) rfl ⟨rfl, Fr.refl _ _⟩
  · have h2 : 65536 < room := by omega
    clear hr
    go_enter Tryd.func11, Tryd.ntmps11
    go_wp2
    refine bodyPost_ret (v := .tuple #[.pointer none, .int .i64 2]) (by simp [results, Tryd.results11, go_sem]) rfl ⟨rfl, Fr.refl _ _⟩
def NewVPost (w : World) (room : Int) (e : Ending) (w' : World) : Prop :=
  ∃ b v, e = .returned (.tuple #[.pointer (some ⟨b, 0, none⟩), .int .i64 0]) ∧ TabV w' b v [] room ∧ w.heap.size ≤ b ∧ (∀ g, v.ownBlock = some g → w.heap.size ≤ g) ∧ Fr [] w w'
theorem newV_ok (w : World) (room : Int) (h0 : 0 ≤ room) (h6 : room ≤ 65536) : Calls Tryd.prog 11 #[.int .i64 room] w (NewVPost w room) := by
  have h1 : ¬ room < 0 := by omega
  have h2 : ¬ 65536 < room := by omega
  go_enter Tryd.func11, Tryd.ntmps11
  go_wp2
  refine bodyPost_ret (v := .tuple #[.pointer (some ⟨w.heap.size + 1, 0, none⟩), .int .i64 0]) (by simp [results, Tryd.results11, go_sem]) rfl ?_
  unfold NewVPost
  refine ⟨w.heap.size + 1, .slice (some ⟨w.heap.size, 0, none⟩) 0 0, rfl, ⟨Blk.new_at (by simp) _ _, ?_, by simp [Value.ownBlock], List.Pairwise.nil, by simp, by simp; omega⟩, by omega, by simp [Value.ownBlock], ((Fr.refl [] w).alloc _).alloc _⟩
  exact (World.ownsRow_made (base := 0) (e := 143) (size := 3) w #[] 0 (Nat.zero_le _) (Nat.zero_le _) rfl).alloc _

theorem liveV_any (w : World) (b : Nat) (v : Value) (Ps : List (Int × (Int × ByteArray))) (room : Int) (h : TabV w b v Ps room) : Calls Tryd.prog 62 #[.pointer (some ⟨b, 0, none⟩)] w fun e w' => e = .returned (.bool true) ∧ w = w' := by
  obtain ⟨g, cap, rfl, _, _, _, _⟩ := h.row
  have c1 := h.hd.at 1 (v := .slice (some ⟨g, 0, none⟩) Ps.length cap) rfl
  go_enter Tryd.func62, Tryd.ntmps62
  go_wp2
  go_ret
  exact ⟨rfl, rfl⟩

theorem cmpV_any (w : World) (p id : Int) (x : Int × ByteArray) (hp : U32 p) (hi : U32 id) : Calls Tryd.prog 128 #[.agg #[.int .u32 p, .int .i64 x.1, .string x.2], .int .u32 id] w fun e w' => e = .returned (.int .i64 (if p < id then -1 else if id < p then 1 else 0)) ∧ Fr [] w w' := by
  have hb := Blk.new w #[.int .u32 p, .int .i64 x.1, .string x.2] 143
  have c0 := hb.at 0 (v := .int .u32 p) rfl
  have HF := Lib.hid ((Fr.refl [] w).alloc (.cells #[.int .u32 p, .int .i64 x.1, .string x.2] 143))
  clear hb
  by_cases h1 : p < id
  · rw [if_pos h1]
    go_enter Tryd.func128, Tryd.ntmps128
    go_wp2
    go_ret
    exact ⟨rfl, HF.out⟩
  · by_cases h2 : id < p
    · rw [if_neg h1, if_pos h2]
      go_enter Tryd.func128, Tryd.ntmps128
      go_wp2
      go_ret
      exact ⟨rfl, HF.out⟩
    · rw [if_neg h1, if_neg h2]
      go_enter Tryd.func128, Tryd.ntmps128
      go_wp2
      go_ret
      exact ⟨rfl, HF.out⟩
end Go.Proofs.YtgoolkgjcmdilaaDoor
namespace Go.Proofs.YtgoolkgjcmdilaaDoor
open Go.RowKit
set_option linter.unusedVariables false
set_option linter.unusedSimpArgs false
attribute [local go_sem] Oper.semAt_some

theorem bsfV_any (w : World) (g cap : Nat) (Ps : List (Int × (Int × ByteArray))) (id : Int) (hu : Up Ps) (hids : ∀ p ∈ Ps, U32 p.1) (hi : U32 id) (hc : Ps.length ≤ 65536) (hr : RowV w g Ps) :
    Calls Tryd.prog 127 #[.slice (some ⟨g, 0, none⟩) Ps.length cap, .int .u32 id, .func (.func 128) #[] #[]] w fun e w' => e = .returned (.tuple #[.int .i64 (rank Ps id), .bool (hasId Ps id)]) ∧ Fr [] w w' := by
  have HU := Lib.hid hu
  have HI := Lib.hid hids
  have HR := Lib.hid hr
  have HID := Lib.hid hi
  obtain ⟨n, hn⟩ : ∃ n, n = Ps.length := ⟨_, rfl⟩
  obtain ⟨r, hr'⟩ : ∃ r, r = rank Ps id := ⟨_, rfl⟩
  obtain ⟨hs, hhs⟩ : ∃ b, b = hasId Ps id := ⟨_, rfl⟩
  have hrn : r ≤ n := by rw [hn, hr']; exact rank_le _ _
  rw [← hn, ← hr', ← hhs]
  have HN := Lib.hid (And.intro hn (And.intro hr' hhs))
  rw [← hn] at hc
  clear hu hids hr hn hr' hhs hi
  go_enter Tryd.func127, Tryd.ntmps127
  go_wp2_with fail
  go_loopw [9, 10, 11] (fun iw jw hw wr => ∃ i j : Nat, iw = .int .i64 i ∧ jw = .int .i64 j ∧ i ≤ r ∧ r ≤ j ∧ j ≤ n ∧ Fr [] w wr) (fun iw jw _ _ => (intOf jw).toNat - (intOf iw).toNat)
  case atStart => exact ⟨0, n, rfl, rfl, Nat.zero_le _, hrn, Nat.le_refl _, Fr.refl _ _⟩
  case round =>
    obtain ⟨i, j, rfl, rfl, h1, h2, h3, hf⟩ := hrel
    obtain ⟨wi, rfl⟩ : ∃ wi : World, wi = wr := ⟨_, rfl⟩
    have HF := Lib.hid hf
    clear hf
    by_cases hij : i < j
    · have hmid := mid_eq (i := i) (j := j) (by omega)
      obtain ⟨h, hh⟩ : ∃ h, h = (i + j) / 2 := ⟨_, rfl⟩
      rw [← hh] at hmid
      have hih : i ≤ h := by omega
      have hhj : h < j := by omega
      have hhn : h < n := by omega
      have HK := Lib.hid (And.intro h1 (And.intro h2 (And.intro h3 (And.intro hih hhj))))
      have hpl : h < Ps.length := by rw [← HN.out.1]; exact hhn
      have hp : Ps[h]? = some Ps[h] := List.getElem?_eq_getElem hpl
      obtain ⟨⟨p, x⟩, hpx⟩ : ∃ p, p = Ps[h] := ⟨_, rfl⟩
      rw [← hpx] at hp
      have hpid := HI.out _ (List.mem_of_getElem? hp)
      have hlt := rank_lt HU.out id hp
      rw [← HN.out.2.1] at hlt
      dsimp only at hlt hpid
      have hcl := (HR.out.fr HF.out).at hp
      obtain ⟨c0, c1, c2⟩ := hcl
      dsimp only at c0 c1 c2
      have g0 : (0 : Int) ≤ (h : Int) := by omega
      have g1 : (h : Int) < (n : Int) := by omega
      have HP := Lib.hid (And.intro hpid hlt)
      clear hpid hlt hp hpx hpl hh hih hhj h1 h2 h3
      go_wp2_with fail
      (with_reducible refine (cmpV_any _ _ _ _ HP.out.1 HID.out).mono ?_)
      rintro e w1 ⟨rfl, f1⟩
      have HF1 := Lib.hid (HF.out.trans f1 (by simp))
      clear f1
      by_cases hpi : p < id
      · rw [if_pos hpi]
        have hhr : h < r := HP.out.2.1 hpi
        go_wp2_with fail
        obtain ⟨k1, k2, k3, k4, k5⟩ := HK.out
        exact ⟨⟨h + 1, j, by go_num, rfl, hhr, k2, k3, HF1.out⟩, by simp [intOf]; omega⟩
      · have hhr : ¬ h < r := fun a => hpi (HP.out.2.2 a)
        obtain ⟨y, hy⟩ : ∃ y, y = (if p < id then (-1 : Int) else if id < p then 1 else 0) := ⟨_, rfl⟩
        rw [← hy]
        have hy0 : ¬ y < 0 := by rw [hy, if_neg hpi]; split <;> omega
        clear hy
        go_wp2_with fail
        obtain ⟨k1, k2, k3, k4, k5⟩ := HK.out
        exact ⟨⟨i, h, rfl, rfl, k1, Nat.le_of_not_lt hhr, Nat.le_of_lt (Nat.lt_of_lt_of_le k5 k3), HF1.out⟩, by simp [intOf]; omega⟩
    · obtain rfl : i = r := by omega
      by_cases hin : i < n
      · have hpl : i < Ps.length := by rw [← HN.out.1]; exact hin
        have hp : Ps[i]? = some Ps[i] := List.getElem?_eq_getElem hpl
        obtain ⟨⟨p, x⟩, hpx⟩ : ∃ p, p = Ps[i] := ⟨_, rfl⟩
        rw [← hpx] at hp
        have hpid := HI.out _ (List.mem_of_getElem? hp)
        have hlt := rank_lt HU.out id hp
        have hcl := (HR.out.fr HF.out).at hp
        obtain ⟨c0, c1, c2⟩ := hcl
        dsimp only at c0 c1 c2 hpid
        have hhas : hs = decide (p = id) := by
          have ha := has_at HU.out id
          rw [← HN.out.2.1, ← HN.out.2.2, hp] at ha
          rw [Bool.eq_iff_iff, ha]
          simp
        have g0 : (0 : Int) ≤ (i : Int) := by omega
        have g1 : (i : Int) < (n : Int) := by omega
        have HP := Lib.hid (And.intro hpid hhas)
        clear hpid hhas hp hpx hpl h1 h2 h3 hlt
        go_wp2_with fail
        (with_reducible refine (cmpV_any _ _ _ _ HP.out.1 HID.out).mono ?_)
        rintro e w1 ⟨rfl, f1⟩
        have HF1 := Lib.hid (HF.out.trans f1 (by simp))
        clear f1
        by_cases hpi : p = id
        · rw [if_neg (by omega), if_neg (by omega)]
          have he : hs = true := by rw [HP.out.2]; exact decide_eq_true hpi
          go_wp2_with fail
          refine bodyPost_ret (v := .tuple #[.int .i64 i, .bool true]) (by simp [results, Tryd.results127, go_sem]) rfl ⟨by first | rfl | rw [he], HF1.out⟩
        · obtain ⟨y, hy⟩ : ∃ y, y = (if p < id then (-1 : Int) else if id < p then 1 else 0) := ⟨_, rfl⟩
          rw [← hy]
          have hy0 : ¬ y = 0 := by rw [hy]; (repeat' split) <;> omega
          have he : hs = false := by rw [HP.out.2]; exact decide_eq_false hpi
          clear hy
          go_wp2_with fail
          refine bodyPost_ret (v := .tuple #[.int .i64 i, .bool false]) (by simp [results, Tryd.results127, go_sem, hy0]) rfl ⟨by first | rfl | rw [he], HF1.out⟩
      · have he : hs = false := by
          have ha := has_at HU.out id
          rw [← HN.out.2.1, ← HN.out.2.2, List.getElem?_eq_none (by rw [← HN.out.1]; omega)] at ha
          cases hs with
          | false => rfl
          | true => obtain ⟨x, hx⟩ := ha.1 rfl; cases hx
        have g1 : ¬ (i : Int) < (n : Int) := by omega
        go_wp2_with fail
        refine bodyPost_ret (v := .tuple #[.int .i64 i, .bool false]) (by simp [results, Tryd.results127, go_sem]) rfl ⟨by first | rfl | rw [he], HF.out⟩

theorem findV_any (w : World) (b : Nat) (v : Value) (Ps : List (Int × (Int × ByteArray))) (room id : Int) (h : TabV w b v Ps room) (hi : U32 id) :
    Calls Tryd.prog 63 #[.pointer (some ⟨b, 0, none⟩), .int .u32 id] w fun e w' => e = .returned (.tuple #[.int .i64 (rank Ps id), .bool (hasId Ps id)]) ∧ Fr [] w w' := by
  obtain ⟨g, cap, rfl, h1, h2, h3, h4⟩ := h.row
  have c1 := h.hd.at 1 (v := .slice (some ⟨g, 0, none⟩) Ps.length cap) rfl
  have HH := Lib.hid h
  have H4 := Lib.hid h4
  have hl : Ps.length ≤ 65536 := by have := h.lim; omega
  obtain ⟨r, hr'⟩ : ∃ r, r = rank Ps id := ⟨_, rfl⟩
  obtain ⟨hs, hhs⟩ : ∃ b, b = hasId Ps id := ⟨_, rfl⟩
  have C := Lib.hid (fun (W : World) (hW : RowV W g Ps) => hr'.symm ▸ hhs.symm ▸ bsfV_any W g cap Ps id HH.out.up HH.out.ids hi hl hW)
  rw [← hr', ← hhs]
  clear h h2 h3 h4 hr' hhs hl h1
  go_enter Tryd.func63, Tryd.ntmps63
  go_wp2_with fail
  (with_reducible refine (C.out _ H4.out).mono ?_)
  rintro e w1 ⟨rfl, f1⟩
  have HF := Lib.hid f1
  clear f1
  go_wp2_with fail
  refine bodyPost_ret (v := .tuple #[.int .i64 r, .bool hs]) (by simp [results, Tryd.results63, go_sem]) rfl ⟨rfl, HF.out⟩
end Go.Proofs.YtgoolkgjcmdilaaDoor
namespace Go.Proofs.YtgoolkgjcmdilaaDoor
open Go.RowKit
set_option linter.unusedVariables false
set_option linter.unusedSimpArgs false
attribute [local go_sem] Oper.semAt_some

theorem lenV_any (w : World) (b : Nat) (v : Value) (Ps : List (Int × (Int × ByteArray))) (room : Int) (h : TabV w b v Ps room) : Calls Tryd.prog 73 #[.pointer (some ⟨b, 0, none⟩)] w fun e w' => e = .returned (.int .i64 Ps.length) ∧ w = w' := by
  have HH := Lib.hid h
  obtain ⟨g, cap, rfl, _, _, _, _⟩ := h.row
  have c1 := h.hd.at 1 (v := .slice (some ⟨g, 0, none⟩) Ps.length cap) rfl
  clear h
  go_enter Tryd.func73, Tryd.ntmps73
  go_wp2_with fail
  (with_reducible refine (liveV_any _ b _ Ps room HH.out).mono ?_)
  rintro e w1 ⟨rfl, rfl⟩
  go_wp2
  go_ret
  exact ⟨rfl, rfl⟩
theorem roomV_any (w : World) (b : Nat) (v : Value) (Ps : List (Int × (Int × ByteArray))) (room : Int) (h : TabV w b v Ps room) : Calls Tryd.prog 74 #[.pointer (some ⟨b, 0, none⟩)] w fun e w' => e = .returned (.int .i64 room) ∧ w = w' := by
  have HH := Lib.hid h
  have c0 := h.hd.at 0 (v := .int .i64 room) rfl
  clear h
  go_enter Tryd.func74, Tryd.ntmps74
  go_wp2_with fail
  (with_reducible refine (liveV_any _ b _ Ps room HH.out).mono ?_)
  rintro e w1 ⟨rfl, rfl⟩
  go_wp2
  go_ret
  exact ⟨rfl, rfl⟩
set_option maxRecDepth 100000 in
theorem getV_yes (w : World) (b : Nat) (v : Value) (Ps : List (Int × (Int × ByteArray))) (room id : Int) (x : Int × ByteArray) (h : TabV w b v Ps room) (hi : U32 id) (hx : Ps[rank Ps id]? = some (id, x)) :
    Calls Tryd.prog 60 #[.pointer (some ⟨b, 0, none⟩), .int .u32 id] w fun e w' => e = .returned (.tuple #[.agg #[.int .i64 x.1, .string x.2], .bool true]) ∧ Fr [] w w' := by
  have F0 := ((Fr.refl [] w).alloc (.cells #[.int .i64 0, .string ⟨#[]⟩] 29)).alloc (.cells #[.int .i64 0, .string ⟨#[]⟩] 29)
  have h2 := h.grow F0
  have hL := findV_any _ b v Ps room id h2 hi
  have hh : hasId Ps id = true := (has_at h.up id).2 ⟨x, hx⟩
  rw [hh] at hL
  obtain ⟨r, hr⟩ : ∃ r, r = rank Ps id := ⟨_, rfl⟩
  rw [← hr] at hL hx
  have HL := Lib.hid hL
  have HH := Lib.hid h2
  have HX := Lib.hid hx
  have z0 := Blk.new_at (w := w.alloc (.cells #[.int .i64 0, .string ⟨#[]⟩] 29)) (k := w.heap.size + 1) (by simp) #[.int .i64 0, .string ⟨#[]⟩] 29
  have z1 := (Blk.new w #[.int .i64 0, .string ⟨#[]⟩] 29).alloc (.cells #[.int .i64 0, .string ⟨#[]⟩] 29)
  have HF := Lib.hid (And.intro F0 z1)
  clear h h2 hL hh hx hr z0 z1 F0 hi
  go_enter Tryd.func60, Tryd.ntmps60
  go_wp2_with fail
  (with_reducible refine (liveV_any _ b _ Ps room HH.out).mono ?_)
  rintro e w1 ⟨rfl, rfl⟩
  go_wp2_with fail
  (with_reducible refine (HL.out).mono ?_)
  rintro e w1 ⟨rfl, f1⟩
  have h1 := HH.out.grow f1
  obtain ⟨g, cap, rfl, hc1, hc2, hc3, hr⟩ := h1.row
  have d1 := h1.hd.at 1 (v := .slice (some ⟨g, 0, none⟩) Ps.length cap) rfl
  obtain ⟨c0, c1, c2⟩ := hr.at HX.out
  dsimp only at c0 c1 c2
  have hrl := (List.getElem?_eq_some_iff.1 HX.out).1
  obtain ⟨n, hn⟩ : ∃ n, n = Ps.length := ⟨_, rfl⟩
  rw [← hn] at d1 hrl
  have g0 : (0 : Int) ≤ (r : Int) := by omega
  have g1 : (r : Int) < (n : Int) := by omega
  have zb := f1.blk HF.out.2 (by simp)
  have HG := Lib.hid (And.intro (HF.out.1.trans f1 (by simp)) zb)
  have y0 := zb.at 0 (v := .int .i64 0) rfl
  have v0 := zb.free 0
  have y1 := zb.at 1 (v := .string ⟨#[]⟩) rfl
  have v1 := zb.free 1
  clear h1 hr hn hrl f1 hc1 hc2 hc3 zb
  go_wp2_with fail
  refine bodyPost_ret (v := .tuple #[.agg #[.int .i64 x.1, .string x.2], .bool true]) (by simp [results, Tryd.results60, go_sem, y0, y1]) rfl ⟨rfl, ?_⟩
  exact ((((HG.out.1).setCell ⟨w.heap.size, 0, none⟩ (.int .i64 x.1) (.inr (Nat.le_refl _)))).setCell ⟨w.heap.size, 1, none⟩ (.string x.2) (.inr (Nat.le_refl _)))
set_option maxRecDepth 100000 in
theorem getV_no (w : World) (b : Nat) (v : Value) (Ps : List (Int × (Int × ByteArray))) (room id : Int) (h : TabV w b v Ps room) (hi : U32 id) (hh : hasId Ps id = false) :
    Calls Tryd.prog 60 #[.pointer (some ⟨b, 0, none⟩), .int .u32 id] w fun e w' => e = .returned (.tuple #[.agg #[.int .i64 0, .string ⟨#[]⟩], .bool false]) ∧ Fr [] w w' := by
  have F0 := ((Fr.refl [] w).alloc (.cells #[.int .i64 0, .string ⟨#[]⟩] 29)).alloc (.cells #[.int .i64 0, .string ⟨#[]⟩] 29)
  have h2 := h.grow F0
  have hL := findV_any _ b v Ps room id h2 hi
  rw [hh] at hL
  obtain ⟨r, hr⟩ : ∃ r, r = rank Ps id := ⟨_, rfl⟩
  rw [← hr] at hL
  have HL := Lib.hid hL
  have HH := Lib.hid h2
  have z0 := Blk.new_at (w := w.alloc (.cells #[.int .i64 0, .string ⟨#[]⟩] 29)) (k := w.heap.size + 1) (by simp) #[.int .i64 0, .string ⟨#[]⟩] 29
  have z1 := (Blk.new w #[.int .i64 0, .string ⟨#[]⟩] 29).alloc (.cells #[.int .i64 0, .string ⟨#[]⟩] 29)
  have HF := Lib.hid (And.intro F0 (And.intro z1 z0))
  clear h h2 hL hh hr z0 z1 F0 hi
  go_enter Tryd.func60, Tryd.ntmps60
  go_wp2_with fail
  (with_reducible refine (liveV_any _ b _ Ps room HH.out).mono ?_)
  rintro e w1 ⟨rfl, rfl⟩
  go_wp2_with fail
  (with_reducible refine (HL.out).mono ?_)
  rintro e w1 ⟨rfl, f1⟩
  have zb := f1.blk HF.out.2.1 (by simp)
  have zn := f1.blk HF.out.2.2 (by simp)
  have HG := Lib.hid (HF.out.1.trans f1 (by simp))
  have y0 := zb.at 0 (v := .int .i64 0) rfl
  have v0 := zb.free 0
  have y1 := zb.at 1 (v := .string ⟨#[]⟩) rfl
  have v1 := zb.free 1
  have q0 := zn.at 0 (v := .int .i64 0) rfl
  have q1 := zn.at 1 (v := .string ⟨#[]⟩) rfl
  clear f1 zb zn
  go_wp2_with fail
  refine bodyPost_ret (v := .tuple #[.agg #[.int .i64 0, .string ⟨#[]⟩], .bool false]) (by simp [results, Tryd.results60, go_sem, y0, y1]) rfl ⟨rfl, ?_⟩
  exact ((((HG.out).setCell ⟨w.heap.size, 0, none⟩ (.int .i64 0) (.inr (Nat.le_refl _)))).setCell ⟨w.heap.size, 1, none⟩ (.string ⟨#[]⟩) (.inr (Nat.le_refl _)))

/-- Where Next looks. -/
def nxtV (Ps : List (Int × (Int × ByteArray))) (id : Int) (all : Bool) : Nat := if all then 0 else rank Ps id + (if hasId Ps id then 1 else 0)
theorem nxtV_le (Ps : List (Int × (Int × ByteArray))) (hu : Up Ps) (id : Int) (all : Bool) : nxtV Ps id all ≤ Ps.length := by
  unfold nxtV
  split
  · omega
  · split
    · obtain ⟨x, hx⟩ := (has_at hu id).1 ‹_›
      have := (List.getElem?_eq_some_iff.1 hx).1
      omega
    · have := rank_le Ps id; omega
set_option maxRecDepth 100000 in
set_option maxHeartbeats 1000000 in
theorem nextV_yes (w : World) (b : Nat) (v : Value) (Ps : List (Int × (Int × ByteArray))) (room id : Int) (all : Bool) (p : Int) (x : Int × ByteArray) (h : TabV w b v Ps room) (hi : U32 id) (hx : Ps[nxtV Ps id all]? = some (p, x)) :
    Calls Tryd.prog 15 #[.pointer (some ⟨b, 0, none⟩), .int .u32 id, .bool all] w fun e w' => e = .returned (.tuple #[.int .u32 p, .agg #[.int .i64 x.1, .string x.2], .bool true]) ∧ Fr [] w w' := by
  have F0 := ((Fr.refl [] w).alloc (.cells #[.int .i64 0, .string ⟨#[]⟩] 29)).alloc (.cells #[.int .i64 0, .string ⟨#[]⟩] 29)
  have h2 := h.grow F0
  have hL := findV_any _ b v Ps room id h2 hi
  obtain ⟨r, hr⟩ : ∃ r, r = rank Ps id := ⟨_, rfl⟩
  obtain ⟨hs, hhs⟩ : ∃ b, b = hasId Ps id := ⟨_, rfl⟩
  obtain ⟨m, hm⟩ : ∃ m, m = nxtV Ps id all := ⟨_, rfl⟩
  have hml : m ≤ Ps.length := by rw [hm]; exact nxtV_le Ps h.up id all
  have hlim : Ps.length ≤ 65536 := by have := h.lim; omega
  rw [← hm] at hx
  unfold nxtV at hm
  rw [← hr, ← hhs] at hL hm
  have HL := Lib.hid hL
  have HH := Lib.hid h2
  have HX := Lib.hid hx
  have z0 := Blk.new_at (w := w.alloc (.cells #[.int .i64 0, .string ⟨#[]⟩] 29)) (k := w.heap.size + 1) (by simp) #[.int .i64 0, .string ⟨#[]⟩] 29
  have z1 := (Blk.new w #[.int .i64 0, .string ⟨#[]⟩] 29).alloc (.cells #[.int .i64 0, .string ⟨#[]⟩] 29)
  have HF := Lib.hid (And.intro F0 (And.intro z1 z0))
  have hwr : wrap64 ((r : Int) + 1) = (r : Int) + 1 := w64 (by have := rank_le Ps id; omega)
  have HM := Lib.hid (And.intro hml hlim)
  clear h h2 hL hr hhs hx z0 z1 F0 hi hml hlim
  go_enter Tryd.func15, Tryd.ntmps15
  go_wp2_with fail
  (with_reducible refine (liveV_any _ b _ Ps room HH.out).mono ?_)
  rintro e w1 ⟨rfl, rfl⟩
  go_wp2_with fail
  (with_reducible refine (HL.out).mono ?_)
  rintro e w1 ⟨rfl, f1⟩
  have h1 := HH.out.grow f1
  obtain ⟨g, cap, rfl, hc1, hc2, hc3, hr⟩ := h1.row
  have d1 := h1.hd.at 1 (v := .slice (some ⟨g, 0, none⟩) Ps.length cap) rfl
  obtain ⟨n, hn⟩ : ∃ n, n = Ps.length := ⟨_, rfl⟩
  rw [← hn] at d1
  have HN := Lib.hid hn
  clear hn
  have zb := f1.blk HF.out.2.1 (by simp)
  have zn := f1.blk HF.out.2.2 (by simp)
  have HG := Lib.hid (And.intro (HF.out.1.trans f1 (by simp)) (And.intro zb zn))
  have HR := Lib.hid hr
  have hd1 := Lib.hid d1
  clear h1 hr f1 hc1 hc2 hc3 zb zn d1
  go_upto_block 0 with fail
  go_cut [10] (fun s10 wx => s10 = .int .i64 m ∧ wx = w1)
  case first =>
    cases all with
    | true =>
      rw [if_pos rfl] at hm
      subst hm
      go_wp2_with fail
      go_meet
      case rel => exact ⟨rfl, rfl⟩
    | false =>
      rw [if_neg (by decide)] at hm
      cases hs with
      | true =>
        rw [if_pos rfl] at hm
        subst hm
        go_wp2_with fail
        go_meet
        case rel => exact ⟨by go_num, rfl⟩
      | false =>
        rw [if_neg (by decide)] at hm
        subst hm
        go_wp2_with fail
        go_meet
        case rel => exact ⟨rfl, rfl⟩
  case rest =>
    obtain ⟨rfl, rfl⟩ := hcut
    have c1 := hd1.out
    clear hm hwr
    have hmn : m < n := by rw [HN.out]; exact (List.getElem?_eq_some_iff.1 HX.out).1
    have g0 : (0 : Int) ≤ (m : Int) := by omega
    have g1 : (m : Int) < (n : Int) := by omega
    have g2 : ((m : Int) == (n : Int)) = false := by rw [beq_eq_false_iff_ne]; omega
    clear c1
    obtain ⟨c0, c1, c2⟩ := HR.out.at HX.out
    dsimp only at c0 c1 c2
    have d1 := hd1.out
    have zb := HG.out.2.1
    have zn := HG.out.2.2
    have y0 := zb.at 0 (v := .int .i64 0) rfl
    have v0 := zb.free 0
    have y1 := zb.at 1 (v := .string ⟨#[]⟩) rfl
    have v1 := zb.free 1
    have q0 := zn.at 0 (v := .int .i64 0) rfl
    have q1 := zn.at 1 (v := .string ⟨#[]⟩) rfl
    clear zb zn hmn
    go_wp2_with fail
    go_region
    simp only [Exit.then]
    go_wp2_with fail
    refine bodyPost_ret (v := .tuple #[.int .u32 p, .agg #[.int .i64 x.1, .string x.2], .bool true]) (by simp [results, Tryd.results15, go_sem, y0, y1]) rfl ⟨rfl, ?_⟩
    exact (((((HG.out.1).setCell ⟨w.heap.size, 0, none⟩ (.int .i64 x.1) (.inr (Nat.le_refl _)))).setCell ⟨w.heap.size, 1, none⟩ (.string x.2) (.inr (Nat.le_refl _)))).drew
set_option maxRecDepth 100000 in
set_option maxHeartbeats 1000000 in
theorem nextV_no (w : World) (b : Nat) (v : Value) (Ps : List (Int × (Int × ByteArray))) (room id : Int) (all : Bool) (h : TabV w b v Ps room) (hi : U32 id) (hx : nxtV Ps id all = Ps.length) :
    Calls Tryd.prog 15 #[.pointer (some ⟨b, 0, none⟩), .int .u32 id, .bool all] w fun e w' => e = .returned (.tuple #[.int .u32 0, .agg #[.int .i64 0, .string ⟨#[]⟩], .bool false]) ∧ Fr [] w w' := by
  have F0 := ((Fr.refl [] w).alloc (.cells #[.int .i64 0, .string ⟨#[]⟩] 29)).alloc (.cells #[.int .i64 0, .string ⟨#[]⟩] 29)
  have h2 := h.grow F0
  have hL := findV_any _ b v Ps room id h2 hi
  obtain ⟨r, hr⟩ : ∃ r, r = rank Ps id := ⟨_, rfl⟩
  obtain ⟨hs, hhs⟩ : ∃ b, b = hasId Ps id := ⟨_, rfl⟩
  obtain ⟨m, hm⟩ : ∃ m, m = nxtV Ps id all := ⟨_, rfl⟩
  have hml : m ≤ Ps.length := by rw [hm]; exact nxtV_le Ps h.up id all
  have hlim : Ps.length ≤ 65536 := by have := h.lim; omega
  rw [← hm] at hx
  unfold nxtV at hm
  rw [← hr, ← hhs] at hL hm
  have HL := Lib.hid hL
  have HH := Lib.hid h2
  have HX := Lib.hid hx
  have z0 := Blk.new_at (w := w.alloc (.cells #[.int .i64 0, .string ⟨#[]⟩] 29)) (k := w.heap.size + 1) (by simp) #[.int .i64 0, .string ⟨#[]⟩] 29
  have z1 := (Blk.new w #[.int .i64 0, .string ⟨#[]⟩] 29).alloc (.cells #[.int .i64 0, .string ⟨#[]⟩] 29)
  have HF := Lib.hid (And.intro F0 (And.intro z1 z0))
  have hwr : wrap64 ((r : Int) + 1) = (r : Int) + 1 := w64 (by have := rank_le Ps id; omega)
  have HM := Lib.hid (And.intro hml hlim)
  clear h h2 hL hr hhs hx z0 z1 F0 hi hml hlim
  go_enter Tryd.func15, Tryd.ntmps15
  go_wp2_with fail
  (with_reducible refine (liveV_any _ b _ Ps room HH.out).mono ?_)
  rintro e w1 ⟨rfl, rfl⟩
  go_wp2_with fail
  (with_reducible refine (HL.out).mono ?_)
  rintro e w1 ⟨rfl, f1⟩
  have h1 := HH.out.grow f1
  obtain ⟨g, cap, rfl, hc1, hc2, hc3, hr⟩ := h1.row
  have d1 := h1.hd.at 1 (v := .slice (some ⟨g, 0, none⟩) Ps.length cap) rfl
  obtain ⟨n, hn⟩ : ∃ n, n = Ps.length := ⟨_, rfl⟩
  rw [← hn] at d1
  have HN := Lib.hid hn
  clear hn
  have zb := f1.blk HF.out.2.1 (by simp)
  have zn := f1.blk HF.out.2.2 (by simp)
  have HG := Lib.hid (And.intro (HF.out.1.trans f1 (by simp)) (And.intro zb zn))
  have HR := Lib.hid hr
  have hd1 := Lib.hid d1
  clear h1 hr f1 hc1 hc2 hc3 zb zn d1
  go_upto_block 0 with fail
  go_cut [10] (fun s10 wx => s10 = .int .i64 m ∧ wx = w1)
  case first =>
    cases all with
    | true =>
      rw [if_pos rfl] at hm
      subst hm
      go_wp2_with fail
      go_meet
      case rel => exact ⟨rfl, rfl⟩
    | false =>
      rw [if_neg (by decide)] at hm
      cases hs with
      | true =>
        rw [if_pos rfl] at hm
        subst hm
        go_wp2_with fail
        go_meet
        case rel => exact ⟨by go_num, rfl⟩
      | false =>
        rw [if_neg (by decide)] at hm
        subst hm
        go_wp2_with fail
        go_meet
        case rel => exact ⟨rfl, rfl⟩
  case rest =>
    obtain ⟨rfl, rfl⟩ := hcut
    have c1 := hd1.out
    clear hm hwr
    obtain rfl : m = n := by rw [HN.out]; exact HX.out
    have zb := HG.out.2.1
    have zn := HG.out.2.2
    have y0 := zb.at 0 (v := .int .i64 0) rfl
    have v0 := zb.free 0
    have y1 := zb.at 1 (v := .string ⟨#[]⟩) rfl
    have v1 := zb.free 1
    have q0 := zn.at 0 (v := .int .i64 0) rfl
    have q1 := zn.at 1 (v := .string ⟨#[]⟩) rfl
    clear zb zn
    go_wp2_with fail
    go_region
    simp only [Exit.then]
    go_wp2_with fail
    refine bodyPost_ret (v := .tuple #[.int .u32 0, .agg #[.int .i64 0, .string ⟨#[]⟩], .bool false]) (by simp [results, Tryd.results15, go_sem, y0, y1]) rfl ⟨rfl, ?_⟩
    exact (((((HG.out.1).setCell ⟨w.heap.size, 0, none⟩ (.int .i64 0) (.inr (Nat.le_refl _)))).setCell ⟨w.heap.size, 1, none⟩ (.string ⟨#[]⟩) (.inr (Nat.le_refl _)))).drew
end Go.Proofs.YtgoolkgjcmdilaaDoor
namespace Go.Proofs.YtgoolkgjcmdilaaDoor
open Go.RowKit
set_option linter.unusedVariables false
set_option linter.unusedSimpArgs false
attribute [local go_sem] Oper.semAt_some

theorem infoV : (Tryd.prog.info? 143).map (fun i => (i.zero, i.size, i.bytes)) = some (some (.agg #[.int .u32 0, .int .i64 0, .string ⟨#[]⟩]), 3, 32) := by kernel_rfl
theorem sizeV : (Tryd.prog.info? 143).map (·.size) = some 3 := by kernel_rfl
def oneV (p : Int) (x : Int × ByteArray) : List Value := [.int .u32 p, .int .i64 x.1, .string x.2]
theorem oneV_flat (p : Int) (x : Int × ByteArray) : flat payV [(p, x)] = oneV p x := rfl
theorem oneV_len (p : Int) (x : Int × ByteArray) : (oneV p x).length = 3 := rfl
theorem oneV_one (p : Int) (x : Int × ByteArray) : ∀ v ∈ oneV p x, v.oneCell' = true := by
  intro v hv
  rw [← oneV_flat] at hv
  exact flat_one wideV _ v hv
def InsVPost (w : World) (v : Value) (Ps : List (Int × (Int × ByteArray))) (i : Nat) (p : Int) (x : Int × ByteArray) (e : Ending) (w' : World) : Prop :=
  ∃ v', e = .returned v' ∧ w'.ownsRow 0 143 3 v' (Ps.length + 1) (flat payV (Ps.take i ++ (p, x) :: Ps.drop i)) ∧ v'.ownBlock ≠ none ∧ (v'.ownBlock = v.ownBlock ∨ ∃ g, v'.ownBlock = some g ∧ w.heap.size ≤ g) ∧ Fr v.ownBlock.toList w w'
theorem insV_flat (Ps : List (Int × (Int × ByteArray))) (i : Nat) (p : Int) (x : Int × ByteArray) : flat payV (Ps.take i ++ (p, x) :: Ps.drop i) = (flat payV Ps).take (i * 3) ++ oneV p x ++ (flat payV Ps).drop (i * 3) := by
  rw [flat_app, flat_cons, flat_take wideV, flat_drop wideV, List.append_assoc]
  rfl

set_option maxRecDepth 100000 in
set_option maxHeartbeats 4000000 in
/-- At the end. -/
theorem insV_end (w : World) (v : Value) (Ps : List (Int × (Int × ByteArray))) (p : Int) (x : Int × ByteArray) (bv : Nat) (h : w.ownsRow 0 143 3 v Ps.length (flat payV Ps)) (hl : Ps.length < 65536) (hv : Blk w bv (oneV p x).toArray 143) :
    Calls Tryd.prog 64 #[v, .int .i64 Ps.length, .slice (some ⟨bv, 0, none⟩) 1 1] w (InsVPost w v Ps Ps.length p x) := by
  have hvs : ∀ j u, (oneV p x)[j]? = some u → w.cell? ((⟨bv, 0, none⟩ : Addr).add j) = some u := fun j u hj => by
    rw [Addr.add_lit]
    have := hv.at j (v := u) (by simpa using hj)
    simpa using this
  have H := Lib.hid (And.intro h hvs)
  obtain ⟨xs, hxs⟩ : ∃ xs, xs = flat payV Ps := ⟨_, rfl⟩
  have hE : flat payV (Ps.take Ps.length ++ (p, x) :: Ps.drop Ps.length) = xs ++ oneV p x := by
    rw [insV_flat, List.take_of_length_le (by rw [flat_len wideV]; omega), List.drop_of_length_le (by rw [flat_len wideV]; omega), List.append_nil, hxs]
  rw [← hxs] at h
  have hn : v = .slice none 0 0 ∨ ∃ g cap, v = .slice (some ⟨g, 0, none⟩) Ps.length cap := by
    rcases h.2 with ⟨rfl, h0⟩ | ⟨g, cap, _, rfl, _⟩
    · exact .inl rfl
    · exact .inr ⟨g, cap, rfl⟩
  obtain ⟨n, hn'⟩ : ∃ n, n = Ps.length := ⟨_, rfl⟩
  have hn0 : v = .slice none 0 0 → n = 0 := fun e => by
    subst e
    rcases h.2 with ⟨_, h0⟩ | ⟨g, cap, _, e, _⟩
    · omega
    · cases e
  have HP := Lib.hid (show ∀ v' w', Appended w 143 3 v (n + 1) (xs ++ oneV p x) v' w' → InsVPost w v Ps n p x (.returned v') w' from fun v' w' ha => by
    refine ⟨v', rfl, ?_, ?_, ?_, ha.fr⟩
    · rw [hn', hE, ← hn']; exact ha.own
    · obtain ⟨g, c, e⟩ := own_succ ha.own
      rw [e]; simp [Value.ownBlock]
    · rcases ha.place with e | e
      · exact .inl e
      · exact .inr ⟨_, e, Nat.le_refl _⟩)
  rw [← hn'] at h hl hn ⊢
  have H2 := Lib.hid h
  clear h hv hvs hE hxs hn'
  have HO := Lib.hid (oneV_one p x)
  generalize hone : oneV p x = vs at *
  have hvl : vs.length = 3 := by rw [← hone]; rfl
  clear hone
  rcases hn with rfl | ⟨g, cap, rfl⟩
  · obtain rfl : n = 0 := hn0 rfl
    clear hn0
    go_enter Tryd.func64, Tryd.ntmps64
    go_wp2_with (at_builtin; go_must (refine wpList_app _ rfl _ _ 66 rfl 143 (.agg #[.int .u32 0, .int .i64 0, .string ⟨#[]⟩]) 3 32 Tryd.underlying66 infoV rfl (by decide) _ 0 xs rfl H2.out ⟨bv, 0, none⟩ 1 1 vs rfl (by rw [hvl]) H.out.2 HO.out (by unfold maxLen; omega) (by omega) ?_); intro v1 w3 happ; have HAP := Lib.hid happ; clear happ)
    all_goals (go_ret; exact HP.out _ _ HAP.out)
  · clear hn0
    go_enter Tryd.func64, Tryd.ntmps64
    go_wp2_with (at_builtin; go_must (refine wpList_app _ rfl _ _ 66 rfl 143 (.agg #[.int .u32 0, .int .i64 0, .string ⟨#[]⟩]) 3 32 Tryd.underlying66 infoV rfl (by decide) _ n xs rfl H2.out ⟨bv, 0, none⟩ 1 1 vs rfl (by rw [hvl]) H.out.2 HO.out (by unfold maxLen; omega) (by omega) ?_); intro v1 w3 happ; have HAP := Lib.hid happ; clear happ)
    all_goals (go_ret; exact HP.out _ _ HAP.out)

theorem ovlV_no (w : World) (bv g lb cb o : Nat) (p : Int) (x : Int × ByteArray) (cur : Array Value) (hv : Blk w bv (oneV p x).toArray 143) (hg : Blk w g cur 143) (hne : bv ≠ g) (hc : cur.size ≠ 0) :
    (callFunc 129 #[.slice (some ⟨bv, 0, none⟩) 1 1, .slice (some ⟨g, o, none⟩) lb cb]).run Tryd.prog w = .ok (.value (.bool false)) w := by
  rw [run_callFunc_extern Tryd.func129 (by kernel_rfl) (by kernel_rfl) (by kernel_rfl) (e := Extern.SlicesOverlaps.overlaps #[66, 66] #[4]) (by kernel_rfl),
    Lib.run_overlaps_apart w 66 4 143 Tryd.underlying66 3 (fun w => by kernel_rfl) ⟨bv, 0, none⟩ ⟨g, o, none⟩ 1 1 lb cb hne 143 143 3 cur.size (by unfold World.shape?; rw [hv]; rfl) (by unfold World.shape?; rw [hg]) hc (hv.free 0) (hv.free 3)]
  rfl
set_option maxRecDepth 100000 in
set_option maxHeartbeats 4000000 in
/-- In the midst, in place. -/
theorem insV_room (w : World) (g cap : Nat) (cur : Array Value) (Ps : List (Int × (Int × ByteArray))) (i : Nat) (p : Int) (x : Int × ByteArray) (bv : Nat) (hg : Blk w g cur 143) (hm : cap ≤ maxLen) (hcs : cur.size = cap * 3) (htake : cur.toList.take (Ps.length * 3) = flat payV Ps)
    (hi : i < Ps.length) (hnc : Ps.length < cap) (hl : Ps.length < 65536) (hv : Blk w bv (oneV p x).toArray 143) (hne : bv ≠ g) :
    Calls Tryd.prog 64 #[.slice (some ⟨g, 0, none⟩) Ps.length cap, .int .i64 i, .slice (some ⟨bv, 0, none⟩) 1 1] w (InsVPost w (.slice (some ⟨g, 0, none⟩) Ps.length cap) Ps i p x) := by
  obtain ⟨xs, hxs⟩ : ∃ xs, xs = flat payV Ps := ⟨_, rfl⟩
  have hxl : xs.length = Ps.length * 3 := by rw [hxs]; exact flat_len wideV Ps
  have hE := insV_flat Ps i p x
  rw [← hxs] at hE htake
  obtain ⟨n, hn⟩ : ∃ n, n = Ps.length := ⟨_, rfl⟩
  obtain ⟨vs, hvs⟩ : ∃ vs, vs = oneV p x := ⟨_, rfl⟩
  have hvl : vs.length = 3 := by rw [hvs]; rfl
  have hvo : ∀ v ∈ vs, v.oneCell' = true := by rw [hvs]; exact oneV_one p x
  have hxo : ∀ v ∈ xs.drop (i * 3), v.oneCell' = true := fun v hv => flat_one wideV Ps v (hxs ▸ List.mem_of_mem_drop hv)
  rw [← hn] at hi hnc hl hxl htake ⊢
  have htk : cur.toList.take xs.length = xs := by rw [hxl]; exact htake
  have hcl : cur.toList.length = cap * 3 := by simpa using hcs
  have hfit : xs.length + 3 ≤ cur.toList.length := by rw [hxl, hcl]; omega
  have hpl : i * 3 ≤ xs.length := by rw [hxl]; omega
  have hov := fun lb cb o => ovlV_no w bv g lb cb o p x cur hv hg hne (by rw [hcs]; omega)
  have hc63 : cap ≤ 9223372036854775807 := by unfold maxLen at hm; omega
  have hsrc1 : ∀ j u, (xs.drop (i * 3))[j]? = some u → w.drew.cell? ((⟨g, i * 3, none⟩ : Addr).add j) = some u := fun j u hj => by
    rw [Addr.add_lit]
    rw [List.getElem?_drop] at hj
    have hj2 : cur.toList[i * 3 + j]? = some u := by
      rw [← htk, List.getElem?_take] at hj
      split at hj
      · exact hj
      · cases hj
    exact hg.at (i * 3 + j) (by simpa using hj2)
  have hmn : Nat.min (n + 1 - i) (n - i) = n - i := by simp only [Nat.min_def]; split <;> omega
  have hmn2 : Nat.min 1 (n + 1 - i) = 1 := by simp only [Nat.min_def]; split <;> omega
  have hcp1 : ∀ ty dc sc, (Builtin.copy_ #[66, 66] ty #[.slice (some ⟨g, i * 3 + 3, none⟩) (n - i) dc, .slice (some ⟨g, i * 3, none⟩) (n + 1 - i) sc]).run Tryd.prog w.drew = .ok (goInt ((n - i : Nat) : Int)) (w.drew.setRow g (up1 cur.toList xs (i * 3) 3).toArray) := fun ty dc sc => by
    have h := run_copy_k w.drew 66 66 ty 143 3 g (i * 3 + 3) (n - i) dc ⟨g, i * 3, none⟩ (n + 1 - i) sc cur 143 (xs.drop (i * 3)) Tryd.underlying66 sizeV hg
      (by rw [List.length_drop, hxl, hmn]; omega) hsrc1 (by rw [List.length_drop, hxl, hcs]; omega) hxo
    rw [hmn] at h
    exact h
  obtain ⟨W1, hW1⟩ : ∃ W1, W1 = w.drew.setRow g (up1 cur.toList xs (i * 3) 3).toArray := ⟨_, rfl⟩
  have hg1 : Blk W1 g (up1 cur.toList xs (i * 3) 3).toArray 143 := by rw [hW1]; exact setRow_heap w.drew g cur _ 143 _ hg
  have hv1 : Blk W1 bv vs.toArray 143 := by rw [hW1, hvs]; exact (setRow_other w.drew g bv _ hne).trans hv
  have hcp2 : ∀ ty dc, (Builtin.copy_ #[66, 66] ty #[.slice (some ⟨g, i * 3, none⟩) (n + 1 - i) dc, .slice (some ⟨bv, 0, none⟩) 1 1]).run Tryd.prog W1 = .ok (goInt (1 : Nat)) (W1.setRow g (up2 cur.toList xs vs (i * 3) 3).toArray) := fun ty dc => by
    have h := run_copy_k W1 66 66 ty 143 3 g (i * 3) (n + 1 - i) dc ⟨bv, 0, none⟩ 1 1 _ 143 vs Tryd.underlying66 sizeV hg1
      (by rw [hmn2, hvl]) (fun j u hj => by rw [Addr.add_lit]; exact hv1.at (0 + j) (by simpa using hj)) (by have := up1_len (K := 3) hpl hfit; rw [hcl] at this; rw [List.size_toArray, this, hvl]; omega) hvo
    rw [hmn2] at h
    simpa [up2] using h
  have HW := Lib.hid (And.intro hW1 (And.intro hg1 hv1))
  rw [← hW1] at hcp1
  have HC1 := Lib.hid hcp1
  have HC2 := Lib.hid hcp2
  have HOV := Lib.hid hov
  have hz2 : ¬ ((i : Int) = (n : Int)) := by omega
  have hb1 : (0 : Int) ≤ (i : Int) + 1 := by omega
  have hin : i ≤ n := by omega
  have hb2 : ¬ (cap = i + 1) := by omega
  have hb3 : (i : Int) ≤ (n : Int) + 1 := by omega
  have hb4 : ¬ (cap = i) := by omega
  have hb5 : ¬ (cap : Int) < (n : Int) + 1 := by omega
  have mixed : Tryd.prog.follows Departure.mixedOrders = true := by kernel_rfl
  have hw1 : IntKind.i64.wrap ((i : Int) + 1) = (i : Int) + 1 := wr (by omega)
  have htn : ((i : Int) + 1).toNat = i + 1 := by omega
  have hb6 : (i : Int) + 1 ≤ (n : Int) + 1 := by omega
  have HALL := Lib.hid (And.intro hE (And.intro hn (And.intro htk (And.intro hfit (And.intro hpl (And.intro hvl (And.intro hvs (And.intro hxl (And.intro hcl (And.intro hg hm))))))))))
  clear hE hn htk hfit hpl hvl hvs hxl hcl hg hm hvo hxo hsrc1 hv hg1 hv1 hcp1 hcp2 hW1 hmn hmn2 htake hcs hxs
  go_enter Tryd.func64, Tryd.ntmps64
  go_wp2_with (simp only [HOV.out])
  go_region_law_o (refine step_copyR rfl _ _ 66 66 rfl (.slice (some ⟨g, i * 3 + 3, none⟩) (n - i) (cap - (i + 1))) (.slice (some ⟨g, i * 3, none⟩) (n + 1 - i) (cap - i)) (by simp [Act.eval, Act.put]) (by simp [Act.eval, Act.put]) (HC1.out 3 (cap - (i + 1)) (cap - i)) ?_)
  go_wp2_with (refine wpList_copyR _ rfl _ _ 66 66 rfl (.slice (some ⟨g, i * 3, none⟩) (n + 1 - i) (cap - i)) (.slice (some ⟨bv, 0, none⟩) 1 1) rfl rfl (HC2.out 3 (cap - i)) ?_)
  go_ret
  obtain ⟨hE, hn, htk, hfit, hpl, hvl, hvs, hxl, hcl, hg, hm⟩ := HALL.out
  obtain ⟨hW1, hg1, hv1⟩ := HW.out
  refine ⟨.slice (some ⟨g, 0, none⟩) (n + 1) cap, rfl, ⟨?_, .inr ⟨g, cap, _, by rw [← hn], Nat.zero_le _, setRow_heap W1 g _ _ 143 _ hg1, by omega, hm, ?_, ?_⟩⟩, by simp [Value.ownBlock], .inl rfl, ?_⟩
  · rw [flat_len wideV]
    simp; omega
  · rw [List.size_toArray, up2_len hpl hfit hvl, hcl]
  · have := up2_take hpl htk hfit hvl
    rw [hE, ← hvs, ← this, hxl, ← hn]
    rw [show (n + 1) * 3 = n * 3 + 3 by omega]
  · rw [hW1]
    exact (((Fr.refl _ w).drew).setRow g _ (.inl (by simp [Value.ownBlock]))).setRow g _ (.inl (by simp [Value.ownBlock]))
set_option maxRecDepth 100000 in
set_option maxHeartbeats 4000000 in
/-- In the midst, no room. -/
theorem insV_grow (w : World) (g cap : Nat) (Ps : List (Int × (Int × ByteArray))) (i : Nat) (p : Int) (x : Int × ByteArray) (bv : Nat) (h : w.ownsRow 0 143 3 (.slice (some ⟨g, 0, none⟩) Ps.length cap) Ps.length (flat payV Ps))
    (hi : i < Ps.length) (hnc : cap = Ps.length) (hl : Ps.length < 65536) (hv : Blk w bv (oneV p x).toArray 143) :
    Calls Tryd.prog 64 #[.slice (some ⟨g, 0, none⟩) Ps.length cap, .int .i64 i, .slice (some ⟨bv, 0, none⟩) 1 1] w (InsVPost w (.slice (some ⟨g, 0, none⟩) Ps.length cap) Ps i p x) := by
  have hcells : ∀ j u, (flat payV Ps)[j]? = some u → w.cell? ⟨g, j, none⟩ = some u := fun j u hu => by
    have := h.cells (g := g) rfl j u hu
    rw [Addr.add_lit] at this
    simpa using this
  have hgw : g < w.heap.size := own_lt h rfl
  obtain ⟨xs, hxs⟩ : ∃ xs, xs = flat payV Ps := ⟨_, rfl⟩
  have hxl : xs.length = Ps.length * 3 := by rw [hxs]; exact flat_len wideV Ps
  have hE := insV_flat Ps i p x
  rw [← hxs] at hE hcells
  obtain ⟨n, hn⟩ : ∃ n, n = Ps.length := ⟨_, rfl⟩
  obtain ⟨vs, hvs⟩ : ∃ vs, vs = oneV p x := ⟨_, rfl⟩
  have hvl : vs.length = 3 := by rw [hvs]; rfl
  have hvo : ∀ v ∈ vs, v.oneCell' = true := by rw [hvs]; exact oneV_one p x
  have hxo : ∀ v ∈ xs.drop (i * 3), v.oneCell' = true := fun v hv => flat_one wideV Ps v (hxs ▸ List.mem_of_mem_drop hv)
  rw [← hn] at hi hnc hl hxl ⊢
  subst hnc
  have hpl : i * 3 ≤ xs.length := by rw [hxl]; omega
  obtain ⟨i0, hi0, hz0, hzs, hzb⟩ := info_parts infoV
  have hold : (Builtin.firstCells i0.size i (.slice (some ⟨g, 0, none⟩) i cap)).run Tryd.prog w.drew = .ok (xs.take (i * 3)).toArray w.drew := by
    rw [hzs]
    exact run_firstCells_some w.drew 3 i ⟨g, 0, none⟩ i cap (xs.take (i * 3)) (by rw [List.length_take]; omega) (fun j v hj => by
      rw [Addr.add_lit]
      rw [List.getElem?_take] at hj
      split at hj
      · have := hcells j v hj
        simpa using this
      · cases hj)
  obtain ⟨G, hG⟩ : ∃ G, G = grownCap w (cap + 1) cap 143 := ⟨_, rfl⟩
  have hGn : cap + 1 ≤ G := by rw [hG]; exact grownCap_ge w _ _ _
  have hGm : G ≤ maxLen := by rw [hG]; exact grownCap_le_maxLen w _ _ _ (by unfold maxLen; omega)
  have hG63 : G ≤ 9223372036854775807 := by unfold maxLen at hGm; omega
  obtain ⟨zs, hzs'⟩ : ∃ zs, zs = (Builtin.zeroCells (.agg #[.int .u32 0, .int .i64 0, .string ⟨#[]⟩] : Value).cells (cap + 1 - i)).toList ++ (Builtin.zeroCells (.agg #[.int .u32 0, .int .i64 0, .string ⟨#[]⟩] : Value).cells (G - (cap + 1))).toList := ⟨_, rfl⟩
  have hzl : zs.length = (cap + 1 - i) * 3 + (G - (cap + 1)) * 3 := by rw [hzs']; simp [Builtin.zeroCells, Value.cells]
  have hrz : ∀ ty, (Builtin.append_ #[66, 3] ty #[.slice (some ⟨g, 0, none⟩) i cap, .int .i64 ((cap : Int) + 1 - (i : Int))]).run Tryd.prog w = .ok (.slice (some ⟨w.heap.size, 0, none⟩) (cap + 1) G) (w.drew.alloc (.cells (xs.take (i * 3) ++ zs).toArray 143)) := fun ty => by
    have hq := Lib.run_append_grow_zeros w 66 3 ty 143 i0 _ .i64 .i64 Tryd.underlying66 Tryd.underlying3 hi0 hz0 (some ⟨g, 0, none⟩) i cap (xs.take (i * 3)) hold (cap + 1 - i) (by omega) (by rw [hzs]; omega) (by omega) (by omega) (by rw [hzb]; omega)
      (by rw [hzb, show i + (cap + 1 - i) = cap + 1 by omega]; exact growslice_fits (by omega) (by omega))
    rw [show i + (cap + 1 - i) = cap + 1 by omega, ← hG] at hq
    rw [show (cap : Int) + 1 - (i : Int) = ((cap + 1 - i : Nat) : Int) by omega, hq, hzs']
    have ha : (xs.take (i * 3)).toArray ++ Builtin.zeroCells (.agg #[.int .u32 0, .int .i64 0, .string ⟨#[]⟩] : Value).cells (cap + 1 - i) ++ Builtin.zeroCells (.agg #[.int .u32 0, .int .i64 0, .string ⟨#[]⟩] : Value).cells (G - (cap + 1)) = (xs.take (i * 3) ++ ((Builtin.zeroCells (.agg #[.int .u32 0, .int .i64 0, .string ⟨#[]⟩] : Value).cells (cap + 1 - i)).toList ++ (Builtin.zeroCells (.agg #[.int .u32 0, .int .i64 0, .string ⟨#[]⟩] : Value).cells (G - (cap + 1))).toList)).toArray := by
      apply Array.ext'
      simp [List.append_assoc]
    rw [ha]
  obtain ⟨W1, hW1⟩ : ∃ W1, W1 = w.drew.alloc (.cells (xs.take (i * 3) ++ zs).toArray 143) := ⟨_, rfl⟩
  rw [← hW1] at hrz
  obtain ⟨g', hg'⟩ : ∃ g', g' = w.heap.size := ⟨_, rfl⟩
  rw [← hg'] at hrz
  have hB1 : Blk W1 g' (xs.take (i * 3) ++ zs).toArray 143 := by rw [hW1, hg']; exact Blk.new w.drew _ _
  have hvB : Blk W1 bv vs.toArray 143 := by rw [hW1, hvs]; exact Blk.alloc (w := w.drew) hv _
  have hbv : bv ≠ g' := by have := hv.lt; omega
  have hgg : g ≠ g' := by omega
  have hmn : Nat.min 1 (cap + 1 - i) = 1 := by simp only [Nat.min_def]; split <;> omega
  have hmn2 : Nat.min (cap - i) (cap - i) = cap - i := by simp only [Nat.min_def]; split <;> omega
  have hcp1 : ∀ ty dc, (Builtin.copy_ #[66, 66] ty #[.slice (some ⟨g', i * 3, none⟩) (cap + 1 - i) dc, .slice (some ⟨bv, 0, none⟩) 1 1]).run Tryd.prog W1 = .ok (goInt ((1 : Nat) : Int)) (W1.setRow g' (new1 xs vs zs (i * 3)).toArray) := fun ty dc => by
    have hq := run_copy_k W1 66 66 ty 143 3 g' (i * 3) (cap + 1 - i) dc ⟨bv, 0, none⟩ 1 1 _ 143 vs Tryd.underlying66 sizeV hB1
      (by rw [hmn, hvl]) (fun j u hj => by rw [Addr.add_lit]; exact hvB.at (0 + j) (by simpa using hj)) (by rw [List.size_toArray, List.length_append, List.length_take, hzl, hvl]; omega) hvo
    rw [hmn] at hq
    simpa [new1] using hq
  obtain ⟨W2, hW2⟩ : ∃ W2, W2 = W1.setRow g' (new1 xs vs zs (i * 3)).toArray := ⟨_, rfl⟩
  rw [← hW2] at hcp1
  have hB2 : Blk W2 g' (new1 xs vs zs (i * 3)).toArray 143 := by rw [hW2]; exact setRow_heap W1 g' _ _ 143 _ hB1
  have hnl : (xs.drop (i * 3)).length + vs.length ≤ zs.length := by rw [List.length_drop, hzl, hvl, hxl]; omega
  have hcp2 : ∀ ty dc sc, (Builtin.copy_ #[66, 66] ty #[.slice (some ⟨g', i * 3 + 3, none⟩) (cap - i) dc, .slice (some ⟨g, i * 3, none⟩) (cap - i) sc]).run Tryd.prog W2.drew = .ok (goInt ((cap - i : Nat) : Int)) (W2.drew.setRow g' (new2 xs vs zs (i * 3)).toArray) := fun ty dc sc => by
    have hq := run_copy_k W2.drew 66 66 ty 143 3 g' (i * 3 + 3) (cap - i) dc ⟨g, i * 3, none⟩ (cap - i) sc _ 143 (xs.drop (i * 3)) Tryd.underlying66 sizeV hB2
      (by rw [List.length_drop, hxl, hmn2]; omega) (fun j u hj => by
        rw [Addr.add_lit]
        rw [List.getElem?_drop] at hj
        have e : W2.drew.cell? ⟨g, i * 3 + j, none⟩ = w.cell? ⟨g, i * 3 + j, none⟩ := by
          refine World.cell?_of_block ?_
          show W2.heap[g]? = w.heap[g]?
          rw [hW2, setRow_other W1 g' g _ hgg, hW1]
          exact heap_alloc_old w.drew _ hgw
        rw [e]
        exact hcells _ _ hj) (by rw [List.size_toArray, new1_len hpl hnl, List.length_drop, hzl, hxl]; omega) hxo
    rw [hmn2] at hq
    simpa [new2, hvl] using hq
  have HR := Lib.hid hrz
  have HC1 := Lib.hid hcp1
  have HC2 := Lib.hid hcp2
  have HALL := Lib.hid (And.intro hE (And.intro hn (And.intro hpl (And.intro hnl (And.intro hvl (And.intro hvs (And.intro hxl (And.intro hzl (And.intro hGm (And.intro hW1 (And.intro hW2 (And.intro hB2 hg'))))))))))))
  have hz2 : ¬ ((i : Int) = (cap : Int)) := by omega
  have hz3 : (cap : Int) < (cap : Int) + 1 := by omega
  have hb1 : (0 : Int) ≤ (i : Int) + 1 := by omega
  have hin : i ≤ cap := by omega
  have hGi : ¬ (G = i) := by omega
  have hGim : ¬ (G = i + 1) := by omega
  have hci : ¬ (cap = i) := by omega
  have mixed : Tryd.prog.follows Departure.mixedOrders = true := by kernel_rfl
  have hw1 : IntKind.i64.wrap ((i : Int) + 1) = (i : Int) + 1 := wr (by omega)
  have htn : ((i : Int) + 1).toNat = i + 1 := by omega
  have hb6 : (i : Int) + 1 ≤ (cap : Int) + 1 := by omega
  have hb3 : (i : Int) ≤ (cap : Int) + 1 := by omega
  clear hE hn hpl hnl hvl hvs hxl hzl hGm hW1 hW2 hB2 hB1 hvB hv hvo hxo h hcells hxs hrz hcp1 hcp2 hold hi0 hz0 hzs hzb hG hzs' hmn hmn2 hgw hbv hgg hg'
  go_enter Tryd.func64, Tryd.ntmps64
  go_wp2_with (first
    | (at_builtin; go_must (refine wpList_appR _ rfl _ _ 66 3 rfl (.slice (some ⟨g, 0, none⟩) i cap) (.int .i64 ((cap : Int) + 1 - (i : Int))) rfl rfl (HR.out _) ?_))
    | (refine wpList_copyR _ rfl _ _ 66 66 rfl (.slice (some ⟨g', i * 3, none⟩) (cap + 1 - i) (G - i)) (.slice (some ⟨bv, 0, none⟩) 1 1) rfl rfl (HC1.out 3 (G - i)) ?_))
  go_region_law_o (refine step_copyR rfl _ _ 66 66 rfl (.slice (some ⟨g', i * 3 + 3, none⟩) (cap - i) (G - (i + 1))) (.slice (some ⟨g, i * 3, none⟩) (cap - i) (cap - i)) (by simp [Act.eval, Act.put]) (by simp [Act.eval, Act.put]) (HC2.out 3 (G - (i + 1)) (cap - i)) ?_)
  go_wp2
  go_ret
  obtain ⟨hE, hn, hpl, hnl, hvl, hvs, hxl, hzl, hGm, hW1, hW2, hB2, hg'⟩ := HALL.out
  refine ⟨.slice (some ⟨g', 0, none⟩) (cap + 1) G, rfl, ⟨?_, .inr ⟨g', G, _, by rw [← hn], Nat.zero_le _, setRow_heap W2.drew g' _ _ 143 _ hB2, by omega, hGm, ?_, ?_⟩⟩, by simp [Value.ownBlock], .inr ⟨g', rfl, by omega⟩, ?_⟩
  · rw [flat_len wideV]
    simp; omega
  · rw [List.size_toArray, new2_len hpl hnl, hzl]
    omega
  · have := new2_take hpl hnl
    rw [hE, ← hvs, ← this, hxl, hvl, ← hn, show (cap + 1) * 3 = cap * 3 + 3 by omega]
  · rw [hW2, hW1]
    exact ((((((Fr.refl _ w).drew).alloc _).setRow g' _ (.inr (by omega))).drew).setRow g' _ (.inr (by omega)))
theorem insV_any (w : World) (v : Value) (Ps : List (Int × (Int × ByteArray))) (i : Nat) (p : Int) (x : Int × ByteArray) (bv : Nat) (h : w.ownsRow 0 143 3 v Ps.length (flat payV Ps)) (nn : v.ownBlock ≠ none) (hi : i ≤ Ps.length) (hl : Ps.length < 65536)
    (hv : Blk w bv (oneV p x).toArray 143) (hne : v.ownBlock ≠ some bv) :
    Calls Tryd.prog 64 #[v, .int .i64 i, .slice (some ⟨bv, 0, none⟩) 1 1] w (InsVPost w v Ps i p x) := by
  rcases Nat.lt_or_ge i Ps.length with hlt | hge
  · rcases h.2 with ⟨rfl, _⟩ | ⟨g, cap, cur, rfl, _, hg, hnc, hm, hcs, htake⟩
    · exact absurd rfl nn
    · rcases Nat.lt_or_ge Ps.length cap with hc | hc
      · exact insV_room w g cap cur Ps i p x bv hg hm hcs htake hlt hc hl hv (fun e => hne (by rw [e]; rfl))
      · exact insV_grow w g cap Ps i p x bv h hlt (by omega) hl hv
  · obtain rfl : i = Ps.length := by omega
    exact insV_end w v Ps p x bv h hl hv
end Go.Proofs.YtgoolkgjcmdilaaDoor
namespace Go.Proofs.YtgoolkgjcmdilaaDoor
open Go.RowKit
set_option linter.unusedVariables false
set_option linter.unusedSimpArgs false
attribute [local go_sem] Oper.semAt_some

theorem own_set {w : World} {e : TypeId} {K n g : Nat} {v : Value} {xs : List Value} (h : w.ownsRow 0 e K v n xs) (hg : v.ownBlock = some g) (j : Nat) (u : Value) (hj : j < xs.length) : (w.setCell ⟨g, j, none⟩ u).ownsRow 0 e K v n (xs.set j u) := by
  refine ⟨by rw [List.length_set]; exact h.1, ?_⟩
  rcases h.2 with ⟨rfl, _⟩ | ⟨g', cap, cur, rfl, hb, hgg, hnc, hm, hcs, htake⟩
  · simp [Value.ownBlock] at hg
  · simp [Value.ownBlock] at hg
    subst hg
    refine .inr ⟨g', cap, cur.setIfInBounds j u, rfl, hb, Blk.set hgg j u, hnc, hm, by simpa using hcs, ?_⟩
    rw [Array.toList_setIfInBounds, List.take_set, htake]
theorem setV_flat {Ps : List (Int × (Int × ByteArray))} {r : Nat} {id : Int} {y : Int × ByteArray} (h : Ps[r]? = some (id, y)) (x : Int × ByteArray) : (((flat payV Ps).set (r * 3 + 1) (.int .i64 x.1)).set (r * 3 + 2) (.string x.2)) = flat payV (Ps.set r (id, x)) := by
  obtain ⟨hr, e⟩ := List.getElem?_eq_some_iff.1 h
  have hA : (flat payV (Ps.take r)).length = r * 3 := by rw [flat_len wideV, List.length_take, Nat.min_eq_left (by omega)]
  have hx : (Ps.set r (id, x))[r]? = some (id, x) := by rw [List.getElem?_set_self (by omega)]
  rw [flat_split h, flat_split hx, List.take_set_of_le (Nat.le_refl r), List.drop_set_of_lt (by omega)]
  rw [List.set_append_right _ _ (by omega)]; rw [List.set_append_right _ _ (by omega)]
  rw [show r * 3 + 1 - (flat payV (Ps.take r)).length = 1 by omega, show r * 3 + 2 - (flat payV (Ps.take r)).length = 2 by omega]
  rfl
theorem ownV_set {W : World} {v : Value} {g : Nat} {Ps : List (Int × (Int × ByteArray))} {r : Nat} {id : Int} {y : Int × ByteArray} (h : W.ownsRow 0 143 3 v Ps.length (flat payV Ps)) (hg : v.ownBlock = some g) (hy : Ps[r]? = some (id, y)) (x : Int × ByteArray) :
    ((W.setCell ⟨g, r * 3 + 1, none⟩ (.int .i64 x.1)).setCell ⟨g, r * 3 + 2, none⟩ (.string x.2)).ownsRow 0 143 3 v (Ps.set r (id, x)).length (flat payV (Ps.set r (id, x))) := by
  have hl : (flat payV Ps).length = Ps.length * 3 := flat_len wideV Ps
  have hr := (List.getElem?_eq_some_iff.1 hy).1
  rw [← setV_flat hy x, List.length_set]
  exact own_set (own_set h hg _ _ (by omega)) hg _ _ (by rw [List.length_set]; omega)
theorem tabV_set {W : World} {b : Nat} {v : Value} {g : Nat} {Ps : List (Int × (Int × ByteArray))} {room : Int} {r : Nat} {id : Int} {y : Int × ByteArray} (h : TabV W b v Ps room) (hg : v.ownBlock = some g) (hy : Ps[r]? = some (id, y)) (x : Int × ByteArray) :
    TabV ((W.setCell ⟨g, r * 3 + 1, none⟩ (.int .i64 x.1)).setCell ⟨g, r * 3 + 2, none⟩ (.string x.2)) b v (Ps.set r (id, x)) room := by
  have hbg : b ≠ g := fun e => h.notin (by rw [hg, e]; simp)
  refine ⟨(h.hd.other _ _ hbg).other _ _ hbg, ownV_set h.own hg hy x, h.nn, up_set h.up hy, fun p hp => ?_, by rw [List.length_set]; exact h.lim⟩
  rcases List.mem_or_eq_of_mem_set hp with hp | rfl
  · exact h.ids p hp
  · exact h.ids (id, y) (List.mem_of_getElem? hy)
theorem tabV_ins {W : World} {b : Nat} {v0 v' : Value} {Ps : List (Int × (Int × ByteArray))} {room id : Int} {x : Int × ByteArray} (hb : Blk W b #[.int .i64 room, v0] 68)
    (ho : W.ownsRow 0 143 3 v' (Ps.length + 1) (flat payV (insAt Ps id x))) (hnn : v'.ownBlock ≠ none) (hne : ∀ g, v'.ownBlock = some g → g ≠ b) (hu : Up Ps) (hids : ∀ p ∈ Ps, U32 p.1) (hi : U32 id) (hh : hasId Ps id = false) (hl : (Ps.length : Int) < room) (h6 : room ≤ 65536) :
    TabV (W.setCell ⟨b, 1, none⟩ v') b v' (insAt Ps id x) room := by
  have hlen : (insAt Ps id x).length = Ps.length + 1 := by
    have := rank_le Ps id
    simp [insAt]; omega
  refine ⟨hb.set 1 v', ?_, hnn, up_ins hu x hh, fun p hp => ?_, by rw [hlen]; omega⟩
  · rw [hlen]
    exact own_fr ho ((Fr.refl [b] W).setCell _ _ (.inl (by simp))) (fun g e => by have := hne g e; simp; exact this)
  · unfold insAt at hp
    rcases List.mem_append.1 hp with hp | hp
    · exact hids p (List.mem_of_mem_take hp)
    · rcases List.mem_cons.1 hp with rfl | hp
      · exact hi
      · exact hids p (List.mem_of_mem_drop hp)
def PutVPost (w : World) (b : Nat) (v : Value) (Qs : List (Int × (Int × ByteArray))) (room : Int) (a : Value) (e : Ending) (w' : World) : Prop :=
  e = .returned (.tuple #[a, .int .i64 0]) ∧ ∃ v', TabV w' b v' Qs room ∧ (v'.ownBlock = v.ownBlock ∨ ∃ g, v'.ownBlock = some g ∧ w.heap.size ≤ g) ∧ Fr (b :: v.ownBlock.toList) w w'
set_option maxRecDepth 100000 in
set_option maxHeartbeats 1000000 in
theorem putV_old (w : World) (b : Nat) (v : Value) (Ps : List (Int × (Int × ByteArray))) (room id : Int) (x y : Int × ByteArray) (h : TabV w b v Ps room) (hi : U32 id) (hx : Ps[rank Ps id]? = some (id, y)) :
    Calls Tryd.prog 13 #[.pointer (some ⟨b, 0, none⟩), .int .u32 id, .agg #[.int .i64 x.1, .string x.2]] w (PutVPost w b v (Ps.set (rank Ps id) (id, x)) room (.agg #[.int .i64 y.1, .string y.2])) := by
  have F0 := (((Fr.refl [] w).alloc (.cells #[.int .i64 x.1, .string x.2] 29)).alloc (.cells #[.int .i64 0, .string ⟨#[]⟩] 29)).alloc (.cells #[.int .i64 0, .string ⟨#[]⟩] 29)
  have h2 := h.grow F0
  have hL := findV_any _ b v Ps room id h2 hi
  obtain ⟨r, hr⟩ : ∃ r, r = rank Ps id := ⟨_, rfl⟩
  have hh : hasId Ps id = true := (has_at h.up id).2 ⟨y, hx⟩
  rw [hh] at hL
  rw [← hr] at hL hx ⊢
  have HL := Lib.hid hL
  have HH := Lib.hid h2
  have HX := Lib.hid hx
  have z0 := Blk.new_at (w := (w.alloc (.cells #[.int .i64 x.1, .string x.2] 29)).alloc (.cells #[.int .i64 0, .string ⟨#[]⟩] 29)) (k := w.heap.size + 1 + 1) (by simp) #[.int .i64 0, .string ⟨#[]⟩] 29
  have z1 := (Blk.new_at (w := w.alloc (.cells #[.int .i64 x.1, .string x.2] 29)) (k := w.heap.size + 1) (by simp) #[.int .i64 0, .string ⟨#[]⟩] 29).alloc (.cells #[.int .i64 0, .string ⟨#[]⟩] 29)
  have z2 := ((Blk.new w #[.int .i64 x.1, .string x.2] 29).alloc (.cells #[.int .i64 0, .string ⟨#[]⟩] 29)).alloc (.cells #[.int .i64 0, .string ⟨#[]⟩] 29)
  have HF := Lib.hid (And.intro F0 (And.intro z1 (And.intro z0 z2)))
  have HW := Lib.hid h
  clear h h2 hL hh hx hr z0 z1 z2 F0 hi
  go_enter Tryd.func13, Tryd.ntmps13
  go_wp2_with fail
  (with_reducible refine (liveV_any _ b _ Ps room HH.out).mono ?_)
  rintro e w1 ⟨rfl, rfl⟩
  go_wp2_with fail
  (with_reducible refine (HL.out).mono ?_)
  rintro e w1 ⟨rfl, f1⟩
  have h1 := HH.out.grow f1
  obtain ⟨g, cap, rfl, hc1, hc2, hc3, hr⟩ := h1.row
  have d1 := h1.hd.at 1 (v := .slice (some ⟨g, 0, none⟩) Ps.length cap) rfl
  have hrl := (List.getElem?_eq_some_iff.1 HX.out).1
  obtain ⟨c0, c1, c2⟩ := hr.at HX.out
  dsimp only at c0 c1 c2
  obtain ⟨n, hn⟩ : ∃ n, n = Ps.length := ⟨_, rfl⟩
  rw [← hn] at d1 hrl
  have HN := Lib.hid hn
  have g0 : (0 : Int) ≤ (r : Int) := by omega
  have g1 : (r : Int) < (n : Int) := by omega
  have zb := f1.blk HF.out.2.1 (by simp)
  have zn := f1.blk HF.out.2.2.1 (by simp)
  have zx := f1.blk HF.out.2.2.2 (by simp)
  have hown := h1.own
  have fz : ∀ j, w1.frozen? ⟨g, j, none⟩ = false := fun j => by
    rcases hown.2 with ⟨hh, _⟩ | ⟨g', _, _, hh, _, hgg, _⟩
    · cases hh
    · cases hh; exact Blk.free hgg j
  have HG := Lib.hid (And.intro (HF.out.1.trans f1 (by simp)) (And.intro h1 (And.intro zb (And.intro zn zx))))
  have y0 := zb.at 0 (v := .int .i64 0) rfl
  have v0 := zb.free 0
  have y1 := zb.at 1 (v := .string ⟨#[]⟩) rfl
  have v1 := zb.free 1
  have q0 := zn.at 0 (v := .int .i64 0) rfl
  have q1 := zn.at 1 (v := .string ⟨#[]⟩) rfl
  have x0 := zx.at 0 (v := .int .i64 x.1) rfl
  have x1 := zx.at 1 (v := .string x.2) rfl
  obtain ⟨z9, hz9⟩ : ∃ z, z = w1.heap.size := ⟨_, rfl⟩
  have N4 := Lib.hid (show ¬ z9 = g by omega)
  clear hr hn hrl f1 hc1 hc2 hc3 zb zn zx hown
  go_upto_region 7 with fail
  have f2 : Fr [] w1 (w1.alloc (.cells #[.int .i64 y.1, .string y.2] 29)) := (Fr.refl _ _).alloc _
  have k9 := Blk.new w1 #[.int .i64 y.1, .string y.2] 29
  simp only [← hz9] at *
  clear hz9
  generalize w1.alloc _ = w2 at *
  have hy1 := h1.grow f2
  clear d1 c0 c1 c2 y0 v0 q0 x0 y1 v1 q1 x1 h1 fz
  obtain ⟨g', cap', hgc, hc1, hc2, hc3, hr⟩ := hy1.row
  cases hgc
  have d1 := hy1.hd.at 1 (v := .slice (some ⟨g, 0, none⟩) Ps.length cap) rfl
  rw [← HN.out] at d1
  obtain ⟨c0, c1, c2⟩ := hr.at HX.out
  dsimp only at c0 c1 c2
  have hown := hy1.own
  have fz : ∀ j, w2.frozen? ⟨g, j, none⟩ = false := fun j => by
    rcases hown.2 with ⟨hh, _⟩ | ⟨g', _, _, hh, _, hgg, _⟩
    · cases hh
    · cases hh; exact Blk.free hgg j
  have zb := f2.blk HG.out.2.2.1 (by simp)
  have zn := f2.blk HG.out.2.2.2.1 (by simp)
  have zx := f2.blk HG.out.2.2.2.2 (by simp)
  have HK := Lib.hid (And.intro (HG.out.1.trans f2 (by simp)) (And.intro hy1 (And.intro zb (And.intro k9 hc3))))
  have y0 := zb.at 0 (v := .int .i64 0) rfl
  have v0 := zb.free 0
  have y1 := zb.at 1 (v := .string ⟨#[]⟩) rfl
  have v1 := zb.free 1
  have q0 := zn.at 0 (v := .int .i64 0) rfl
  have q1 := zn.at 1 (v := .string ⟨#[]⟩) rfl
  have x0 := zx.at 0 (v := .int .i64 x.1) rfl
  have x1 := zx.at 1 (v := .string x.2) rfl
  have k0 := k9.at 0 (v := .int .i64 y.1) rfl
  have k1 := k9.at 1 (v := .string y.2) rfl
  clear hr hc1 hc2 hc3 zb zn zx hown hy1 k9 f2 HG HF HH HL
  have hgw : g < w.heap.size := own_lt HW.out.own rfl
  have n1 : ¬ w.heap.size + 1 = g := by omega
  have n2 : ¬ w.heap.size + 1 + 1 = g := by omega
  have n3 : ¬ w.heap.size = g := by omega
  have n4 := N4.out
  clear hgw
  go_region
  simp only [Exit.then]
  go_wp2_with fail
  refine bodyPost_ret (v := .tuple #[.agg #[.int .i64 y.1, .string y.2], .int .i64 0]) (by simp [results, Tryd.results13, go_sem, n1, y0, y1]) rfl ?_
  obtain ⟨hf, ht, hb6, hk9, hgz⟩ := HK.out
  have ht3 := tabV_set ht rfl HX.out x
  refine ⟨rfl, _, TabV.fr (S := [w.heap.size + 1]) ht3 ?_ ?_ ?_, .inl rfl, ?_⟩
  · exact (((((Fr.refl _ _).drew).setCell ⟨w.heap.size + 1, 0, none⟩ (.int .i64 y.1) (.inl (by simp)))).setCell ⟨w.heap.size + 1, 1, none⟩ (.string y.2) (.inl (by simp)))
  · have := HW.out.hd.lt; simp; omega
  · intro g2 hg2; simp [Value.ownBlock] at hg2; subst hg2; simp; omega
  · exact (((((((hf.mono (by simp)).setCell ⟨g, r * 3 + 1, none⟩ (.int .i64 x.1) (.inl (by simp [Value.ownBlock]))).setCell ⟨g, r * 3 + 2, none⟩ (.string x.2) (.inl (by simp [Value.ownBlock]))).drew).setCell ⟨w.heap.size + 1, 0, none⟩ (.int .i64 y.1) (.inr (by simp)))).setCell ⟨w.heap.size + 1, 1, none⟩ (.string y.2) (.inr (by simp)))
set_option maxRecDepth 100000 in
set_option maxHeartbeats 1000000 in
theorem putV_full (w : World) (b : Nat) (v : Value) (Ps : List (Int × (Int × ByteArray))) (room id : Int) (x : Int × ByteArray) (h : TabV w b v Ps room) (hi : U32 id) (hh : hasId Ps id = false) (hlen : room ≤ (Ps.length : Int)) :
    Calls Tryd.prog 13 #[.pointer (some ⟨b, 0, none⟩), .int .u32 id, .agg #[.int .i64 x.1, .string x.2]] w fun e w' => e = .returned (.tuple #[.agg #[.int .i64 0, .string ⟨#[]⟩], .int .i64 5]) ∧ Fr [] w w' := by
  have F0 := (((Fr.refl [] w).alloc (.cells #[.int .i64 x.1, .string x.2] 29)).alloc (.cells #[.int .i64 0, .string ⟨#[]⟩] 29)).alloc (.cells #[.int .i64 0, .string ⟨#[]⟩] 29)
  have h2 := h.grow F0
  have hL := findV_any _ b v Ps room id h2 hi
  obtain ⟨r, hr⟩ : ∃ r, r = rank Ps id := ⟨_, rfl⟩
  rw [hh] at hL
  have hhid := Lib.hid hh
  rw [← hr] at hL
  have hr0 := Lib.hid hr
  have HL := Lib.hid hL
  have HH := Lib.hid h2
  have z0 := Blk.new_at (w := (w.alloc (.cells #[.int .i64 x.1, .string x.2] 29)).alloc (.cells #[.int .i64 0, .string ⟨#[]⟩] 29)) (k := w.heap.size + 1 + 1) (by simp) #[.int .i64 0, .string ⟨#[]⟩] 29
  have z1 := (Blk.new_at (w := w.alloc (.cells #[.int .i64 x.1, .string x.2] 29)) (k := w.heap.size + 1) (by simp) #[.int .i64 0, .string ⟨#[]⟩] 29).alloc (.cells #[.int .i64 0, .string ⟨#[]⟩] 29)
  have z2 := ((Blk.new w #[.int .i64 x.1, .string x.2] 29).alloc (.cells #[.int .i64 0, .string ⟨#[]⟩] 29)).alloc (.cells #[.int .i64 0, .string ⟨#[]⟩] 29)
  have HF := Lib.hid (And.intro F0 (And.intro z1 (And.intro z0 z2)))
  have HW := Lib.hid h
  have HI := Lib.hid hi
  clear h h2 hL hh hr z0 z1 z2 F0 hi
  go_enter Tryd.func13, Tryd.ntmps13
  go_wp2_with fail
  (with_reducible refine (liveV_any _ b _ Ps room HH.out).mono ?_)
  rintro e w1 ⟨rfl, rfl⟩
  go_wp2_with fail
  (with_reducible refine (HL.out).mono ?_)
  rintro e w1 ⟨rfl, f1⟩
  have h1 := HH.out.grow f1
  obtain ⟨g, cap, rfl, hc1, hc2, hc3, hr⟩ := h1.row
  have d0 := h1.hd.at 0 (v := .int .i64 room) rfl
  have d1 := h1.hd.at 1 (v := .slice (some ⟨g, 0, none⟩) Ps.length cap) rfl
  obtain ⟨n, hn⟩ : ∃ n, n = Ps.length := ⟨_, rfl⟩
  rw [← hn] at d1 hlen
  have HN := Lib.hid hn
  have zb := f1.blk HF.out.2.1 (by simp)
  have zn := f1.blk HF.out.2.2.1 (by simp)
  have zx := f1.blk HF.out.2.2.2 (by simp)
  have HG := Lib.hid (And.intro (HF.out.1.trans f1 (by simp)) (And.intro h1 (And.intro zb (And.intro zn zx))))
  have y0 := zb.at 0 (v := .int .i64 0) rfl
  have v0 := zb.free 0
  have y1 := zb.at 1 (v := .string ⟨#[]⟩) rfl
  have v1 := zb.free 1
  have q0 := zn.at 0 (v := .int .i64 0) rfl
  have q1 := zn.at 1 (v := .string ⟨#[]⟩) rfl
  have x0 := zx.at 0 (v := .int .i64 x.1) rfl
  have x1 := zx.at 1 (v := .string x.2) rfl
  clear h1 hr hn f1 hc1 hc2 hc3 zb zn zx
  go_wp2_with fail
  go_region
  simp only [Exit.then]
  go_wp2_with fail
  refine bodyPost_ret (v := .tuple #[.agg #[.int .i64 0, .string ⟨#[]⟩], .int .i64 5]) (by simp [results, Tryd.results13, go_sem, y0, y1]) rfl ⟨rfl, ?_⟩
  exact ((((HG.out.1.drew).setCell ⟨w.heap.size + 1, 0, none⟩ (.int .i64 0) (.inr (by simp)))).setCell ⟨w.heap.size + 1, 1, none⟩ (.string ⟨#[]⟩) (.inr (by simp)))
structure PutRgnV (f : Value → Value → Value → Value → Value → Value → Value → Value → Value → Value → Value → Value → Value → Array Value) (w1 : World) (b g n cap r : Nat) (Ps : List (Int × (Int × ByteArray))) (room id : Int) (x : Int × ByteArray) (p : Nat → Prop) (a : Act) (w : World) : Prop where
  ex : ∃ x0 x1 x2 x3 x4 x5 x6 x7 x8 x9 x10 x11 x12, a = { tmps := f x0 x1 x2 x3 x4 x5 x6 x7 x8 x9 x10 x11 x12, defers := [] } ∧ (p 0 → x0 = .pointer (some ⟨b, 0, none⟩)) ∧ (p 1 → x1 = .pointer (some ⟨b, 0, none⟩)) ∧ (p 2 → x2 = .pointer (some ⟨b, 0, none⟩)) ∧ (p 3 → x3 = .pointer (some ⟨b, 1, none⟩)) ∧ (p 4 → x4 = .slice (some ⟨g, 0, none⟩) n cap) ∧ (p 5 → x5 = .int .i64 (r : Nat)) ∧ (p 6 → x6 = .int .u32 id) ∧ (p 7 → x7 = .agg #[.int .i64 x.1, .string x.2]) ∧ (p 8 → p 7 ∧ x8 = .agg #[.int .u32 id, .int .i64 x.1, .string x.2]) ∧ (p 9 → p 7 ∧ (¬ p 10 → ∃ z, x9 = .slice (some ⟨z, 0, none⟩) 1 1 ∧ Blk w z (oneV id x).toArray 143 ∧ w1.heap.size ≤ z)) ∧ (p 10 → p 4 ∧ p 7 ∧ p 9 ∧ (¬ p 13 → w.ownsRow 0 143 3 x10 (Ps.length + 1) (flat payV (insAt Ps id x)) ∧ x10.ownBlock ≠ none ∧ (x10.ownBlock = some g ∨ ∃ g', x10.ownBlock = some g' ∧ w1.heap.size ≤ g') ∧ Fr [g] w1 w)) ∧ (p 11 → x11 = .pointer (some ⟨b, 0, none⟩)) ∧ (p 12 → x12 = .pointer (some ⟨b, 1, none⟩)) ∧ (p 13 → p 10 ∧ ∃ v', TabV w b v' (insAt Ps id x) room ∧ (v'.ownBlock = some g ∨ ∃ g', v'.ownBlock = some g' ∧ w1.heap.size ≤ g') ∧ Fr [b, g] w1 w)
  fr : ¬ p 10 → Fr [] w1 w
set_option maxRecDepth 100000 in
set_option maxHeartbeats 4000000 in
theorem putV_new (w : World) (b : Nat) (v : Value) (Ps : List (Int × (Int × ByteArray))) (room id : Int) (x : Int × ByteArray) (h : TabV w b v Ps room) (hi : U32 id) (hh : hasId Ps id = false) (hlen : ¬ room ≤ (Ps.length : Int)) :
    Calls Tryd.prog 13 #[.pointer (some ⟨b, 0, none⟩), .int .u32 id, .agg #[.int .i64 x.1, .string x.2]] w (PutVPost w b v (insAt Ps id x) room (.agg #[.int .i64 0, .string ⟨#[]⟩])) := by
  have F0 := (((Fr.refl [] w).alloc (.cells #[.int .i64 x.1, .string x.2] 29)).alloc (.cells #[.int .i64 0, .string ⟨#[]⟩] 29)).alloc (.cells #[.int .i64 0, .string ⟨#[]⟩] 29)
  have h2 := h.grow F0
  have hL := findV_any _ b v Ps room id h2 hi
  obtain ⟨r, hr⟩ : ∃ r, r = rank Ps id := ⟨_, rfl⟩
  rw [hh] at hL
  have hhid := Lib.hid hh
  rw [← hr] at hL
  have hr0 := Lib.hid hr
  have HL := Lib.hid hL
  have HH := Lib.hid h2
  have z0 := Blk.new_at (w := (w.alloc (.cells #[.int .i64 x.1, .string x.2] 29)).alloc (.cells #[.int .i64 0, .string ⟨#[]⟩] 29)) (k := w.heap.size + 1 + 1) (by simp) #[.int .i64 0, .string ⟨#[]⟩] 29
  have z1 := (Blk.new_at (w := w.alloc (.cells #[.int .i64 x.1, .string x.2] 29)) (k := w.heap.size + 1) (by simp) #[.int .i64 0, .string ⟨#[]⟩] 29).alloc (.cells #[.int .i64 0, .string ⟨#[]⟩] 29)
  have z2 := ((Blk.new w #[.int .i64 x.1, .string x.2] 29).alloc (.cells #[.int .i64 0, .string ⟨#[]⟩] 29)).alloc (.cells #[.int .i64 0, .string ⟨#[]⟩] 29)
  have HF := Lib.hid (And.intro F0 (And.intro z1 (And.intro z0 z2)))
  have HW := Lib.hid h
  have HI := Lib.hid hi
  clear h h2 hL hh hr z0 z1 z2 F0 hi
  go_enter Tryd.func13, Tryd.ntmps13
  go_wp2_with fail
  (with_reducible refine (liveV_any _ b _ Ps room HH.out).mono ?_)
  rintro e w1 ⟨rfl, rfl⟩
  go_wp2_with fail
  (with_reducible refine (HL.out).mono ?_)
  rintro e w1 ⟨rfl, f1⟩
  have h1 := HH.out.grow f1
  obtain ⟨g, cap, rfl, hc1, hc2, hc3, hr⟩ := h1.row
  have d0 := h1.hd.at 0 (v := .int .i64 room) rfl
  have d1 := h1.hd.at 1 (v := .slice (some ⟨g, 0, none⟩) Ps.length cap) rfl
  obtain ⟨n, hn⟩ : ∃ n, n = Ps.length := ⟨_, rfl⟩
  rw [← hn] at d1 hlen
  have HN := Lib.hid hn
  have zb := f1.blk HF.out.2.1 (by simp)
  have zn := f1.blk HF.out.2.2.1 (by simp)
  have zx := f1.blk HF.out.2.2.2 (by simp)
  have HG := Lib.hid (And.intro (HF.out.1.trans f1 (by simp)) (And.intro h1 (And.intro zb (And.intro zn zx))))
  have y0 := zb.at 0 (v := .int .i64 0) rfl
  have v0 := zb.free 0
  have y1 := zb.at 1 (v := .string ⟨#[]⟩) rfl
  have v1 := zb.free 1
  have q0 := zn.at 0 (v := .int .i64 0) rfl
  have q1 := zn.at 1 (v := .string ⟨#[]⟩) rfl
  have x0 := zx.at 0 (v := .int .i64 x.1) rfl
  have x1 := zx.at 1 (v := .string x.2) rfl
  have hbg : b ≠ g := fun e => h1.notin (by simp [Value.ownBlock, e])
  have HBG := Lib.hid hbg
  have hrn : r ≤ n := by rw [hr0.out, hn]; exact rank_le _ _
  have hl6 : n < 65536 := by have := h1.lim; rw [← hn] at this; omega
  have hgw : g < w1.heap.size := hc3
  have HINS := Lib.hid (show ∀ (W : World) (z : Nat), Fr [] w1 W → Blk W z (oneV id x).toArray 143 → w1.heap.size ≤ z → Calls Tryd.prog 64 #[.slice (some ⟨g, 0, none⟩) n cap, .int .i64 (r : Nat), .slice (some ⟨z, 0, none⟩) 1 1] W (fun e w' => ∃ v', e = .returned v' ∧ w'.ownsRow 0 143 3 v' (Ps.length + 1) (flat payV (insAt Ps id x)) ∧ v'.ownBlock ≠ none ∧ (v'.ownBlock = some g ∨ ∃ g', v'.ownBlock = some g' ∧ W.heap.size ≤ g') ∧ Fr [g] W w') from fun W z hf hz hzs => by
    have hq := insV_any W (.slice (some ⟨g, 0, none⟩) Ps.length cap) Ps r id x z (h1.grow hf).own h1.nn (by rw [← hn]; exact hrn) (by rw [← hn]; exact hl6) hz (by simp [Value.ownBlock]; omega)
    rw [← hn] at hq
    refine hq.mono fun e w' hp => ?_
    obtain ⟨v', he, ho, hnn, hpl, hf⟩ := hp
    refine ⟨v', he, ?_, hnn, ?_, ?_⟩
    · unfold insAt
      rw [← hr0.out]
      exact ho
    · simpa [Value.ownBlock] using hpl
    · simpa [Value.ownBlock] using hf)
  have HTB := Lib.hid (And.intro h1.up (And.intro h1.ids h1.lim))
  have HLN := Lib.hid (show (Ps.length : Int) < room by rw [← hn]; omega)
  have HPL := Lib.hid (show ∀ (x : Value), (x.ownBlock = some g ∨ ∃ g', x.ownBlock = some g' ∧ w1.heap.size ≤ g') → ∀ g2, x.ownBlock = some g2 → g2 ≠ b from fun x hp g2 e => by
    have hbw := h1.hd.lt
    rcases hp with hp | ⟨g', hp, hge⟩
    · rw [hp] at e; cases e; exact fun q => hbg q.symm
    · rw [hp] at e; cases e; omega)
  have HBB := Lib.hid (And.intro (show w.heap.size + 1 ≠ b ∧ w.heap.size + 1 ≠ g ∧ w.heap.size + 1 + 1 ≠ b ∧ w.heap.size + 1 + 1 ≠ g by
    have q1 := HW.out.hd.lt
    have q2 := own_lt HW.out.own (g := g) rfl
    omega) (show b < w.heap.size ∧ g < w.heap.size from ⟨HW.out.hd.lt, own_lt HW.out.own rfl⟩))
  clear h1 hr hn f1 hc1 hc2 hc3 zb zn zx hrn hl6 hgw hbg
  go_wp2_with fail
  go_region
  simp only [Exit.then]
  go_wp2_with fail
  have hGd := HG.out.1.drew
  refine region_inv (by kernel_rfl) (by kernel_rfl) (PutRgnV (fun x0 x1 x2 x3 x4 x5 x6 x7 x8 x9 x10 x11 x12 => #[.pointer (some ⟨b, 0, none⟩), .int .u32 id, .agg #[.int .i64 x.1, .string x.2], undef, undef, .pointer (some ⟨w.heap.size, 0, none⟩), .pointer (some ⟨w.heap.size + 1, 0, none⟩), .int .i64 0, .pointer (some ⟨w.heap.size + 1 + 1, 0, none⟩), .int .i64 (r : Nat), .bool false, undef, .pointer (some ⟨b, 0, none⟩), .bool true, .bool false, undef, .tuple #[.int .i64 (r : Nat), .bool false], .pointer (some ⟨b, 0, none⟩), .int .u32 id, .tuple #[.int .i64 (r : Nat), .bool false], .int .i64 (r : Nat), .bool false, .bool false, .bool false, undef, undef, undef, undef, undef, undef, undef, undef, undef, undef, undef, undef, undef, undef, undef, undef, undef, .bool (decide (room ≤ (n : Int))), .pointer (some ⟨b, 0, none⟩), .pointer (some ⟨b, 0, none⟩), .pointer (some ⟨b, 1, none⟩), .slice (some ⟨g, 0, none⟩) n cap, .int .i64 (n : Nat), .pointer (some ⟨b, 0, none⟩), .pointer (some ⟨b, 0, none⟩), .pointer (some ⟨b, 0, none⟩), .int .i64 room, .bool (decide (room ≤ (n : Int))), undef, x0, x1, x2, x3, x4, x5, x6, x7, x8, x9, x10, x11, x12, undef]) w1 b g n cap r Ps room id x) ?_ ?_ ?_
  · refine ⟨⟨undef, undef, undef, undef, undef, undef, undef, undef, undef, undef, undef, undef, undef, rfl, ?_⟩, fun _ => ((Fr.refl _ _).drew).drew⟩
    simp
  · intro p a W i hi hnp hd hI
    obtain ⟨⟨x0, x1, x2, x3, x4, x5, x6, x7, x8, x9, x10, x11, x12, rfl, g0, g1, g2, g3, g4, g5, g6, g7, g8, g9, g10, g11, g12, g13⟩, hfr0⟩ := hI
    have hcases : i = 0 ∨ i = 1 ∨ i = 2 ∨ i = 3 ∨ i = 4 ∨ i = 5 ∨ i = 6 ∨ i = 7 ∨ i = 8 ∨ i = 9 ∨ i = 10 ∨ i = 11 ∨ i = 12 ∨ i = 13 := by
      have h27 : i < 14 := hi
      omega
    rcases hcases with rfl | rfl | rfl | rfl | rfl | rfl | rfl | rfl | rfl | rfl | rfl | rfl | rfl | rfl
    · refine wpOp_plain (i := 0) rfl rfl (fun K' hK => ?_)
      unfold Oper.wp
      go_simp
      refine hK _ _ ⟨⟨_, _, _, _, _, _, _, _, _, _, _, _, _, rfl, (fun _ => rfl), (fun h => g1 (h.resolve_right (by decide))), (fun h => g2 (h.resolve_right (by decide))), (fun h => g3 (h.resolve_right (by decide))), (fun h => g4 (h.resolve_right (by decide))), (fun h => g5 (h.resolve_right (by decide))), (fun h => g6 (h.resolve_right (by decide))), (fun h => g7 (h.resolve_right (by decide))), (fun h => ⟨.inl (g8 (h.resolve_right (by decide))).1, (g8 (h.resolve_right (by decide))).2⟩), (fun h => ⟨.inl (g9 (h.resolve_right (by decide))).1, fun q => (g9 (h.resolve_right (by decide))).2 (fun a => q (.inl a))⟩), (fun h => ⟨.inl (g10 (h.resolve_right (by decide))).1, .inl (g10 (h.resolve_right (by decide))).2.1, .inl (g10 (h.resolve_right (by decide))).2.2.1, fun q => (g10 (h.resolve_right (by decide))).2.2.2 (fun a => q (.inl a))⟩), (fun h => g11 (h.resolve_right (by decide))), (fun h => g12 (h.resolve_right (by decide))), (fun h => ⟨.inl (g13 (h.resolve_right (by decide))).1, (g13 (h.resolve_right (by decide))).2⟩)⟩, (fun q => hfr0 (fun a => q (.inl a)))⟩
    · refine wpOp_plain (i := 1) rfl rfl (fun K' hK => ?_)
      unfold Oper.wp
      go_simp
      refine hK _ _ ⟨⟨_, _, _, _, _, _, _, _, _, _, _, _, _, rfl, (fun h => g0 (h.resolve_right (by decide))), (fun _ => rfl), (fun h => g2 (h.resolve_right (by decide))), (fun h => g3 (h.resolve_right (by decide))), (fun h => g4 (h.resolve_right (by decide))), (fun h => g5 (h.resolve_right (by decide))), (fun h => g6 (h.resolve_right (by decide))), (fun h => g7 (h.resolve_right (by decide))), (fun h => ⟨.inl (g8 (h.resolve_right (by decide))).1, (g8 (h.resolve_right (by decide))).2⟩), (fun h => ⟨.inl (g9 (h.resolve_right (by decide))).1, fun q => (g9 (h.resolve_right (by decide))).2 (fun a => q (.inl a))⟩), (fun h => ⟨.inl (g10 (h.resolve_right (by decide))).1, .inl (g10 (h.resolve_right (by decide))).2.1, .inl (g10 (h.resolve_right (by decide))).2.2.1, fun q => (g10 (h.resolve_right (by decide))).2.2.2 (fun a => q (.inl a))⟩), (fun h => g11 (h.resolve_right (by decide))), (fun h => g12 (h.resolve_right (by decide))), (fun h => ⟨.inl (g13 (h.resolve_right (by decide))).1, (g13 (h.resolve_right (by decide))).2⟩)⟩, (fun q => hfr0 (fun a => q (.inl a)))⟩
    · have r1 := g1 (hd _ rfl ⟨1, .data⟩ (by simp) rfl)
      subst r1
      refine wpOp_plain (i := 2) rfl rfl (fun K' hK => ?_)
      unfold Oper.wp
      go_simp
      refine hK _ _ ⟨⟨_, _, _, _, _, _, _, _, _, _, _, _, _, rfl, (fun h => g0 (h.resolve_right (by decide))), (fun h => g1 (h.resolve_right (by decide))), (fun _ => rfl), (fun h => g3 (h.resolve_right (by decide))), (fun h => g4 (h.resolve_right (by decide))), (fun h => g5 (h.resolve_right (by decide))), (fun h => g6 (h.resolve_right (by decide))), (fun h => g7 (h.resolve_right (by decide))), (fun h => ⟨.inl (g8 (h.resolve_right (by decide))).1, (g8 (h.resolve_right (by decide))).2⟩), (fun h => ⟨.inl (g9 (h.resolve_right (by decide))).1, fun q => (g9 (h.resolve_right (by decide))).2 (fun a => q (.inl a))⟩), (fun h => ⟨.inl (g10 (h.resolve_right (by decide))).1, .inl (g10 (h.resolve_right (by decide))).2.1, .inl (g10 (h.resolve_right (by decide))).2.2.1, fun q => (g10 (h.resolve_right (by decide))).2.2.2 (fun a => q (.inl a))⟩), (fun h => g11 (h.resolve_right (by decide))), (fun h => g12 (h.resolve_right (by decide))), (fun h => ⟨.inl (g13 (h.resolve_right (by decide))).1, (g13 (h.resolve_right (by decide))).2⟩)⟩, (fun q => hfr0 (fun a => q (.inl a)))⟩
    · have r2 := g2 (hd _ rfl ⟨2, .data⟩ (by simp) rfl)
      subst r2
      refine wpOp_plain (i := 3) rfl rfl (fun K' hK => ?_)
      unfold Oper.wp
      go_simp
      refine hK _ _ ⟨⟨_, _, _, _, _, _, _, _, _, _, _, _, _, rfl, (fun h => g0 (h.resolve_right (by decide))), (fun h => g1 (h.resolve_right (by decide))), (fun h => g2 (h.resolve_right (by decide))), (fun _ => rfl), (fun h => g4 (h.resolve_right (by decide))), (fun h => g5 (h.resolve_right (by decide))), (fun h => g6 (h.resolve_right (by decide))), (fun h => g7 (h.resolve_right (by decide))), (fun h => ⟨.inl (g8 (h.resolve_right (by decide))).1, (g8 (h.resolve_right (by decide))).2⟩), (fun h => ⟨.inl (g9 (h.resolve_right (by decide))).1, fun q => (g9 (h.resolve_right (by decide))).2 (fun a => q (.inl a))⟩), (fun h => ⟨.inl (g10 (h.resolve_right (by decide))).1, .inl (g10 (h.resolve_right (by decide))).2.1, .inl (g10 (h.resolve_right (by decide))).2.2.1, fun q => (g10 (h.resolve_right (by decide))).2.2.2 (fun a => q (.inl a))⟩), (fun h => g11 (h.resolve_right (by decide))), (fun h => g12 (h.resolve_right (by decide))), (fun h => ⟨.inl (g13 (h.resolve_right (by decide))).1, (g13 (h.resolve_right (by decide))).2⟩)⟩, (fun q => hfr0 (fun a => q (.inl a)))⟩
    · have r3 := g3 (hd _ rfl ⟨3, .data⟩ (by simp) rfl)
      subst r3
      have hfr := hfr0 (fun q => hnp (g10 q).1)
      have c1 := (hfr.blk HG.out.2.1.hd (by simp)).at 1 (v := .slice (some ⟨g, 0, none⟩) Ps.length cap) rfl
      rw [← HN.out] at c1
      refine wpOp_plain (i := 4) rfl rfl (fun K' hK => ?_)
      unfold Oper.wp
      go_simp
      refine hK _ _ ⟨⟨_, _, _, _, _, _, _, _, _, _, _, _, _, rfl, (fun h => g0 (h.resolve_right (by decide))), (fun h => g1 (h.resolve_right (by decide))), (fun h => g2 (h.resolve_right (by decide))), (fun h => g3 (h.resolve_right (by decide))), (fun _ => rfl), (fun h => g5 (h.resolve_right (by decide))), (fun h => g6 (h.resolve_right (by decide))), (fun h => g7 (h.resolve_right (by decide))), (fun h => ⟨.inl (g8 (h.resolve_right (by decide))).1, (g8 (h.resolve_right (by decide))).2⟩), (fun h => ⟨.inl (g9 (h.resolve_right (by decide))).1, fun q => (g9 (h.resolve_right (by decide))).2 (fun a => q (.inl a))⟩), (fun h => ⟨.inl (g10 (h.resolve_right (by decide))).1, .inl (g10 (h.resolve_right (by decide))).2.1, .inl (g10 (h.resolve_right (by decide))).2.2.1, fun q => (g10 (h.resolve_right (by decide))).2.2.2 (fun a => q (.inl a))⟩), (fun h => g11 (h.resolve_right (by decide))), (fun h => g12 (h.resolve_right (by decide))), (fun h => ⟨.inl (g13 (h.resolve_right (by decide))).1, (g13 (h.resolve_right (by decide))).2⟩)⟩, (fun q => hfr0 (fun a => q (.inl a)))⟩
    · refine wpOp_plain (i := 5) rfl rfl (fun K' hK => ?_)
      unfold Oper.wp
      go_simp
      refine hK _ _ ⟨⟨_, _, _, _, _, _, _, _, _, _, _, _, _, rfl, (fun h => g0 (h.resolve_right (by decide))), (fun h => g1 (h.resolve_right (by decide))), (fun h => g2 (h.resolve_right (by decide))), (fun h => g3 (h.resolve_right (by decide))), (fun h => g4 (h.resolve_right (by decide))), (fun _ => rfl), (fun h => g6 (h.resolve_right (by decide))), (fun h => g7 (h.resolve_right (by decide))), (fun h => ⟨.inl (g8 (h.resolve_right (by decide))).1, (g8 (h.resolve_right (by decide))).2⟩), (fun h => ⟨.inl (g9 (h.resolve_right (by decide))).1, fun q => (g9 (h.resolve_right (by decide))).2 (fun a => q (.inl a))⟩), (fun h => ⟨.inl (g10 (h.resolve_right (by decide))).1, .inl (g10 (h.resolve_right (by decide))).2.1, .inl (g10 (h.resolve_right (by decide))).2.2.1, fun q => (g10 (h.resolve_right (by decide))).2.2.2 (fun a => q (.inl a))⟩), (fun h => g11 (h.resolve_right (by decide))), (fun h => g12 (h.resolve_right (by decide))), (fun h => ⟨.inl (g13 (h.resolve_right (by decide))).1, (g13 (h.resolve_right (by decide))).2⟩)⟩, (fun q => hfr0 (fun a => q (.inl a)))⟩
    · refine wpOp_plain (i := 6) rfl rfl (fun K' hK => ?_)
      unfold Oper.wp
      go_simp
      refine hK _ _ ⟨⟨_, _, _, _, _, _, _, _, _, _, _, _, _, rfl, (fun h => g0 (h.resolve_right (by decide))), (fun h => g1 (h.resolve_right (by decide))), (fun h => g2 (h.resolve_right (by decide))), (fun h => g3 (h.resolve_right (by decide))), (fun h => g4 (h.resolve_right (by decide))), (fun h => g5 (h.resolve_right (by decide))), (fun _ => rfl), (fun h => g7 (h.resolve_right (by decide))), (fun h => ⟨.inl (g8 (h.resolve_right (by decide))).1, (g8 (h.resolve_right (by decide))).2⟩), (fun h => ⟨.inl (g9 (h.resolve_right (by decide))).1, fun q => (g9 (h.resolve_right (by decide))).2 (fun a => q (.inl a))⟩), (fun h => ⟨.inl (g10 (h.resolve_right (by decide))).1, .inl (g10 (h.resolve_right (by decide))).2.1, .inl (g10 (h.resolve_right (by decide))).2.2.1, fun q => (g10 (h.resolve_right (by decide))).2.2.2 (fun a => q (.inl a))⟩), (fun h => g11 (h.resolve_right (by decide))), (fun h => g12 (h.resolve_right (by decide))), (fun h => ⟨.inl (g13 (h.resolve_right (by decide))).1, (g13 (h.resolve_right (by decide))).2⟩)⟩, (fun q => hfr0 (fun a => q (.inl a)))⟩
    · have hfr := hfr0 (fun q => hnp (g10 q).2.1)
      have q := hfr.blk HG.out.2.2.2.2 (by simp)
      have c0 := q.at 0 (v := .int .i64 x.1) rfl
      have c1 := q.at 1 (v := .string x.2) rfl
      clear q
      refine wpOp_plain (i := 7) rfl rfl (fun K' hK => ?_)
      unfold Oper.wp
      go_simp
      refine hK _ _ ⟨⟨_, _, _, _, _, _, _, _, _, _, _, _, _, rfl, (fun h => g0 (h.resolve_right (by decide))), (fun h => g1 (h.resolve_right (by decide))), (fun h => g2 (h.resolve_right (by decide))), (fun h => g3 (h.resolve_right (by decide))), (fun h => g4 (h.resolve_right (by decide))), (fun h => g5 (h.resolve_right (by decide))), (fun h => g6 (h.resolve_right (by decide))), (fun _ => rfl), (fun h => ⟨.inl (g8 (h.resolve_right (by decide))).1, (g8 (h.resolve_right (by decide))).2⟩), (fun h => ⟨.inl (g9 (h.resolve_right (by decide))).1, fun q => (g9 (h.resolve_right (by decide))).2 (fun a => q (.inl a))⟩), (fun h => ⟨.inl (g10 (h.resolve_right (by decide))).1, .inl (g10 (h.resolve_right (by decide))).2.1, .inl (g10 (h.resolve_right (by decide))).2.2.1, fun q => (g10 (h.resolve_right (by decide))).2.2.2 (fun a => q (.inl a))⟩), (fun h => g11 (h.resolve_right (by decide))), (fun h => g12 (h.resolve_right (by decide))), (fun h => ⟨.inl (g13 (h.resolve_right (by decide))).1, (g13 (h.resolve_right (by decide))).2⟩)⟩, (fun q => hfr0 (fun a => q (.inl a)))⟩
    · have r6 := g6 (hd _ rfl ⟨6, .data⟩ (by simp) rfl)
      subst r6
      have r7 := g7 (hd _ rfl ⟨7, .data⟩ (by simp) rfl)
      subst r7
      refine wpOp_plain (i := 8) rfl rfl (fun K' hK => ?_)
      unfold Oper.wp
      go_simp
      refine hK _ _ ⟨⟨_, _, _, _, _, _, _, _, _, _, _, _, _, rfl, (fun h => g0 (h.resolve_right (by decide))), (fun h => g1 (h.resolve_right (by decide))), (fun h => g2 (h.resolve_right (by decide))), (fun h => g3 (h.resolve_right (by decide))), (fun h => g4 (h.resolve_right (by decide))), (fun h => g5 (h.resolve_right (by decide))), (fun h => g6 (h.resolve_right (by decide))), (fun h => g7 (h.resolve_right (by decide))), (fun _ => ⟨.inl (hd _ rfl ⟨7, .data⟩ (by simp) rfl), rfl⟩), (fun h => ⟨.inl (g9 (h.resolve_right (by decide))).1, fun q => (g9 (h.resolve_right (by decide))).2 (fun a => q (.inl a))⟩), (fun h => ⟨.inl (g10 (h.resolve_right (by decide))).1, .inl (g10 (h.resolve_right (by decide))).2.1, .inl (g10 (h.resolve_right (by decide))).2.2.1, fun q => (g10 (h.resolve_right (by decide))).2.2.2 (fun a => q (.inl a))⟩), (fun h => g11 (h.resolve_right (by decide))), (fun h => g12 (h.resolve_right (by decide))), (fun h => ⟨.inl (g13 (h.resolve_right (by decide))).1, (g13 (h.resolve_right (by decide))).2⟩)⟩, (fun q => hfr0 (fun a => q (.inl a)))⟩
    · have r8 := (g8 (hd _ rfl ⟨8, .data⟩ (by simp) rfl)).2
      subst r8
      have hfr := hfr0 (fun q => hnp (g10 q).2.2.1)
      refine wpOp_plain (i := 9) rfl rfl (fun K' hK => ?_)
      unfold Oper.wp
      go_simp
      refine hK _ _ ⟨⟨_, _, _, _, _, _, _, _, _, _, _, _, _, rfl, (fun h => g0 (h.resolve_right (by decide))), (fun h => g1 (h.resolve_right (by decide))), (fun h => g2 (h.resolve_right (by decide))), (fun h => g3 (h.resolve_right (by decide))), (fun h => g4 (h.resolve_right (by decide))), (fun h => g5 (h.resolve_right (by decide))), (fun h => g6 (h.resolve_right (by decide))), (fun h => g7 (h.resolve_right (by decide))), (fun h => ⟨.inl (g8 (h.resolve_right (by decide))).1, (g8 (h.resolve_right (by decide))).2⟩), (fun _ => ⟨.inl (g8 (hd _ rfl ⟨8, .data⟩ (by simp) rfl)).1, fun _ => ⟨_, rfl, Blk.new W _ _, hfr.size⟩⟩), (fun h => absurd (g10 (h.resolve_right (by decide))).2.2.1 hnp), (fun h => g11 (h.resolve_right (by decide))), (fun h => g12 (h.resolve_right (by decide))), (fun h => absurd (g10 (g13 (h.resolve_right (by decide))).1).2.2.1 hnp)⟩, (fun _ => hfr.alloc _)⟩
    · have r4 := g4 (hd _ rfl ⟨4, .data⟩ (by simp) rfl)
      subst r4
      have r5 := g5 (hd _ rfl ⟨5, .data⟩ (by simp) rfl)
      subst r5
      have hfr := hfr0 hnp
      have HP9 := Lib.hid (g9 (hd _ rfl ⟨9, .data⟩ (by simp) rfl))
      obtain ⟨z, r9, hz, hzs⟩ := HP9.out.2 hnp
      subst r9
      refine wpOp_plain (i := 10) rfl rfl (fun K' hK => ?_)
      unfold Oper.wp
      go_simp
      (with_reducible refine (HINS.out _ _ hfr hz hzs).mono ?_)
      rintro e w9 ⟨v', rfl, ho, hnn, hpl, hf⟩
      refine hK _ _ ⟨⟨_, _, _, _, _, _, _, _, _, _, _, _, _, rfl, (fun h => g0 (h.resolve_right (by decide))), (fun h => g1 (h.resolve_right (by decide))), (fun h => g2 (h.resolve_right (by decide))), (fun h => g3 (h.resolve_right (by decide))), (fun h => g4 (h.resolve_right (by decide))), (fun h => g5 (h.resolve_right (by decide))), (fun h => g6 (h.resolve_right (by decide))), (fun h => g7 (h.resolve_right (by decide))), (fun h => ⟨.inl (g8 (h.resolve_right (by decide))).1, (g8 (h.resolve_right (by decide))).2⟩), (fun h => ⟨.inl (g9 (h.resolve_right (by decide))).1, fun q => absurd (.inr rfl) q⟩), (fun _ => ⟨.inl (hd _ rfl ⟨4, .data⟩ (by simp) rfl), .inl HP9.out.1, .inl (hd _ rfl ⟨9, .data⟩ (by simp) rfl), fun _ => ⟨ho, hnn, hpl.imp (fun a => a) (fun ⟨g', a, c⟩ => ⟨g', a, Nat.le_trans hfr.size c⟩), (hfr.mono (by simp)).trans hf (by simp [Value.ownBlock])⟩⟩), (fun h => g11 (h.resolve_right (by decide))), (fun h => g12 (h.resolve_right (by decide))), (fun h => absurd (g13 (h.resolve_right (by decide))).1 hnp)⟩, (fun q => absurd (.inr rfl) q)⟩
    · have r0 := g0 (hd _ rfl ⟨0, .data⟩ (by simp) rfl)
      subst r0
      refine wpOp_plain (i := 11) rfl rfl (fun K' hK => ?_)
      unfold Oper.wp
      go_simp
      refine hK _ _ ⟨⟨_, _, _, _, _, _, _, _, _, _, _, _, _, rfl, (fun h => g0 (h.resolve_right (by decide))), (fun h => g1 (h.resolve_right (by decide))), (fun h => g2 (h.resolve_right (by decide))), (fun h => g3 (h.resolve_right (by decide))), (fun h => g4 (h.resolve_right (by decide))), (fun h => g5 (h.resolve_right (by decide))), (fun h => g6 (h.resolve_right (by decide))), (fun h => g7 (h.resolve_right (by decide))), (fun h => ⟨.inl (g8 (h.resolve_right (by decide))).1, (g8 (h.resolve_right (by decide))).2⟩), (fun h => ⟨.inl (g9 (h.resolve_right (by decide))).1, fun q => (g9 (h.resolve_right (by decide))).2 (fun a => q (.inl a))⟩), (fun h => ⟨.inl (g10 (h.resolve_right (by decide))).1, .inl (g10 (h.resolve_right (by decide))).2.1, .inl (g10 (h.resolve_right (by decide))).2.2.1, fun q => (g10 (h.resolve_right (by decide))).2.2.2 (fun a => q (.inl a))⟩), (fun _ => rfl), (fun h => g12 (h.resolve_right (by decide))), (fun h => ⟨.inl (g13 (h.resolve_right (by decide))).1, (g13 (h.resolve_right (by decide))).2⟩)⟩, (fun q => hfr0 (fun a => q (.inl a)))⟩
    · have r11 := g11 (hd _ rfl ⟨11, .data⟩ (by simp) rfl)
      subst r11
      refine wpOp_plain (i := 12) rfl rfl (fun K' hK => ?_)
      unfold Oper.wp
      go_simp
      refine hK _ _ ⟨⟨_, _, _, _, _, _, _, _, _, _, _, _, _, rfl, (fun h => g0 (h.resolve_right (by decide))), (fun h => g1 (h.resolve_right (by decide))), (fun h => g2 (h.resolve_right (by decide))), (fun h => g3 (h.resolve_right (by decide))), (fun h => g4 (h.resolve_right (by decide))), (fun h => g5 (h.resolve_right (by decide))), (fun h => g6 (h.resolve_right (by decide))), (fun h => g7 (h.resolve_right (by decide))), (fun h => ⟨.inl (g8 (h.resolve_right (by decide))).1, (g8 (h.resolve_right (by decide))).2⟩), (fun h => ⟨.inl (g9 (h.resolve_right (by decide))).1, fun q => (g9 (h.resolve_right (by decide))).2 (fun a => q (.inl a))⟩), (fun h => ⟨.inl (g10 (h.resolve_right (by decide))).1, .inl (g10 (h.resolve_right (by decide))).2.1, .inl (g10 (h.resolve_right (by decide))).2.2.1, fun q => (g10 (h.resolve_right (by decide))).2.2.2 (fun a => q (.inl a))⟩), (fun h => g11 (h.resolve_right (by decide))), (fun _ => rfl), (fun h => ⟨.inl (g13 (h.resolve_right (by decide))).1, (g13 (h.resolve_right (by decide))).2⟩)⟩, (fun q => hfr0 (fun a => q (.inl a)))⟩
    · have r12 := g12 (hd _ rfl ⟨12, .data⟩ (by simp) rfl)
      subst r12
      have hp10 := hd _ rfl ⟨10, .data⟩ (by simp) rfl
      obtain ⟨ho, hnn, hpl, hf⟩ := (g10 hp10).2.2.2 hnp
      obtain ⟨gq, cpq, rfl⟩ := own_succ ho
      have hb := hf.blk HG.out.2.1.hd (by simp; exact HBG.out)
      have c1 := hb.at 1 (v := .slice (some ⟨g, 0, none⟩) Ps.length cap) rfl
      have e1 := hb.free 1
      refine wpOp_plain (i := 13) rfl rfl (fun K' hK => ?_)
      unfold Oper.wp
      go_simp
      refine hK _ _ ⟨⟨_, _, _, _, _, _, _, _, _, _, _, _, _, rfl, (fun h => g0 (h.resolve_right (by decide))), (fun h => g1 (h.resolve_right (by decide))), (fun h => g2 (h.resolve_right (by decide))), (fun h => g3 (h.resolve_right (by decide))), (fun h => g4 (h.resolve_right (by decide))), (fun h => g5 (h.resolve_right (by decide))), (fun h => g6 (h.resolve_right (by decide))), (fun h => g7 (h.resolve_right (by decide))), (fun h => ⟨.inl (g8 (h.resolve_right (by decide))).1, (g8 (h.resolve_right (by decide))).2⟩), (fun h => ⟨.inl (g9 (h.resolve_right (by decide))).1, fun q => absurd (.inl hp10) q⟩), (fun h => ⟨.inl (g10 hp10).1, .inl (g10 hp10).2.1, .inl (g10 hp10).2.2.1, fun q => absurd (.inr rfl) q⟩), (fun h => g11 (h.resolve_right (by decide))), (fun h => g12 (h.resolve_right (by decide))), (fun _ => ⟨.inl hp10, _, tabV_ins hb ho hnn (fun g2 e => HPL.out _ hpl g2 e) HTB.out.1 HTB.out.2.1 HI.out hhid.out HLN.out HTB.out.2.2.2, hpl, (hf.mono (by simp)).setCell ⟨b, 1, none⟩ _ (.inl (by simp))⟩)⟩, (fun q => absurd (.inl hp10) q)⟩
  · intro p a W i hI
    obtain ⟨⟨x0, x1, x2, x3, x4, x5, x6, x7, x8, x9, x10, x11, x12, rfl, -, -, -, -, -, -, -, -, -, -, -, -, -, g13⟩, _⟩ := hI
    obtain ⟨_, v', htab, hpl, hfr⟩ := g13 (i 13 (by decide))
    have zb := hfr.blk HG.out.2.2.1 (by simp; exact ⟨HBB.out.1.1, HBB.out.1.2.1⟩)
    have zn := hfr.blk HG.out.2.2.2.1 (by simp; exact ⟨HBB.out.1.2.2.1, HBB.out.1.2.2.2⟩)
    have y0 := zb.at 0 (v := .int .i64 0) rfl
    have v0 := zb.free 0
    have y1 := zb.at 1 (v := .string ⟨#[]⟩) rfl
    have v1 := zb.free 1
    have q0 := zn.at 0 (v := .int .i64 0) rfl
    have q1 := zn.at 1 (v := .string ⟨#[]⟩) rfl
    have HE := Lib.hid (And.intro htab (And.intro hpl hfr))
    clear htab hpl hfr zb zn
    simp only [Exit.then]
    go_wp2_with fail
    refine bodyPost_ret (v := .tuple #[.agg #[.int .i64 0, .string ⟨#[]⟩], .int .i64 0]) (by simp [results, Tryd.results13, go_sem, y0, y1]) rfl ?_
    obtain ⟨htab, hpl, hfr⟩ := HE.out
    refine ⟨rfl, v', TabV.fr (S := [w.heap.size + 1]) htab ?_ ?_ ?_, ?_, ?_⟩
    · exact ((((Fr.refl _ _).setCell ⟨w.heap.size + 1, 0, none⟩ (.int .i64 0) (.inl (by simp)))).setCell ⟨w.heap.size + 1, 1, none⟩ (.string ⟨#[]⟩) (.inl (by simp)))
    · have := HBB.out.1.1; simp; omega
    · intro g2 hg2 hm
      have h3 := HBB.out
      have h4 := HG.out.1.size
      have h5 := HG.out.2.2.1.lt
      simp at hm
      subst hm
      rcases hpl with hp | ⟨g', hp, hge⟩
      · rw [hp] at hg2; cases hg2; omega
      · rw [hp] at hg2; cases hg2; omega
    · rcases hpl with hp | ⟨g', hp, hge⟩
      · exact .inl hp
      · exact .inr ⟨g', hp, Nat.le_trans HG.out.1.size hge⟩
    · have hf := ((HG.out.1.mono (T := [b, g]) (by simp)).trans hfr (fun x hx => .inl hx))
      exact ((((hf).setCell ⟨w.heap.size + 1, 0, none⟩ (.int .i64 0) (.inr (by simp)))).setCell ⟨w.heap.size + 1, 1, none⟩ (.string ⟨#[]⟩) (.inr (by simp)))
end Go.Proofs.YtgoolkgjcmdilaaDoor
namespace Go.Proofs.YtgoolkgjcmdilaaDoor
open Go.RowKit
set_option linter.unusedVariables false
set_option linter.unusedSimpArgs false
attribute [local go_sem] Oper.semAt_some

theorem delV_flat (Ps : List (Int × (Int × ByteArray))) (i : Nat) : flat payV (Ps.eraseIdx i) = (flat payV Ps).take (i * 3) ++ (flat payV Ps).drop (i * 3 + 3) := by
  rw [List.eraseIdx_eq_take_drop_succ, flat_app, ← flat_take wideV, ← flat_drop wideV, show (i + 1) * (2 + 1) = i * 3 + 3 by omega]
theorem zeroV : ∀ w, (zeroValue 143).run Tryd.prog w = .ok (.agg #[.int .u32 0, .int .i64 0, .string ⟨#[]⟩]) w := fun w => by kernel_rfl
set_option maxRecDepth 100000 in
set_option maxHeartbeats 4000000 in
theorem deleV_any (w : World) (g cap m : Nat) (cur : Array Value) (Ps : List (Int × (Int × ByteArray))) (i : Nat) (hg : Blk w g cur 143) (hm : cap ≤ maxLen) (hcs : cur.size = cap * 3) (hn : Ps.length = m + 1) (htake : cur.toList.take (Ps.length * 3) = flat payV Ps)
    (hi : i < m + 1) (hnc : m + 1 ≤ cap) (hl : m < 65536) :
    Calls Tryd.prog 65 #[.slice (some ⟨g, 0, none⟩) (m + 1) cap, .int .i64 (i : Nat), .int .i64 ((i : Int) + 1)] w fun e w' =>
      e = .returned (.slice (some ⟨g, 0, none⟩) m cap) ∧ w'.ownsRow 0 143 3 (.slice (some ⟨g, 0, none⟩) m cap) m (flat payV (Ps.eraseIdx i)) ∧ Fr [g] w w' := by
  obtain ⟨xs, hxs⟩ : ∃ xs, xs = flat payV Ps := ⟨_, rfl⟩
  have hxl : xs.length = (m + 1) * 3 := by rw [hxs, ← hn]; exact flat_len wideV Ps
  have hE := delV_flat Ps i
  have hEl : (flat payV (Ps.eraseIdx i)).length = m * 3 := by rw [flat_len wideV, List.length_eraseIdx_of_lt (by omega), hn]; rfl
  rw [← hxs] at hE htake
  rw [hn] at htake
  have hxo : ∀ v ∈ xs.drop (i * 3 + 3), v.oneCell' = true := fun v hv => flat_one wideV Ps v (hxs ▸ List.mem_of_mem_drop hv)
  have htk : cur.toList.take xs.length = xs := by rw [hxl]; exact htake
  have hcl : cur.toList.length = cap * 3 := by simpa using hcs
  have hfit : xs.length ≤ cur.toList.length := by rw [hxl, hcl]; omega
  have hpq : i * 3 ≤ i * 3 + 3 := by omega
  have hql : i * 3 + 3 ≤ xs.length := by rw [hxl]; omega
  have hdl : (xs.drop (i * 3 + 3)).length = (m - i) * 3 := by rw [List.length_drop, hxl]; omega
  have hpm : i * 3 + (xs.drop (i * 3 + 3)).length = m * 3 := by rw [hdl]; omega
  obtain ⟨i0, hi0, hz0, hzs, hzb⟩ := info_parts infoV
  have hsrc : ∀ j u, (xs.drop (i * 3 + 3))[j]? = some u → w.drew.cell? ((⟨g, i * 3 + 3, none⟩ : Addr).add j) = some u := fun j u hj => by
    rw [Addr.add_lit]
    rw [List.getElem?_drop] at hj
    have hj2 : cur.toList[i * 3 + 3 + j]? = some u := by
      rw [← htk, List.getElem?_take] at hj
      split at hj
      · exact hj
      · cases hj
    exact hg.at (i * 3 + 3 + j) (by simpa using hj2)
  obtain ⟨W1, hW1⟩ : ∃ W1, W1 = w.drew.setRow g (del1 cur.toList xs (i * 3) (i * 3 + 3)).toArray := ⟨_, rfl⟩
  have hap : ∀ ty (ad : Addr) c, (m - i ≠ 0 → ad = ⟨g, i * 3 + 3, none⟩) → (Builtin.append_ #[66, 66] ty #[.slice (some ⟨g, 0, none⟩) i cap, .slice (some ad) (m - i) c]).run Tryd.prog w.drew = .ok (.slice (some ⟨g, 0, none⟩) m cap) W1 := fun ty ad c had => by
    have h := run_append_room (P := Tryd.prog) w.drew 66 ty 143 i0 Tryd.underlying66 hi0 g i cap cur hg ad (m - i) c (xs.drop (i * 3 + 3)) (by rw [hzs, hdl]) (fun j u hj => by
      by_cases h0 : m - i = 0
      · have := (List.getElem?_eq_some_iff.1 hj).1
        rw [hdl, h0] at this
        omega
      · rw [had h0]
        exact hsrc j u hj) hxo (by omega) (by rw [hzs, hdl, hcs]; omega)
    rw [h, hW1, hzs, show i + (m - i) = m by omega]
    rfl
  have hg1 : Blk W1 g (del1 cur.toList xs (i * 3) (i * 3 + 3)).toArray 143 := by rw [hW1]; exact setRow_heap w.drew g cur _ 143 _ hg
  have hd1 := del1_len hpq hql hfit
  have hclr : ∀ ty c, (Builtin.clear_ #[66] ty #[.slice (some ⟨g, m * 3, none⟩) 1 c]).run Tryd.prog W1 = .ok (.tuple #[]) (W1.setRow g (del2 cur.toList xs [.int .u32 0, .int .i64 0, .string ⟨#[]⟩] (i * 3) (i * 3 + 3) (m * 3)).toArray) := fun ty c => by
    have hst := run_storeCells_at Tryd.prog g (m * 3) 143 [.int .u32 0, .int .i64 0, .string ⟨#[]⟩] 0 _ W1 hg1 (by rw [List.size_toArray, hd1, hcl]; simp; omega) (by intro v hv; simp at hv; rcases hv with rfl | rfl | rfl <;> rfl)
    have hz : (Builtin.zeroCells (.agg #[.int .u32 0, .int .i64 0, .string ⟨#[]⟩] : Value).cells 1).toList = [.int .u32 0, .int .i64 0, .string ⟨#[]⟩] := by simp [Builtin.zeroCells, Value.cells]; rfl
    simp only [Nat.add_zero] at hst
    simp [Builtin.clear_, run_underlying Tryd.underlying66, zeroV]
    rw [hz, hst]
    simp [del2]
  have HC := Lib.hid hclr
  have HAP := Lib.hid hap
  have HALL := Lib.hid (And.intro hE (And.intro hEl (And.intro htk (And.intro hfit (And.intro hpq (And.intro hql (And.intro hpm (And.intro hcl (And.intro hm (And.intro hW1 (And.intro hg1 hd1)))))))))))
  have hz2 : ¬ ((i : Int) = (i : Int) + 1) := by omega
  have hb1 : (0 : Int) ≤ (i : Int) + 1 := by omega
  have hin : i ≤ m + 1 := by omega
  have hin2 : (i : Int) + 1 ≤ (m : Int) + 1 := by omega
  have hc63 : cap ≤ 9223372036854775807 := by unfold maxLen at hm; omega
  have mixed : Tryd.prog.follows Departure.mixedOrders = true := by kernel_rfl
  have htn : ((i : Int) + 1).toNat = i + 1 := by omega
  have hb4 : ¬ (cap = i) := by omega
  have hb5 : ¬ (cap = m) := by omega
  have hb7 : (m : Int) + 1 ≤ (cap : Int) := by omega
  have hb8 : (i : Int) ≤ (cap : Int) := by omega
  clear hE hEl htk hfit hpq hql hpm hcl hm hW1 hg1 hd1 hclr hap hsrc hxo hdl hxl hxs hcs htake hn hg hi0 hz0 hzs hzb
  have hcl0 := HC.out 0 (cap - m)
  have HFIN := Lib.hid (show (.slice (some ⟨g, 0, none⟩) m cap : Value) = .slice (some ⟨g, 0, none⟩) m cap ∧ (W1.setRow g (del2 cur.toList xs [.int .u32 0, .int .i64 0, .string ⟨#[]⟩] (i * 3) (i * 3 + 3) (m * 3)).toArray).ownsRow 0 143 3 (.slice (some ⟨g, 0, none⟩) m cap) m (flat payV (Ps.eraseIdx i)) ∧ Fr [g] w (W1.setRow g (del2 cur.toList xs [.int .u32 0, .int .i64 0, .string ⟨#[]⟩] (i * 3) (i * 3 + 3) (m * 3)).toArray) from by
    obtain ⟨hE, hEl, htk, hfit, hpq, hql, hpm, hcl, hm, hW1, hg1, hd1⟩ := HALL.out
    refine ⟨rfl, ⟨hEl, .inr ⟨g, cap, _, rfl, Nat.zero_le _, setRow_heap W1 g _ _ 143 _ hg1, by omega, hm, ?_, ?_⟩⟩, ?_⟩
    · rw [List.size_toArray, del2_len hpq hql hfit (by rw [hcl]; simp; omega), hcl]
    · have := del2_take (zs := [.int .u32 0, .int .i64 0, .string ⟨#[]⟩]) hpq hql htk hfit
      rw [hpm] at this
      rw [hE]
      exact this
    · rw [hW1]
      exact ((Fr.refl _ w).drew.setRow g _ (.inl (by simp))).setRow g _ (.inl (by simp)))
  by_cases hci : cap = i + 1
  · obtain rfl : i = m := by omega
    subst hci
    have hap2 : (Builtin.append_ #[66, 66] 66 #[.slice (some ⟨g, 0, none⟩) i (i + 1), .slice (some ⟨g, 0, none⟩) 0 0]).run Tryd.prog w.drew = .ok (.slice (some ⟨g, 0, none⟩) i (i + 1)) W1 := by
      have := HAP.out 66 ⟨g, 0, none⟩ 0 (fun h => absurd (Nat.sub_self _) h)
      rw [Nat.sub_self] at this
      exact this
    have HAP2 := Lib.hid hap2
    have hb9 : (i : Int) ≤ (i : Int) + 1 := by omega
    have hb10 : (0 : Int) ≤ (i : Int) := by omega
    rw [show i + 1 - i = 1 by omega] at hcl0
    clear hap2
    go_enter Tryd.func65, Tryd.ntmps65
    go_wp2_with fail
    go_region_law_o (refine step_appR rfl _ _ 66 66 rfl (.slice (some ⟨g, 0, none⟩) i (i + 1)) (.slice (some ⟨g, 0, none⟩) 0 0) (by simp [Act.eval, Act.put]) (by simp [Act.eval, Act.put]) HAP2.out ?_)
    go_wp2
    go_ret
    exact ⟨rfl, HFIN.out.2⟩
  · go_enter Tryd.func65, Tryd.ntmps65
    go_wp2_with fail
    go_region_law_o (refine step_appR rfl _ _ 66 66 rfl (.slice (some ⟨g, 0, none⟩) i cap) (.slice (some ⟨g, i * 3 + 3, none⟩) (m - i) (cap - (i + 1))) (by simp [Act.eval, Act.put]) (by simp [Act.eval, Act.put]) (HAP.out 66 _ (cap - (i + 1)) (fun _ => rfl)) ?_)
    go_wp2
    go_ret
    exact ⟨rfl, HFIN.out.2⟩
end Go.Proofs.YtgoolkgjcmdilaaDoor
namespace Go.Proofs.YtgoolkgjcmdilaaDoor
open Go.RowKit
set_option linter.unusedVariables false
set_option linter.unusedSimpArgs false
attribute [local go_sem] Oper.semAt_some

set_option maxRecDepth 100000 in
set_option maxHeartbeats 1000000 in
theorem delV_no (w : World) (b : Nat) (v : Value) (Ps : List (Int × (Int × ByteArray))) (room id : Int) (h : TabV w b v Ps room) (hi : U32 id) (hh : hasId Ps id = false) :
    Calls Tryd.prog 16 #[.pointer (some ⟨b, 0, none⟩), .int .u32 id] w fun e w' => e = .returned (.tuple #[.agg #[.int .i64 0, .string ⟨#[]⟩], .bool false]) ∧ Fr [] w w' := by
  have F0 := (Fr.refl [] w).alloc (.cells #[.int .i64 0, .string ⟨#[]⟩] 29)
  have z0 := Blk.new w #[.int .i64 0, .string ⟨#[]⟩] 29
  have HG := Lib.hid (getV_no _ b v Ps room id (h.grow F0) hi hh)
  have HF := Lib.hid (And.intro F0 z0)
  clear F0 z0 h hi hh
  go_enter Tryd.func16, Tryd.ntmps16
  go_wp2_with fail
  (with_reducible refine (HG.out).mono ?_)
  rintro e w1 ⟨rfl, f1⟩
  have zb := (f1.blk HF.out.2 (by simp)).alloc (.cells #[.int .i64 0, .string ⟨#[]⟩] 29)
  have zn := Blk.new w1 #[.int .i64 0, .string ⟨#[]⟩] 29
  have HK := Lib.hid ((HF.out.1.trans f1 (by simp)).alloc (.cells #[.int .i64 0, .string ⟨#[]⟩] 29))
  have hne : ¬ w1.heap.size = w.heap.size := by have := HF.out.2.lt; have := f1.size; simp at *; omega
  have y0 := zb.at 0 (v := .int .i64 0) rfl
  have v0 := zb.free 0
  have q0 := zn.at 0 (v := .int .i64 0) rfl
  have y1 := zb.at 1 (v := .string ⟨#[]⟩) rfl
  have v1 := zb.free 1
  have q1 := zn.at 1 (v := .string ⟨#[]⟩) rfl
  obtain ⟨z9, hz9⟩ : ∃ z, z = w1.heap.size := ⟨_, rfl⟩
  clear f1 zb zn
  go_upto_region 2 with fail
  simp only [← hz9] at *
  clear hz9
  generalize w1.alloc _ = w2 at *
  go_wp2_with fail
  refine bodyPost_ret (v := .tuple #[.agg #[.int .i64 0, .string ⟨#[]⟩], .bool false]) (by simp [results, Tryd.results16, go_sem, y0, y1]) rfl ⟨rfl, ?_⟩
  exact ((((HK.out).setCell ⟨w.heap.size, 0, none⟩ (.int .i64 0) (.inr (Nat.le_refl _)))).setCell ⟨w.heap.size, 1, none⟩ (.string ⟨#[]⟩) (.inr (Nat.le_refl _)))
def DelVPost (w : World) (b : Nat) (v : Value) (Qs : List (Int × (Int × ByteArray))) (room : Int) (a : Value) (e : Ending) (w' : World) : Prop :=
  e = .returned (.tuple #[a, .bool true]) ∧ ∃ v', TabV w' b v' Qs room ∧ v'.ownBlock = v.ownBlock ∧ Fr (b :: v.ownBlock.toList) w w'
set_option maxRecDepth 100000 in
set_option maxHeartbeats 1000000 in
theorem delV_yes (w : World) (b : Nat) (v : Value) (Ps : List (Int × (Int × ByteArray))) (room id : Int) (x : Int × ByteArray) (h : TabV w b v Ps room) (hi : U32 id) (hx : Ps[rank Ps id]? = some (id, x)) :
    Calls Tryd.prog 16 #[.pointer (some ⟨b, 0, none⟩), .int .u32 id] w (DelVPost w b v (Ps.eraseIdx (rank Ps id)) room (.agg #[.int .i64 x.1, .string x.2])) := by
  have F0 := (Fr.refl [] w).alloc (.cells #[.int .i64 0, .string ⟨#[]⟩] 29)
  have z0 := Blk.new w #[.int .i64 0, .string ⟨#[]⟩] 29
  have h0 := h.grow F0
  have HG := Lib.hid (getV_yes _ b v Ps room id x h0 hi hx)
  have HF := Lib.hid (And.intro F0 (And.intro z0 h0))
  have HW := Lib.hid h
  have hh : hasId Ps id = true := (has_at h.up id).2 ⟨x, hx⟩
  have HI := Lib.hid (And.intro hi hh)
  obtain ⟨r, hr⟩ : ∃ r, r = rank Ps id := ⟨_, rfl⟩
  rw [← hr] at hx ⊢
  have HX := Lib.hid (And.intro hr hx)
  clear F0 z0 h h0 hi hh hr hx
  go_enter Tryd.func16, Tryd.ntmps16
  go_wp2_with fail
  (with_reducible refine (HG.out).mono ?_)
  rintro e w1 ⟨rfl, f1⟩
  have zb := (f1.blk HF.out.2.1 (by simp)).alloc (.cells #[.int .i64 x.1, .string x.2] 29)
  have zn := Blk.new w1 #[.int .i64 x.1, .string x.2] 29
  have h2 := (HF.out.2.2.grow f1).grow ((Fr.refl [] w1).alloc (.cells #[.int .i64 x.1, .string x.2] 29))
  have hne : ¬ w1.heap.size = w.heap.size := by have := HF.out.2.1.lt; have := f1.size; simp at *; omega
  have HN := Lib.hid (show w.heap.size < w1.heap.size by have := HF.out.2.1.lt; have := f1.size; simp at *; omega)
  have HK := Lib.hid (And.intro ((HF.out.1.trans f1 (by simp)).alloc (.cells #[.int .i64 x.1, .string x.2] 29)) (And.intro zb (And.intro zn h2)))
  obtain ⟨z9, hz9⟩ : ∃ z, z = w1.heap.size := ⟨_, rfl⟩
  clear f1 zb zn h2
  go_upto_region 2 with fail
  simp only [← hz9] at *
  clear hz9
  generalize w1.alloc _ = w2 at *
  have hL := findV_any _ b v Ps room id HK.out.2.2.2 HI.out.1
  rw [← HX.out.1, HI.out.2] at hL
  have HL := Lib.hid hL
  clear hL
  go_wp2_with fail
  (with_reducible refine (HL.out).mono ?_)
  rintro e w3 ⟨rfl, f3⟩
  have h3 := HK.out.2.2.2.grow f3
  obtain ⟨m, hm⟩ : ∃ m, Ps.length = m + 1 := by
    have := (List.getElem?_eq_some_iff.1 HX.out.2).1
    exact ⟨Ps.length - 1, by omega⟩
  have hrm : r < m + 1 := by rw [← hm]; exact (List.getElem?_eq_some_iff.1 HX.out.2).1
  have hl6 : m < 65536 := by have := h3.lim; rw [hm] at this; omega
  rcases h3.own.2 with ⟨rfl, _⟩ | ⟨g, cap, cur, rfl, _, hg, hnc, hmx, hcs, htake⟩
  · exact absurd rfl h3.nn
  have hd1 := h3.hd.at 1 (v := .slice (some ⟨g, 0, none⟩) Ps.length cap) rfl
  have HD := Lib.hid (deleV_any w3 g cap m cur Ps r hg hmx hcs hm htake hrm (by rw [← hm]; exact hnc) hl6)
  have hwr : wrap64 ((r : Int) + 1) = (r : Int) + 1 := w64 (by omega)
  have HT := Lib.hid (And.intro h3 (And.intro hm (And.intro f3 hrm)))
  rw [hm] at hd1
  clear h3 hrm hl6 hg hnc hmx hcs htake f3 hm
  go_wp2_with fail
  (with_reducible refine (HD.out).mono ?_)
  rintro e w5 ⟨rfl, ho, f5⟩
  have hgw : g < w.heap.size := own_lt HW.out.own rfl
  have hbw : b < w.heap.size := HW.out.hd.lt
  have hzw := HN.out
  have hbg : b ≠ g := fun e => HW.out.notin (by simp [Value.ownBlock, e])
  have hb5 := f5.blk HT.out.1.hd (by simp; exact hbg)
  have zb := f5.blk (HT.out.2.2.1.blk HK.out.2.1 (by simp)) (by simp; omega)
  have zn := f5.blk (HT.out.2.2.1.blk HK.out.2.2.1 (by simp)) (by simp; omega)
  have n1 : ¬ z9 = b := by omega
  have n2 : ¬ w.heap.size = b := by omega
  have HQ := Lib.hid (And.intro ho (And.intro f5 (And.intro hb5 (And.intro hbg (And.intro hgw (And.intro hbw hzw))))))
  have c1 := hb5.at 1 (v := .slice (some ⟨g, 0, none⟩) Ps.length cap) rfl
  have e1 := hb5.free 1
  have y0 := zb.at 0 (v := .int .i64 0) rfl
  have v0 := zb.free 0
  have q0 := zn.at 0 (v := .int .i64 x.1) rfl
  have y1 := zb.at 1 (v := .string ⟨#[]⟩) rfl
  have v1 := zb.free 1
  have q1 := zn.at 1 (v := .string x.2) rfl
  clear ho f5 hb5 zb zn hgw hbw hbg hzw hd1 hwr
  go_wp2_with fail
  refine bodyPost_ret (v := .tuple #[.agg #[.int .i64 x.1, .string x.2], .bool true]) (by simp [results, Tryd.results16, go_sem, n1, n2, y0, y1]) rfl ?_
  obtain ⟨ho, f5, hb5, hbg, hgw, hbw, hzw⟩ := HQ.out
  obtain ⟨h3, hm, f3, hrm⟩ := HT.out
  have hlen : (Ps.eraseIdx r).length = m := by rw [List.length_eraseIdx_of_lt (by omega), hm]; rfl
  have htab : TabV (w5.setCell ⟨b, 1, none⟩ (.slice (some ⟨g, 0, none⟩) m cap)) b (.slice (some ⟨g, 0, none⟩) m cap) (Ps.eraseIdx r) room := by
    refine ⟨hb5.set 1 _, ?_, by simp [Value.ownBlock], up_erase h3.up r, fun p hp => h3.ids p (List.mem_of_mem_eraseIdx hp), by rw [hlen]; have := h3.lim; rw [hm] at this; omega⟩
    rw [hlen]
    exact own_fr ho ((Fr.refl [b] w5).setCell _ _ (.inl (by simp))) (fun g2 e => by simp [Value.ownBlock] at e; subst e; simp; omega)
  refine ⟨rfl, _, TabV.fr (S := [w.heap.size]) htab ?_ ?_ ?_, rfl, ?_⟩
  · exact ((((Fr.refl _ _).setCell ⟨w.heap.size, 0, none⟩ (.int .i64 x.1) (.inl (by simp)))).setCell ⟨w.heap.size, 1, none⟩ (.string x.2) (.inl (by simp)))
  · simp; omega
  · intro g2 hg2; simp [Value.ownBlock] at hg2; subst hg2; simp; omega
  · have hf := ((((HK.out.1.trans f3 (by simp)).mono (T := [b, g]) (by simp)).trans f5 (fun x hx => .inl (by simp at hx; simp [hx]))).setCell ⟨b, 1, none⟩ (.slice (some ⟨g, 0, none⟩) m cap) (.inl (by simp)))
    exact ((((hf).setCell ⟨w.heap.size, 0, none⟩ (.int .i64 x.1) (.inr (Nat.le_refl _)))).setCell ⟨w.heap.size, 1, none⟩ (.string x.2) (.inr (Nat.le_refl _)))
end Go.Proofs.YtgoolkgjcmdilaaDoor
namespace Go.Proofs.YtgoolkgjcmdilaaDoor
open Go.RowKit
set_option linter.unusedVariables false
set_option linter.unusedSimpArgs false
attribute [local go_sem] Oper.semAt_some

theorem eqlNilV (a : Addr) (n c : Nat) (w : World) : (binOp .eql 66 (.slice (some a) n c) (.slice none 0 0)).run Tryd.prog w = .ok (.bool false) w := by
  exact Lib.run_eql_slice_nil _ _ _ _ _ _ _ _ Tryd.underlying66
attribute [local go_sem] eqlNilV
/-- A row of one's own with the pairs. -/
def CopyV (w : World) (Ps : List (Int × (Int × ByteArray))) (v : Value) (W : World) : Prop := W.ownsRow 0 143 3 v Ps.length (flat payV Ps) ∧ ∃ g, v.ownBlock = some g ∧ w.heap.size ≤ g
set_option maxRecDepth 100000 in
theorem cloneV_any (w : World) (b : Nat) (v : Value) (Ps : List (Int × (Int × ByteArray))) (room : Int) (h : TabV w b v Ps room) : Calls Tryd.prog 66 #[v] w fun e w' => (∃ v', e = .returned v' ∧ CopyV w Ps v' w') ∧ Fr [] w w' := by
  have hl : Ps.length ≤ 65536 := by have := h.lim; omega
  obtain ⟨g, cap, rfl, h1, h2, h3, h4⟩ := h.row
  have F0 : Fr [] w (w.alloc (.cells #[] 143)) := (Fr.refl _ _).alloc _
  have hO := World.ownsRow_made (base := 0) (e := 143) (size := 3) w #[] 0 (Nat.zero_le _) (Nat.zero_le _) rfl
  have hsrc : ∀ j u, (flat payV Ps)[j]? = some u → (w.alloc (.cells #[] 143)).cell? ((⟨g, 0, none⟩ : Addr).add j) = some u := fun j u hj => by
    rw [Addr.add_lit]
    have := h4.fr F0 j u hj
    simpa using this
  obtain ⟨xs, hxs⟩ : ∃ xs, xs = flat payV Ps := ⟨_, rfl⟩
  obtain ⟨n, hn⟩ : ∃ n, n = Ps.length := ⟨_, rfl⟩
  have hxl : xs.length = n * 3 := by rw [hxs, hn]; exact flat_len wideV Ps
  have hxo : ∀ u ∈ xs, u.oneCell' = true := by rw [hxs]; exact flat_one wideV Ps
  have HP := Lib.hid (show ∀ v' w', Appended (w.alloc (.cells #[] 143)) 143 3 (.slice (some ⟨w.heap.size, 0, none⟩) 0 0) (0 + n) ([] ++ xs) v' w' → (∃ v2, Ending.returned v' = .returned v2 ∧ CopyV w Ps v2 w') ∧ Fr [] w w' from fun v' w' ha => by
    refine ⟨⟨v', rfl, ?_, ?_⟩, F0.trans ha.fr (fun x hx => .inr ?_)⟩
    · have := ha.own
      rw [Nat.zero_add, List.nil_append, hxs, hn] at this
      exact this
    · rcases ha.place with q | q
      · exact ⟨_, q, Nat.le_refl _⟩
      · exact ⟨_, q, by simp⟩
    · simp [Value.ownBlock] at hx; omega)
  rw [← hxs] at hsrc
  rw [← hn] at hl
  simp only [← hn]
  have HS := Lib.hid (And.intro hO (And.intro hsrc (And.intro hxl hxo)))
  clear h h1 h2 h3 h4 F0 hO hsrc hxs hn hxl hxo
  go_enter Tryd.func66, Tryd.ntmps66
  go_wp2_with (at_builtin; go_must (refine wpList_app _ rfl _ _ 66 rfl 143 (.agg #[.int .u32 0, .int .i64 0, .string ⟨#[]⟩]) 3 32 Tryd.underlying66 infoV rfl (by decide) (.slice (some ⟨w.heap.size, 0, none⟩) 0 0) 0 [] rfl HS.out.1 ⟨g, 0, none⟩ n cap xs rfl HS.out.2.2.1 HS.out.2.1 HS.out.2.2.2 (by unfold maxLen; omega) (by omega) ?_); intro v1 w3 happ; have HAP := Lib.hid happ; clear happ)
  all_goals (go_ret; exact HP.out _ _ HAP.out)
def AllVPost (w : World) (Ps : List (Int × (Int × ByteArray))) (e : Ending) (w' : World) : Prop :=
  ∃ bx v, e = .returned (.func (.func 67) #[] #[.pointer (some ⟨bx, 0, none⟩)]) ∧ Blk w' bx #[v] 66 ∧ CopyV w Ps v w' ∧ w.heap.size ≤ bx ∧ Fr [] w w'
set_option maxRecDepth 100000 in
theorem allV_any (w : World) (b : Nat) (v : Value) (Ps : List (Int × (Int × ByteArray))) (room : Int) (h : TabV w b v Ps room) : Calls Tryd.prog 19 #[.pointer (some ⟨b, 0, none⟩)] w (AllVPost w Ps) := by
  have F0 : Fr [] w (w.alloc (.cells #[.slice none 0 0] 66)) := (Fr.refl _ _).alloc _
  have h2 := h.grow F0
  have hz := Blk.new w #[.slice none 0 0] 66
  have HH := Lib.hid (And.intro h2 (And.intro F0 hz))
  have HC := Lib.hid (cloneV_any _ b v Ps room h2)
  obtain ⟨g, cap, rfl, _⟩ := h2.row
  have c1 := h2.hd.at 1 (v := .slice (some ⟨g, 0, none⟩) Ps.length cap) rfl
  obtain ⟨n, hn⟩ : ∃ n, n = Ps.length := ⟨_, rfl⟩
  rw [← hn] at c1 HC
  have HN := Lib.hid hn
  clear h h2 F0 hz hn
  go_enter Tryd.func19, Tryd.ntmps19
  go_wp2_with fail
  (with_reducible refine (liveV_any _ b _ Ps room HH.out.1).mono ?_)
  rintro e w1 ⟨rfl, rfl⟩
  go_wp2_with fail
  (with_reducible refine (HC.out).mono ?_)
  rintro e w1 ⟨⟨v', rfl, hcp⟩, f1⟩
  have zb := f1.blk HH.out.2.2 (by simp)
  have y0 := zb.at 0 (v := .slice none 0 0) rfl
  have e0 := zb.free 0
  obtain ⟨gq, hgq, hge⟩ := hcp.2
  have hsl : ∃ cp, v' = .slice (some ⟨gq, 0, none⟩) Ps.length cp := by
    rcases hcp.1.2 with ⟨rfl, _⟩ | ⟨g', cp, _, rfl, _⟩
    · simp [Value.ownBlock] at hgq
    · simp [Value.ownBlock] at hgq; subst hgq; exact ⟨cp, rfl⟩
  obtain ⟨cp, rfl⟩ := hsl
  have HQ := Lib.hid (And.intro zb (And.intro hcp (And.intro f1 hge)))
  clear zb hcp f1 hgq hge
  go_wp2
  go_ret
  obtain ⟨zb, hcp, f1, hge⟩ := HQ.out
  refine ⟨w.heap.size, _, rfl, zb.set 0 _, ⟨own_fr hcp.1 ((Fr.refl [w.heap.size] w1).setCell _ _ (.inl (by simp))) (fun g2 hg2 => ?_), gq, rfl, ?_⟩, Nat.le_refl _, ?_⟩
  · simp [Value.ownBlock] at hg2; subst hg2; simp at hge ⊢; omega
  · simp at hge; omega
  · exact (HH.out.2.1.trans f1 (by simp)).setCell _ _ (.inr (Nat.le_refl _))
end Go.Proofs.YtgoolkgjcmdilaaDoor
