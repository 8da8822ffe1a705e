/-
  A ring: Set, Cut and Mark. Printed by genRg.py.
-/
import Derived.Test.YtiimmndhinoaiaaDoorRgSD
import Derived.Test.YtiimmndhinoaiaaDoorRegT
namespace Go.Proofs.YtiimmndhinoaiaaDoor.RgS
open Go.RowKit ring
set_option linter.unusedVariables false
set_option linter.unusedSimpArgs false
attribute [local go_sem] Oper.semAt_some
attribute [local go_sem ↓] Go.wp_at_zero Go.wp_at_succ

/-- Set. -/
def setL (L : List ByteArray) (i : Int) (x : ByteArray) : List ByteArray := if 0 ≤ i ∧ i < L.length then L.set i.toNat x else L
def inside (n : Nat) (i : Int) : Bool := decide (0 ≤ i ∧ i < n)
theorem set_no (w : World) (b g : Nat) (Cs : List ByteArray) (f : Nat) (L : List ByteArray) (M : RM) (i : Int) (x : ByteArray) (h : RingAt w b g Cs f L M) (hi : i < 0 ∨ (L.length : Int) ≤ i) : Calls Tryd.prog 61 #[.pointer (some ⟨b, 0, none⟩), .int .i64 i, .string x] w fun e w' => e = .returned (.bool false) ∧ w = w' := by
  have hl := Lib.hid (len_any w b g Cs f L M h)
  clear h
  by_cases h0 : i < 0
  · go_enter Tryd.func61, Tryd.ntmps61
    go_wp2
    go_ret
    exact ⟨rfl, rfl⟩
  · have h1 : (L.length : Int) ≤ i := by omega
    clear hi
    go_enter Tryd.func61, Tryd.ntmps61
    go_wp2_with (go_at_call 48; refine hl.out.mono ?_; rintro e w1 ⟨rfl, rfl⟩)
    go_ret
    exact ⟨rfl, rfl⟩
set_option maxRecDepth 100000 in
set_option maxHeartbeats 2000000 in
theorem set_ok (w : World) (b g : Nat) (Cs : List ByteArray) (f : Nat) (L : List ByteArray) (M : RM) (i : Nat) (x : ByteArray) (h : RingAt w b g Cs f L M) (hi : i < L.length) : Calls Tryd.prog 61 #[.pointer (some ⟨b, 0, none⟩), .int .i64 i, .string x] w (PPost w b g (L.set i x) M (.bool true)) := by
  have hl := Lib.hid (len_any w b g Cs f L M h)
  have hle := h.ho.le
  have hN := h.le
  have hm := h.m64
  have hf := h.ho.lt
  obtain ⟨c0, c1, c2, c3, c4, c5, c6, c7, c8, c9, cf⟩ := hdr_cells h.hd
  obtain ⟨k, hk⟩ : ∃ k, (f + i) % Cs.length = k := ⟨_, rfl⟩
  have hkl : k < Cs.length := by rw [← hk]; exact Nat.mod_lt _ (by omega)
  obtain ⟨y, hy⟩ := els_some h.pl hkl
  have fy := h.pl.free k
  have hbg := h.ne
  have hgb : g ≠ b := Ne.symm hbg
  have hp := Lib.hid (fun (W : World) (d0 : W.cell? ⟨b, 0, none⟩ = some (.slice (some ⟨g, 0, none⟩) Cs.length Cs.length)) (d2 : W.cell? ⟨b, 2, none⟩ = some (.int .i64 f)) => place_any W b g Cs.length f i d0 d2 (by omega) (by omega) hf (by omega))
  rw [hk] at hp
  have i1 : (i : Int) < (L.length : Int) := by omega
  have k1 : (0 : Int) ≤ (k : Int) := by omega
  have k2 : (k : Int) < (Cs.length : Int) := by omega
  have hend : ∀ m, PPost w b g (L.set i x) M (.bool true) (.returned (.bool true)) ((w.drewN m).setCell ⟨g, k, none⟩ (.string x)) := by
    intro m
    have hs := h.ho.set i hi x
    rw [hk] at hs
    refine ⟨rfl, g, Cs.set k x, f, ⟨?_, Blk.els_put (h.pl.drewN m) x, hs, by rw [List.length_set]; exact hN, hm⟩, .inl rfl, ((Fr.refl _ w).drewN m).setCell _ _ (.inl (by simp))⟩
    rw [List.length_set, List.length_set]
    exact (h.hd.drewN m).other _ _ hbg
  have HE := Lib.hid hend
  clear h hk hend c1 c3 c4 c5 c6 c7 c8 c9 cf
  go_enter Tryd.func61, Tryd.ntmps61
  go_wp2_with (go_at_call 48; refine hl.out.mono ?_; rintro e w1 ⟨rfl, rfl⟩)
  go_region_held3 (fun w' => w'.cell? ⟨b, 0, none⟩ = some (.slice (some ⟨g, 0, none⟩) Cs.length Cs.length) ∧ w'.cell? ⟨b, 2, none⟩ = some (.int .i64 f)) (first | exact ⟨c0, c2⟩ | go_keep)
    ((go_at_call 92; refine (hp.out _ (by exact c0) (by exact c2)).mono ?_; rintro e w4 ⟨rfl, mm, rfl⟩))
  go_wp2
  go_ret
  exact HE.out _
theorem set_any (w : World) (b g : Nat) (Cs : List ByteArray) (f : Nat) (L : List ByteArray) (M : RM) (i : Int) (x : ByteArray) (h : RingAt w b g Cs f L M) : Calls Tryd.prog 61 #[.pointer (some ⟨b, 0, none⟩), .int .i64 i, .string x] w (PPost w b g (setL L i x) M (.bool (inside L.length i))) := by
  by_cases hi : 0 ≤ i ∧ i < L.length
  · obtain ⟨j, rfl⟩ : ∃ j : Nat, i = j := ⟨i.toNat, by omega⟩
    unfold setL inside
    rw [if_pos hi, decide_eq_true hi, Int.toNat_natCast]
    exact set_ok w b g Cs f L M j x h (by omega)
  · unfold setL inside
    rw [if_neg hi, decide_eq_false hi]
    refine (set_no w b g Cs f L M i x h (by omega)).mono ?_
    rintro e w' ⟨rfl, rfl⟩
    exact ⟨rfl, g, Cs, f, h, .inl rfl, Fr.refl _ _⟩
/-- Cut. -/
def cutL (L : List ByteArray) (i : Int) : List ByteArray := if 0 ≤ i ∧ i < L.length then L.eraseIdx i.toNat else L
def cutM (M : RM) (len : Nat) (i : Int) : RM := if 0 ≤ i ∧ i < len then M.sized (len - 1) else M
theorem cut_no (w : World) (b g : Nat) (Cs : List ByteArray) (f : Nat) (L : List ByteArray) (M : RM) (i : Int) (h : RingAt w b g Cs f L M) (hi : i < 0 ∨ (L.length : Int) ≤ i) : Calls Tryd.prog 63 #[.pointer (some ⟨b, 0, none⟩), .int .i64 i] w fun e w' => e = .returned (.tuple #[.string (⟨#[]⟩ : ByteArray), .bool false]) ∧ ∃ m, w' = w.drewN m := by
  have ha := at_any w b g Cs f L M i h
  rw [show atRes L i = .tuple #[.string (⟨#[]⟩ : ByteArray), .bool false] by unfold atRes; rw [if_neg (by omega)]] at ha
  have HA := Lib.hid ha
  clear h ha hi
  go_enter Tryd.func63, Tryd.ntmps63
  go_wp2_with fail
  (with_reducible refine HA.out.mono ?_)
  rintro e w1 ⟨rfl, m, rfl⟩
  go_wp2_with fail
  go_ret2
  exact ⟨rfl, m, rfl⟩
set_option maxRecDepth 100000 in
set_option maxHeartbeats 4000000 in
theorem cut_ok (w : World) (b g : Nat) (Cs : List ByteArray) (f : Nat) (L : List ByteArray) (M : RM) (i : Nat) (h : RingAt w b g Cs f L M) (hi : i < L.length) : Calls Tryd.prog 63 #[.pointer (some ⟨b, 0, none⟩), .int .i64 i] w (PPost w b g (L.eraseIdx i) (M.sized (L.length - 1)) (.tuple #[.string (L.getD i (⟨#[]⟩ : ByteArray)), .bool true])) := by
  have ha := at_any w b g Cs f L M i h
  rw [show atRes L i = .tuple #[.string (L.getD i (⟨#[]⟩ : ByteArray)), .bool true] by unfold atRes; rw [if_pos (by omega), Int.toNat_natCast]] at ha
  obtain ⟨x, hx⟩ : ∃ x, L.getD i (⟨#[]⟩ : ByteArray) = x := ⟨_, rfl⟩
  rw [hx] at ha ⊢
  clear hx
  have HA := Lib.hid ha
  have H := Lib.hid h
  obtain ⟨N, hN⟩ : ∃ N, N = Cs.length := ⟨_, rfl⟩
  have hle := h.ho.le
  have hlo := h.ho.lt
  have hNm := h.le
  have hm64 := h.m64
  have hbg := h.ne
  have hgb := Ne.symm hbg
  obtain ⟨s, hs⟩ : ∃ s, s = L.length := ⟨_, rfl⟩
  rw [← hs] at hi hle ⊢
  rw [← hN] at hlo hNm hle
  have HE := Lib.hid (And.intro hN hs)
  clear h ha hN hs
  go_enter Tryd.func63, Tryd.ntmps63
  go_wp2_with fail
  (with_reducible refine HA.out.mono ?_)
  rintro e w1 ⟨rfl, m0, rfl⟩
  go_wp2_with fail
  go_loopw [9] (fun i' wr => ∃ k : Nat, i' = .int .i64 k ∧ i < k ∧ k ≤ s ∧ ∃ Cs', Cs'.length = N ∧ Blk wr b (hdr g N f s M) 100 ∧ Blk wr g (strs Cs').toArray 9 ∧ Holds Cs' f (shl L i k) ∧ Fr [g] w wr) (fun i' _ => s - (intOf i').toNat)
  case atStart => exact ⟨i + 1, by go_num, by omega, by omega, Cs, HE.out.1.symm, by rw [HE.out.1, HE.out.2]; exact H.out.hd.drewN _, H.out.pl.drewN _, by rw [shl_start]; exact H.out.ho, (Fr.refl _ _).drewN _⟩
  case round =>
    obtain ⟨k, rfl, hik, hk, Cs', hlc, hb, hbr, hho, hfr⟩ := hrel
    obtain ⟨wi, rfl⟩ : ∃ wi : World, wi = wr := ⟨_, rfl⟩
    have hsl : (shl L i k).length = s := by have := HE.out.2; rw [shl_len L i k (by omega) (by omega), this]
    have c0 := hb.at 0 (v := .slice (some ⟨g, 0, none⟩) N N) rfl
    have c2 := hb.at 2 (v := .int .i64 f) rfl
    have c3 := hb.at 3 (v := .int .i64 s) rfl
    have HI := Lib.hid (And.intro hlc (And.intro hb (And.intro hbr (And.intro hho (And.intro hfr hsl)))))
    by_cases hlt : k < s
    · obtain ⟨y, hy⟩ : ∃ y, L[k]? = some y := ⟨_, List.getElem?_eq_getElem (by have := HE.out.2; omega)⟩
      obtain ⟨qa, hq⟩ : ∃ qa, (f + k) % N = qa := ⟨_, rfl⟩
      obtain ⟨qb, hq'⟩ : ∃ qb, (f + (k - 1)) % N = qb := ⟨_, rfl⟩
      have hqN : qa < N := by rw [← hq]; exact Nat.mod_lt _ (by omega)
      have hqN' : qb < N := by rw [← hq']; exact Nat.mod_lt _ (by omega)
      have hCq : Cs'[qa]? = some y := by
        have := hho.at_ k (by omega)
        rw [hlc, hq, shl_get L i k hik (by have := HE.out.2; omega), hy] at this
        exact this
      have cq : wi.cell? ⟨g, qa, none⟩ = some (.string y) := els_at hbr hCq
      obtain ⟨z, cz⟩ := els_some hbr (k := qb) (by omega)
      have fz := hbr.free qb
      have hnext : Holds (Cs'.set qb y) f (shl L i (k + 1)) := by
        have := hho.set (k - 1) (by omega) y
        rw [hlc, hq', shl_step L i k hik (by have := HE.out.2; omega) hy] at this
        exact this
      have HN2 := Lib.hid hnext
      have hp := Lib.hid (fun (W : World) (d0 : W.cell? ⟨b, 0, none⟩ = some (.slice (some ⟨g, 0, none⟩) N N)) (d2 : W.cell? ⟨b, 2, none⟩ = some (.int .i64 f)) => place_any W b g N f k d0 d2 (by omega) (by omega) hlo (by omega))
      have hp' := Lib.hid (fun (W : World) (d0 : W.cell? ⟨b, 0, none⟩ = some (.slice (some ⟨g, 0, none⟩) N N)) (d2 : W.cell? ⟨b, 2, none⟩ = some (.int .i64 f)) => place_int W b g N f ((k : Int) - 1) (k - 1) (by omega) d0 d2 (by omega) (by omega) hlo (by omega))
      rw [hq] at hp
      rw [hq'] at hp'
      have k0 : (0 : Int) ≤ (k : Int) := by omega
      have k9 : (k : Int) ≤ 65536 := by omega
      have hwk : IntKind.i64.wrap ((k : Int) - 1) = (k : Int) - 1 := by rw [IntKind.wrap_i64]; omega
      have q1 : (0 : Int) ≤ (qa : Int) := by omega
      have q2 : (qa : Int) < (N : Int) := by omega
      have q1' : (0 : Int) ≤ (qb : Int) := by omega
      have q2' : (qb : Int) < (N : Int) := by omega
      clear hlc hb hbr hho hfr hsl hy hq hq' hCq hnext
      go_wp2_with fail
      refine region_tail (by kernel_rfl) (by kernel_rfl) [[], [0], [0, 1], [0, 1, 2], [], [], [5], [4, 5, 6], [], [8], [8, 9], [8, 9, 10], [], [], [4, 5, 6, 7, 12, 13], [4, 5, 6, 7, 8, 9, 10, 11, 12, 13, 14], [4, 5, 6, 7, 8, 9, 10, 11, 12, 13, 14, 15], [0, 1, 2, 3, 4, 5, 6, 7, 8, 9, 10, 11, 12, 13, 14, 15, 16], [0, 1, 2, 3, 4, 5, 6, 7, 8, 9, 10, 11, 12, 13, 14, 15, 16, 17]] (by kernel_rfl) 18 (by decide) (by kernel_rfl) [.is (.pointer (some ⟨b, 0, none⟩)), .is (.pointer (some ⟨b, 0, none⟩)), .is (.pointer (some ⟨b, 0, none⟩)), .is (.slice (some ⟨g, 0, none⟩) N N), .is (.pointer (some ⟨b, 0, none⟩)), .is (.int .i64 (k : Nat)), .is (.int .i64 ((k : Int) - 1)), .is (.int .i64 (qb : Nat)), .is (.pointer (some ⟨b, 0, none⟩)), .is (.pointer (some ⟨b, 0, none⟩)), .is (.pointer (some ⟨b, 0, none⟩)), .is (.slice (some ⟨g, 0, none⟩) N N), .is (.pointer (some ⟨b, 0, none⟩)), .is (.int .i64 (k : Nat)), .is (.int .i64 (qa : Nat)), .is (.pointer (some ⟨g, qa, none⟩)), .is (.string y), .is (.pointer (some ⟨g, qb, none⟩))] 68 rfl (by kernel_rfl) ?_ ?_
      · intro q a1 W1 i hi hnq hd hG K hK
        have hlt : i < 18 := hi
        have hc : i = 0 ∨ i = 1 ∨ i = 2 ∨ i = 3 ∨ i = 4 ∨ i = 5 ∨ i = 6 ∨ i = 7 ∨ i = 8 ∨ i = 9 ∨ i = 10 ∨ i = 11 ∨ i = 12 ∨ i = 13 ∨ i = 14 ∨ i = 15 ∨ i = 16 ∨ i = 17 := by omega
        rcases hc with rfl | rfl | rfl | rfl | rfl | rfl | rfl | rfl | rfl | rfl | rfl | rfl | rfl | rfl | rfl | rfl | rfl | rfl
        · have e0 := hG.old 0 (by kernel_rfl)
          refine op_do rfl (wanted_none rfl) hK (fun K' hK' => ?_)
          unfold Oper.wp
          go_simp
          exact hK' _ _ (Fr.refl _ _) rfl
        · have e29 := hG.val (v := .pointer (some ⟨b, 0, none⟩)) 0 29 (hd _ rfl ⟨0, .data⟩ (by simp) rfl) rfl rfl
          refine op_do rfl (wanted_none rfl) hK (fun K' hK' => ?_)
          unfold Oper.wp
          go_simp
          exact hK' _ _ (Fr.refl _ _) rfl
        · have e30 := hG.val (v := .pointer (some ⟨b, 0, none⟩)) 1 30 (hd _ rfl ⟨1, .data⟩ (by simp) rfl) rfl rfl
          refine op_do rfl (wanted_none rfl) hK (fun K' hK' => ?_)
          unfold Oper.wp
          go_simp
          exact hK' _ _ (Fr.refl _ _) rfl
        · have e31 := hG.val (v := .pointer (some ⟨b, 0, none⟩)) 2 31 (hd _ rfl ⟨2, .data⟩ (by simp) rfl) rfl rfl
          have x0 := (hG.grown.cell (World.block_lt_of_cell? wi _ c0) (by simp)).trans c0
          refine op_do rfl (wanted_none rfl) hK (fun K' hK' => ?_)
          unfold Oper.wp
          go_simp
          exact hK' _ _ (Fr.refl _ _) rfl
        · have e0 := hG.old 0 (by kernel_rfl)
          refine op_do rfl (wanted_none rfl) hK (fun K' hK' => ?_)
          unfold Oper.wp
          go_simp
          exact hK' _ _ (Fr.refl _ _) rfl
        · have e9 := hG.old 9 (by kernel_rfl)
          refine op_do rfl (wanted_none rfl) hK (fun K' hK' => ?_)
          unfold Oper.wp
          go_simp
          exact hK' _ _ (Fr.refl _ _) rfl
        · have e34 := hG.val (v := .int .i64 (k : Nat)) 5 34 (hd _ rfl ⟨5, .data⟩ (by simp) rfl) rfl rfl
          refine op_do rfl (wanted_none rfl) hK (fun K' hK' => ?_)
          unfold Oper.wp
          go_simp
          exact hK' _ _ (Fr.refl _ _) rfl
        · have e33 := hG.val (v := .pointer (some ⟨b, 0, none⟩)) 4 33 (hd _ rfl ⟨4, .data⟩ (by simp) rfl) rfl rfl
          have e35 := hG.val (v := .int .i64 ((k : Int) - 1)) 6 35 (hd _ rfl ⟨6, .data⟩ (by simp) rfl) rfl rfl
          have x0 := (hG.grown.cell (World.block_lt_of_cell? wi _ c0) (by simp)).trans c0
          have x2 := (hG.grown.cell (World.block_lt_of_cell? wi _ c2) (by simp)).trans c2
          refine op_do rfl (wanted_none rfl) hK (fun K' hK' => ?_)
          unfold Oper.wp
          go_simp
          refine (hp'.out W1 x0 x2).mono ?_
          rintro e W2 ⟨rfl, mm, rfl⟩
          exact hK' _ _ ((Fr.refl _ _).drewN _) rfl
        · have e0 := hG.old 0 (by kernel_rfl)
          refine op_do rfl (wanted_none rfl) hK (fun K' hK' => ?_)
          unfold Oper.wp
          go_simp
          exact hK' _ _ (Fr.refl _ _) rfl
        · have e37 := hG.val (v := .pointer (some ⟨b, 0, none⟩)) 8 37 (hd _ rfl ⟨8, .data⟩ (by simp) rfl) rfl rfl
          refine op_do rfl (wanted_none rfl) hK (fun K' hK' => ?_)
          unfold Oper.wp
          go_simp
          exact hK' _ _ (Fr.refl _ _) rfl
        · have e38 := hG.val (v := .pointer (some ⟨b, 0, none⟩)) 9 38 (hd _ rfl ⟨9, .data⟩ (by simp) rfl) rfl rfl
          refine op_do rfl (wanted_none rfl) hK (fun K' hK' => ?_)
          unfold Oper.wp
          go_simp
          exact hK' _ _ (Fr.refl _ _) rfl
        · have e39 := hG.val (v := .pointer (some ⟨b, 0, none⟩)) 10 39 (hd _ rfl ⟨10, .data⟩ (by simp) rfl) rfl rfl
          have x0 := (hG.grown.cell (World.block_lt_of_cell? wi _ c0) (by simp)).trans c0
          refine op_do rfl (wanted_none rfl) hK (fun K' hK' => ?_)
          unfold Oper.wp
          go_simp
          exact hK' _ _ (Fr.refl _ _) rfl
        · have e0 := hG.old 0 (by kernel_rfl)
          refine op_do rfl (wanted_none rfl) hK (fun K' hK' => ?_)
          unfold Oper.wp
          go_simp
          exact hK' _ _ (Fr.refl _ _) rfl
        · have e9 := hG.old 9 (by kernel_rfl)
          refine op_do rfl (wanted_none rfl) hK (fun K' hK' => ?_)
          unfold Oper.wp
          go_simp
          exact hK' _ _ (Fr.refl _ _) rfl
        · have e41 := hG.val (v := .pointer (some ⟨b, 0, none⟩)) 12 41 (hd _ rfl ⟨12, .data⟩ (by simp) rfl) rfl rfl
          have e42 := hG.val (v := .int .i64 (k : Nat)) 13 42 (hd _ rfl ⟨13, .data⟩ (by simp) rfl) rfl rfl
          have x0 := (hG.grown.cell (World.block_lt_of_cell? wi _ c0) (by simp)).trans c0
          have x2 := (hG.grown.cell (World.block_lt_of_cell? wi _ c2) (by simp)).trans c2
          refine op_do rfl (wanted_none rfl) hK (fun K' hK' => ?_)
          unfold Oper.wp
          go_simp
          refine (hp.out W1 x0 x2).mono ?_
          rintro e W2 ⟨rfl, mm, rfl⟩
          exact hK' _ _ ((Fr.refl _ _).drewN _) rfl
        · have e40 := hG.val (v := .slice (some ⟨g, 0, none⟩) N N) 11 40 (hd _ rfl ⟨11, .data⟩ (by simp) rfl) rfl rfl
          have e43 := hG.val (v := .int .i64 (qa : Nat)) 14 43 (hd _ rfl ⟨14, .data⟩ (by simp) rfl) rfl rfl
          refine op_do rfl (wanted_none rfl) hK (fun K' hK' => ?_)
          unfold Oper.wp
          go_simp
          exact hK' _ _ (Fr.refl _ _) rfl
        · have e44 := hG.val (v := .pointer (some ⟨g, qa, none⟩)) 15 44 (hd _ rfl ⟨15, .data⟩ (by simp) rfl) rfl rfl
          have xq := (hG.grown.cell (World.block_lt_of_cell? wi _ cq) (by simp)).trans cq
          refine op_do rfl (wanted_none rfl) hK (fun K' hK' => ?_)
          unfold Oper.wp
          go_simp
          exact hK' _ _ (Fr.refl _ _) rfl
        · have e32 := hG.val (v := .slice (some ⟨g, 0, none⟩) N N) 3 32 (hd _ rfl ⟨3, .data⟩ (by simp) rfl) rfl rfl
          have e36 := hG.val (v := .int .i64 (qb : Nat)) 7 36 (hd _ rfl ⟨7, .data⟩ (by simp) rfl) rfl rfl
          refine op_do rfl (wanted_none rfl) hK (fun K' hK' => ?_)
          unfold Oper.wp
          go_simp
          exact hK' _ _ (Fr.refl _ _) rfl
      · intro q a1 W1 hq hG
        have f1 := hG.grown
        obtain ⟨vs, hv, rfl⟩ := hG.front 68 rfl (by kernel_rfl) (by decide) hq [(0, 29), (1, 30), (2, 31), (3, 32), (4, 33), (5, 34), (6, 35), (7, 36), (8, 37), (9, 38), (10, 39), (11, 40), (12, 41), (13, 42), (14, 43), (15, 44), (16, 45), (17, 46)] (by kernel_rfl)
        clear hG hq
        have r0 : vs 0 = .pointer (some ⟨b, 0, none⟩) := hv 0 29 (by decide) rfl
        have r1 : vs 1 = .pointer (some ⟨b, 0, none⟩) := hv 1 30 (by decide) rfl
        have r2 : vs 2 = .pointer (some ⟨b, 0, none⟩) := hv 2 31 (by decide) rfl
        have r3 : vs 3 = .slice (some ⟨g, 0, none⟩) N N := hv 3 32 (by decide) rfl
        have r4 : vs 4 = .pointer (some ⟨b, 0, none⟩) := hv 4 33 (by decide) rfl
        have r5 : vs 5 = .int .i64 (k : Nat) := hv 5 34 (by decide) rfl
        have r6 : vs 6 = .int .i64 ((k : Int) - 1) := hv 6 35 (by decide) rfl
        have r7 : vs 7 = .int .i64 (qb : Nat) := hv 7 36 (by decide) rfl
        have r8 : vs 8 = .pointer (some ⟨b, 0, none⟩) := hv 8 37 (by decide) rfl
        have r9 : vs 9 = .pointer (some ⟨b, 0, none⟩) := hv 9 38 (by decide) rfl
        have r10 : vs 10 = .pointer (some ⟨b, 0, none⟩) := hv 10 39 (by decide) rfl
        have r11 : vs 11 = .slice (some ⟨g, 0, none⟩) N N := hv 11 40 (by decide) rfl
        have r12 : vs 12 = .pointer (some ⟨b, 0, none⟩) := hv 12 41 (by decide) rfl
        have r13 : vs 13 = .int .i64 (k : Nat) := hv 13 42 (by decide) rfl
        have r14 : vs 14 = .int .i64 (qa : Nat) := hv 14 43 (by decide) rfl
        have r15 : vs 15 = .pointer (some ⟨g, qa, none⟩) := hv 15 44 (by decide) rfl
        have r16 : vs 16 = .string y := hv 16 45 (by decide) rfl
        have r17 : vs 17 = .pointer (some ⟨g, qb, none⟩) := hv 17 46 (by decide) rfl
        simp only [List.drop_succ_cons, List.drop_zero, lay, List.foldl_cons, List.foldl_nil, r0, r1, r2, r3, r4, r5, r6, r7, r8, r9, r10, r11, r12, r13, r14, r15, r16, r17]
        simp only [List.setIfInBounds_toArray, List.set_cons_zero, List.set_cons_succ]
        clear hv r0 r1 r2 r3 r4 r5 r6 r7 r8 r9 r10 r11 r12 r13 r14 r15 r16 r17
        clear vs
        have y0 := (f1.cell (World.block_lt_of_cell? wi _ cz) (by simp)).trans cz
        have y1 := (f1.frozen (World.block_lt_of_cell? wi _ cz) (by simp)).trans fz
        have HF1 := Lib.hid f1
        clear f1
        go_wp2_with fail
        go_roundw
        case rel =>
          refine ⟨k + 1, by go_num, by omega, by omega, Cs'.set qb y, by rw [List.length_set]; exact HI.out.1, (HF1.out.blk HI.out.2.1 (by simp)).other _ _ hbg, Blk.els_put (HF1.out.blk HI.out.2.2.1 (by simp)) y, HN2.out, (HI.out.2.2.2.2.1.trans HF1.out (by simp)).setCell _ _ (.inl (by simp))⟩
        case measure => simp [intOf]; omega
    · obtain rfl : s = k := by omega
      obtain ⟨hN, hs⟩ := HE.out
      obtain ⟨y, hy⟩ := shl_end L i (by omega)
      rw [← hs] at hy
      have hel : (L.eraseIdx i).length = s - 1 := by rw [List.length_eraseIdx_of_lt (by omega)]; omega
      obtain ⟨qa, hq⟩ : ∃ qa, (f + (s - 1)) % N = qa := ⟨_, rfl⟩
      have hqN : qa < N := by rw [← hq]; exact Nat.mod_lt _ (by omega)
      obtain ⟨z, cz⟩ := els_some hbr (k := qa) (by omega)
      have fz := hbr.free qa
      have hlast : Holds (Cs'.set qa (⟨#[]⟩ : ByteArray)) f (L.eraseIdx i) := by
        rw [hy] at hho
        have := hho.last (⟨#[]⟩ : ByteArray)
        rw [hel, hlc, hq] at this
        exact this
      have hp := Lib.hid (fun (W : World) (d0 : W.cell? ⟨b, 0, none⟩ = some (.slice (some ⟨g, 0, none⟩) N N)) (d2 : W.cell? ⟨b, 2, none⟩ = some (.int .i64 f)) => place_int W b g N f ((s : Int) - 1) (s - 1) (by omega) d0 d2 (by omega) (by omega) hlo (by omega))
      rw [hq] at hp
      have HZ := Lib.hid (And.intro hlast (And.intro hel (And.intro hN hs)))
      have k0 : (0 : Int) ≤ (s : Int) := by omega
      have k9 : (s : Int) ≤ 65536 := by omega
      have hwk : IntKind.i64.wrap ((s : Int) - 1) = (s : Int) - 1 := by rw [IntKind.wrap_i64]; omega
      have q1 : (0 : Int) ≤ (qa : Int) := by omega
      have q2 : (qa : Int) < (N : Int) := by omega
      clear hlc hb hbr hho hfr hsl hy hq hlast hel hN hs
      go_wp2_with fail
      go_region_held3 (fun w' => w'.cell? ⟨b, 0, none⟩ = some (.slice (some ⟨g, 0, none⟩) N N) ∧ w'.cell? ⟨b, 2, none⟩ = some (.int .i64 f) ∧ w'.cell? ⟨b, 3, none⟩ = some (.int .i64 s)) (first | exact ⟨c0, c2, c3⟩ | go_keep)
        ((go_at_call 92; refine (hp.out _ (by exact c0) (by exact c2)).mono ?_; rintro e w4 ⟨rfl, mm, rfl⟩))
      simp only [Exit.then]
      generalize hwb : World.setCell _ ⟨g, qa, none⟩ (.string (⟨#[]⟩ : ByteArray)) = wb
      have hbB : Blk wb b (hdr g N f s M) 100 := by rw [← hwb]; exact Blk.other (w := _) HI.out.2.1 ⟨g, qa, none⟩ _ hbg
      have hgB : Blk wb g (strs (Cs'.set qa (⟨#[]⟩ : ByteArray))).toArray 9 := by rw [← hwb]; exact Blk.els_put (W := _) HI.out.2.2.1 (⟨#[]⟩ : ByteArray)
      have frB : Fr [b, g] w wb := by rw [← hwb]; exact ((HI.out.2.2.2.2.1.mono (T := [b, g]) (by simp)).drewN _).setCell ⟨g, qa, none⟩ _ (.inl (by simp))
      have d3 := hbB.at 3 (v := .int .i64 s) rfl
      have hse := Lib.hid (sized_any wb b g N f s M ((s : Int) - 1) (s - 1) (by omega) hbB (by omega))
      have hfin : ∀ w', Blk w' b (hdr g N f (s - 1) (M.sized (s - 1))) 100 → Fr [b] wb w' → PPost w b g (L.eraseIdx i) (M.sized (s - 1)) (.tuple #[.string x, .bool true]) (.returned (.tuple #[.string x, .bool true])) w' := by
        intro w' hb' f'
        refine ⟨rfl, g, Cs'.set qa (⟨#[]⟩ : ByteArray), f, ⟨?_, f'.blk hgB (by simpa using hgb), HZ.out.1, by rw [List.length_set, HI.out.1]; exact hNm, hm64⟩, .inl rfl, frB.trans f' (by simp)⟩
        rw [List.length_set, HI.out.1, HZ.out.2.1]
        exact hb'
      have HF := Lib.hid hfin
      clear hwb hbB hgB frB hfin c0 c2 c3 hp HI cz fz
      go_wp2_with fail
      (with_reducible refine hse.out.mono ?_)
      rintro e w5 ⟨⟨v, rfl⟩, hb5, f5⟩
      have HF5 := Lib.hid (HF.out _ hb5 f5)
      clear hb5 f5
      go_wp2
      go_ret2
      exact HF5.out
theorem cut_any (w : World) (b g : Nat) (Cs : List ByteArray) (f : Nat) (L : List ByteArray) (M : RM) (i : Int) (h : RingAt w b g Cs f L M) : Calls Tryd.prog 63 #[.pointer (some ⟨b, 0, none⟩), .int .i64 i] w (PPost w b g (cutL L i) (cutM M L.length i) (atRes L i)) := by
  by_cases hi : 0 ≤ i ∧ i < L.length
  · obtain ⟨j, rfl⟩ : ∃ j : Nat, i = j := ⟨i.toNat, by omega⟩
    unfold cutL cutM atRes
    rw [if_pos hi, if_pos hi, if_pos hi, Int.toNat_natCast]
    exact cut_ok w b g Cs f L M j h (by omega)
  · unfold cutL cutM atRes
    rw [if_neg hi, if_neg hi, if_neg hi]
    refine (cut_no w b g Cs f L M i h (by omega)).mono ?_
    rintro e w' ⟨rfl, m, rfl⟩
    exact ⟨rfl, g, Cs, f, h.drewN m, .inl rfl, (Fr.refl _ _).drewN m⟩
/-- Mark. -/
theorem mark_bad (w : World) (b g : Nat) (Cs : List ByteArray) (f : Nat) (L : List ByteArray) (M : RM) (lo hi : Int) (h : RingAt w b g Cs f L M) (hb : M.bad lo hi) : Calls Tryd.prog 69 #[.pointer (some ⟨b, 0, none⟩), .int .i64 lo, .int .i64 hi] w fun e w' => e = .returned (.int .i64 2) ∧ w = w' := by
  obtain ⟨c0, c1, c2, c3, c4, c5, c6, c7, c8, c9, cf⟩ := hdr_cells h.hd
  have ht := Lib.hid (there_any w b M.most h.pos c1)
  unfold RM.bad at hb
  generalize M.most = mo at *
  clear h c0 c2 c3 c4 c5 c6 c7 c8 c9 cf
  by_cases h1 : lo < 0
  · clear hb
    go_enter Tryd.func69, Tryd.ntmps69
    go_wp2_with (go_at_call 47; refine ht.out.mono ?_; rintro e w1 ⟨rfl, rfl⟩)
    go_ret
    exact ⟨rfl, rfl⟩
  · by_cases h2 : hi ≤ lo
    · clear hb
      go_enter Tryd.func69, Tryd.ntmps69
      go_wp2_with (go_at_call 47; refine ht.out.mono ?_; rintro e w1 ⟨rfl, rfl⟩)
      go_ret
      exact ⟨rfl, rfl⟩
    · have h3 : (mo : Int) < hi := by omega
      clear hb
      go_enter Tryd.func69, Tryd.ntmps69
      go_wp2_with (go_at_call 47; refine ht.out.mono ?_; rintro e w1 ⟨rfl, rfl⟩)
      go_ret
      exact ⟨rfl, rfl⟩
set_option maxHeartbeats 1000000 in
theorem mark_ok (w : World) (b g : Nat) (Cs : List ByteArray) (f : Nat) (L : List ByteArray) (M : RM) (lo hi : Int) (h : RingAt w b g Cs f L M) (hb : ¬ M.bad lo hi) : Calls Tryd.prog 69 #[.pointer (some ⟨b, 0, none⟩), .int .i64 lo, .int .i64 hi] w (PPost w b g L (M.mark lo hi L.length) (.int .i64 0)) := by
  obtain ⟨c0, c1, c2, c3, c4, c5, c6, c7, c8, c9, cf⟩ := hdr_cells h.hd
  have ht := Lib.hid (there_any w b M.most h.pos c1)
  have f4 := cf 4
  have f5 := cf 5
  have f6 := cf 6
  have f7 := cf 7
  have hfin : PPost w b g L (M.mark lo hi L.length) (.int .i64 0) (.returned (.int .i64 0)) ((((w.setCell ⟨b, 4, none⟩ (.bool true)).setCell ⟨b, 5, none⟩ (.int .i64 lo)).setCell ⟨b, 6, none⟩ (.int .i64 hi)).setCell ⟨b, 7, none⟩ (.bool (decide (hi ≤ (L.length : Int))))) := by
    refine ⟨rfl, g, Cs, f, ⟨(((h.hd.set 4 (.bool true)).set 5 (.int .i64 lo)).set 6 (.int .i64 hi)).set 7 (.bool (decide (hi ≤ (L.length : Int)))), ((((h.pl.other _ _ (Ne.symm h.ne)).other _ _ (Ne.symm h.ne)).other _ _ (Ne.symm h.ne)).other _ _ (Ne.symm h.ne)), h.ho, h.le, h.m64⟩, .inl rfl, ((((Fr.refl _ w).setCell _ _ (.inl (by simp))).setCell _ _ (.inl (by simp))).setCell _ _ (.inl (by simp))).setCell _ _ (.inl (by simp))⟩
  have HF := Lib.hid hfin
  unfold RM.bad at hb
  have h1 : ¬ lo < 0 := fun h => hb (.inl h)
  have h2 : ¬ hi ≤ lo := fun h => hb (.inr (.inl h))
  have h3 : ¬ (M.most : Int) < hi := fun h => hb (.inr (.inr h))
  generalize L.length = n at *
  generalize M.mark lo hi n = M' at *
  generalize M.most = mo at *
  clear h hfin hb c0 c2 c8 c9 cf
  go_enter Tryd.func69, Tryd.ntmps69
  go_wp2_with (go_at_call 47; refine ht.out.mono ?_; rintro e w1 ⟨rfl, rfl⟩)
  go_ret
  exact HF.out

end Go.Proofs.YtiimmndhinoaiaaDoor.RgS
