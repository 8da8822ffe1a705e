/-
  TableWalks: the walk.
-/
import Derived.Test.YtgoolkgjcmdilaaDoorWalR
import Derived.BigRegion
import Derived.Deep.CutBlock
import Derived.Deep.DeepCutAuto
namespace Go.Proofs.YtgoolkgjcmdilaaDoor
open Go.RowKit
set_option linter.unusedVariables false
set_option linter.unusedSimpArgs false
attribute [local go_sem] Oper.semAt_some

theorem wr1 {i : Nat} (h : i ≤ 2000000) : IntKind.i64.wrap ((i : Int) + 1) = (i : Int) + 1 := wr (by omega)
/-- The table behind the first i numbers. -/
def putAll : List Int → VPs → Int → VPs
  | [], Ps, _ => Ps
  | a :: r, Ps, k => putAll r (putL Ps 65536 a (k, sv k)) (k + 1)
/-- What a round of the walk begins with. -/
structure Rnd (w : World) (bt : Nat) (ids : List Int) (Cs : List (List Cg)) (k : Nat) (vT vG : Value) (id : Int) (ok : Bool) (W : World) : Prop where
  ex : ∃ (Ps : VPs) (told gone : List Int), Wk w bt Ps told gone vT vG W ∧ Going ids (ids ++ nums (Cs.take k)) told gone (hasId Ps) ∧ told.length = k ∧ gone.length ≤ total (Cs.take k) ∧ U32 id ∧
    ((ok = true ∧ Least told (hasId Ps) id) ∨ (ok = false ∧ ∀ a, hasId Ps a = true → ¬ ∀ b ∈ told, b < a))
theorem Rnd.grow {w W W' : World} {bt k : Nat} {ids : List Int} {Cs : List (List Cg)} {vT vG : Value} {id : Int} {ok : Bool} (h : Rnd w bt ids Cs k vT vG id ok W) (hf : Fr [] W W') : Rnd w bt ids Cs k vT vG id ok W' := by
  obtain ⟨Ps, told, gone, h1, h2⟩ := h.ex
  exact ⟨Ps, told, gone, h1.grow hf, h2⟩
/-- Within a round: the first changes are made. -/
structure Inn (w : World) (bt : Nat) (ids : List Int) (Cs : List (List Cg)) (k : Nat) (told : List Int) (C : List Cg) (jj : Nat) (vT vG : Value) (W : World) : Prop where
  ex : ∃ (Ps : VPs) (gone : List Int), Wk w bt Ps told gone vT vG W ∧ Going ids (ids ++ nums (Cs.take k) ++ (C.take jj).map (·.1)) told gone (hasId Ps) ∧ gone.length ≤ total (Cs.take k) + jj
theorem Inn.grow {w W W' : World} {bt k jj : Nat} {ids told : List Int} {Cs : List (List Cg)} {C : List Cg} {vT vG : Value} (h : Inn w bt ids Cs k told C jj vT vG W) (hf : Fr [] W W') : Inn w bt ids Cs k told C jj vT vG W' := by
  obtain ⟨Ps, gone, h1, h2⟩ := h.ex
  exact ⟨Ps, gone, h1.grow hf, h2⟩
theorem map_succ {C : List Cg} {jj : Nat} {c : Cg} (h : C[jj]? = some c) : (C.take (jj + 1)).map (·.1) = (C.take jj).map (·.1) ++ [c.1] := by
  obtain ⟨hn, e⟩ := List.getElem?_eq_some_iff.1 h
  rw [List.take_succ_eq_append_getElem hn, e, List.map_append]
  rfl
theorem Wk.up {w W : World} {bt : Nat} {Ps : VPs} {told gone : List Int} {vT vG : Value} (h : Wk w bt Ps told gone vT vG W) : Up Ps := by
  obtain ⟨vt, h1, _⟩ := h.tab
  exact h1.up
/-- A number is put in. -/
theorem inn_put {w W : World} {bt k jj : Nat} {ids told : List Int} {Cs : List (List Cg)} {C : List Cg} {vT vG : Value} {c : Cg} (h : Inn w bt ids Cs k told C jj vT vG W) (hc : C[jj]? = some c) (hu : U32 c.1) (n : Int) (s : ByteArray) :
    Calls Tryd.prog 13 #[.pointer (some ⟨bt, 0, none⟩), .int .u32 c.1, .agg #[.int .i64 n, .string s]] W fun e w' => (∃ a, e = .returned a) ∧ Inn w bt ids Cs k told C (jj + 1) vT vG w' ∧ Fr [] w w' := by
  obtain ⟨Ps, gone, h1, h2, h3⟩ := h.ex
  obtain ⟨vt, ht, hv⟩ := h1.tab
  refine (put_any W bt vt Ps 65536 c.1 n s ht hu).mono fun e w' hch => ⟨hch.1, ⟨_, gone, h1.chg ht hv hch, ?_, by omega⟩, (h1.chg ht hv hch).fr⟩
  rw [map_succ hc, ← List.append_assoc]
  exact h2.put h1.up 65536 c.1 (n, s)
/-- A number is taken out, and written down. -/
def Mid (w : World) (bt : Nat) (ids : List Int) (Cs : List (List Cg)) (k : Nat) (told : List Int) (C : List Cg) (jj : Nat) (c : Int) (vT vG : Value) (W : World) : Prop :=
  ∃ (Ps : VPs) (gone : List Int), Wk w bt Ps told gone vT vG W ∧ Going ids (ids ++ nums (Cs.take k) ++ (C.take (jj + 1)).map (·.1)) told (gone ++ [c]) (hasId Ps) ∧ gone.length ≤ total (Cs.take k) + jj
theorem inn_del {w W : World} {bt k jj : Nat} {ids told : List Int} {Cs : List (List Cg)} {C : List Cg} {vT vG : Value} {c : Cg} (h : Inn w bt ids Cs k told C jj vT vG W) (hc : C[jj]? = some c) (hu : U32 c.1) :
    Calls Tryd.prog 16 #[.pointer (some ⟨bt, 0, none⟩), .int .u32 c.1] W fun e w' => (∃ a, e = .returned a) ∧ Mid w bt ids Cs k told C jj c.1 vT vG w' ∧ ∀ z ar, Blk W z ar 39 → Blk w' z ar 39 := by
  obtain ⟨Ps, gone, h1, h2, h3⟩ := h.ex
  obtain ⟨vt, ht, hv⟩ := h1.tab
  refine (del_any W bt vt Ps 65536 c.1 ht hu).mono fun e w' hch => ⟨hch.1, ⟨_, gone, h1.chg ht hv hch, ?_, h3⟩, fun z ar hz => ?_⟩
  · rw [map_succ hc, ← List.append_assoc]
    exact h2.del h1.up c.1
  · obtain ⟨_, v', _, _, hf⟩ := hch
    refine hf.blk hz (fun hm => ?_)
    rcases List.mem_cons.1 hm with e | hm
    · exact Blk.ne hz ht.hd (by decide) e
    · exact own_ne ht.own (by simpa using hm) hz (by decide) rfl
theorem Mid.gone {w W : World} {bt k jj : Nat} {ids told : List Int} {Cs : List (List Cg)} {C : List Cg} {vT vG : Value} {c : Int} (h : Mid w bt ids Cs k told C jj c vT vG W) :
    ∃ gone, W.ownsRow 0 33 1 vG gone.length (u32s gone) ∧ gone.length ≤ total (Cs.take k) + jj ∧ ∀ v' W', Appended W 33 1 vG (gone.length + 1) (u32s gone ++ [.int .u32 c]) v' W' → Inn w bt ids Cs k told C (jj + 1) vT v' W' := by
  obtain ⟨Ps, gone, h1, h2, h3⟩ := h
  exact ⟨gone, h1.tg, h3, fun v' W' hp => ⟨Ps, gone ++ [c], h1.gone hp, h2, by simp; omega⟩⟩
theorem Mid.grow {w W W' : World} {bt k jj : Nat} {ids told : List Int} {Cs : List (List Cg)} {C : List Cg} {vT vG : Value} {c : Int} (h : Mid w bt ids Cs k told C jj c vT vG W) (hf : Fr [] W W') : Mid w bt ids Cs k told C jj c vT vG W' := by
  obtain ⟨Ps, gone, h1, h2⟩ := h
  exact ⟨Ps, gone, h1.grow hf, h2⟩
/-- The next number. -/
theorem next_step {w W : World} {bt k : Nat} {ids told gone : List Int} {Cs : List (List Cg)} {Ps : VPs} {vT vG : Value} {id : Int} (h1 : Wk w bt Ps (told ++ [id]) gone vT vG W) (h2 : Going ids (ids ++ nums (Cs.take (k + 1))) (told ++ [id]) gone (hasId Ps))
    (hk : told.length = k) (hg : gone.length ≤ total (Cs.take (k + 1))) (hid : U32 id) :
    Calls Tryd.prog 15 #[.pointer (some ⟨bt, 0, none⟩), .int .u32 id, .bool false] W fun e w' => ∃ (p nn : Int) (ss : ByteArray) (ok : Bool), e = .returned (.tuple #[.int .u32 p, .agg #[.int .i64 nn, .string ss], .bool ok]) ∧ Rnd w bt ids Cs (k + 1) vT vG p ok w' := by
  obtain ⟨vt, ht, hv⟩ := h1.tab
  have hall : ∀ a, id < a → ∀ b ∈ told ++ [id], b < a := fun a ha b hb => by
    rcases List.mem_append.1 hb with hb | hb
    · have hr := h2.rise
      rw [List.pairwise_append] at hr
      have := hr.2.2 b hb id (by simp)
      omega
    · simp at hb; omega
  refine (next_after W bt vt Ps 65536 id ht hid).mono fun e w' hnp => ?_
  obtain ⟨hcase, f⟩ := hnp
  rcases hcase with ⟨p, nn, ss, rfl, hp, q1, q2, q3⟩ | ⟨rfl, q1⟩
  · exact ⟨p, nn, ss, true, rfl, Ps, told ++ [id], gone, h1.grow f, h2, by simp [hk], hg, hp, .inl ⟨rfl, q1, hall p q2, fun a ha hb => q3 a ha (hb id (by simp))⟩⟩
  · exact ⟨0, 0, _, false, rfl, Ps, told ++ [id], gone, h1.grow f, h2, by simp [hk], hg, ⟨by decide, by decide⟩, .inr ⟨rfl, fun a ha hb => q1 a ha (hb id (by simp))⟩⟩
theorem uinfo : (Tryd.prog.info? 33).map (fun i => (i.zero, i.size, i.bytes)) = some (some (.int .u32 0), 1, 4) := by kernel_rfl
theorem last_of {told : List Int} {k : Nat} (h : told.length = k + 1) : ∃ b, told[k]? = some b := ⟨told[k], List.getElem?_eq_getElem (by omega)⟩
/-- The start of the round: the first i numbers are in. -/
structure Start (ids : List Int) (i : Nat) (Ps : VPs) : Prop where
  len : Ps.length ≤ i
  have' : ∀ a, hasId Ps a = true → a ∈ ids.take i
  all : ∀ a ∈ ids.take i, hasId Ps a = true
theorem Start.put {ids : List Int} {i : Nat} {Ps : VPs} {a : Int} (h : Start ids i Ps) (hu : Up Ps) (hi : i < 1000) (ha : ids[i]? = some a) (x : Int × ByteArray) : Start ids (i + 1) (putL Ps 65536 a x) := by
  obtain ⟨hl, e⟩ := List.getElem?_eq_some_iff.1 ha
  have ht : ids.take (i + 1) = ids.take i ++ [a] := by rw [List.take_succ_eq_append_getElem hl, e]
  refine ⟨Nat.le_trans put_len (by have := h.len; omega), fun b hb => ?_, fun b hb => ?_⟩
  · rw [ht]
    rcases put_only hu hb with q | rfl
    · exact List.mem_append_left _ (h.have' b q)
    · simp
  · rw [ht] at hb
    rcases List.mem_append.1 hb with hb | hb
    · exact put_keeps hu (h.all b hb)
    · simp at hb; subst hb
      exact put_in hu (by have := h.len; omega)
structure Reg7 (f : Value → Value → Value → Value → Value → Value → Value → Value → Value → Array Value) (w1 : World) (v0 v1 v2 v3 v4 v5 v6 v7 : Value) (Q : World → Prop) (p : Nat → Prop) (a : Act) (w : World) : Prop where
  ex : ∃ x0 x1 x2 x3 x4 x5 x6 x7 x8, a = { tmps := f x0 x1 x2 x3 x4 x5 x6 x7 x8, defers := [] } ∧ (p 0 → x0 = v0) ∧ (p 1 → x1 = v1) ∧ (p 2 → x2 = v2) ∧ (p 3 → x3 = v3) ∧ (p 4 → x4 = v4) ∧ (p 5 → x5 = v5) ∧ (p 6 → x6 = v6) ∧ (p 7 → x7 = v7) ∧ True
  fr : ¬ p 8 → Fr [] w1 w
  dn : p 8 → p 4 ∧ p 7 ∧ Q w
structure Reg29 (f : Value → Value → Value → Value → Value → Array Value) (w1 : World) (v0 v1 v2 v3 : Value) (Q : World → Prop) (p : Nat → Prop) (a : Act) (w : World) : Prop where
  ex : ∃ x0 x1 x2 x3 x4, a = { tmps := f x0 x1 x2 x3 x4, defers := [] } ∧ (p 0 → x0 = v0) ∧ (p 1 → x1 = v1) ∧ (p 2 → x2 = v2) ∧ (p 3 → x3 = v3) ∧ True
  fr : ¬ p 4 → Fr [] w1 w
  dn : p 4 → p 2 ∧ p 3 ∧ Q w

set_option maxRecDepth 100000 in
set_option maxHeartbeats 4000000 in
theorem walk (w : World) (vi vc : Value) (ids : List Int) (Cs : List (List Cg)) (hri : Rd w vi (u32s ids)) (hids : ∀ a ∈ ids, U32 a) (hrc : RdCs w vc Cs) (hcs : ∀ C ∈ Cs, ∀ c ∈ C, U32 c.1) (hT : DeB w) (hl1 : ids.length ≤ 1048576) (hl2 : Cs.length ≤ 1048576) (hl3 : total Cs ≤ 1048576) :
    Calls Tryd.prog 3 #[vi, vc] w fun e w' => e = .returned (.bool true) ∧ Fr [] w w' := by
  have HRI := Lib.hid (And.intro hri hids)
  have HRC := Lib.hid (And.intro hrc hcs)
  have HT := Lib.hid hT
  obtain ⟨pi, capi, rfl, hci, hi0⟩ := hri
  obtain ⟨pc, capc, rfl, hc0⟩ := hrc
  rw [u32s_len] at hi0 hci
  simp only [u32s_len]
  obtain ⟨n, hn⟩ : ∃ n, n = ids.length := ⟨_, rfl⟩
  obtain ⟨m, hm⟩ : ∃ m, m = Cs.length := ⟨_, rfl⟩
  rw [← hn] at hi0 hci hl1 ⊢
  rw [← hm] at hc0 hl2 ⊢
  have HI0 := Lib.hid hi0
  have HC0 := Lib.hid hc0
  have HN := Lib.hid (And.intro hn (And.intro hm hl3))
  clear hi0 hc0 hn hm hT hids hcs hci hl3
  go_enter Tryd.func3, Tryd.ntmps3
  go_wp2_with fail
  (with_reducible refine (newV_ok _ 65536 (by decide) (by decide)).mono ?_)
  rintro e w1 ⟨bt, vt, rfl, ht, hbt, hvt, f1⟩
  have H1 := Lib.hid (And.intro ht (And.intro hbt (And.intro hvt f1)))
  clear ht hbt hvt f1
  by_cases hbig : 1000 < n
  · have hbig2 : (1000 : Int) < (n : Int) := by omega
    have HL := Lib.hid (lives_any w1 (HT.out.fr H1.out.2.2.2 (by simp)))
    go_wp2_with fail
    (with_reducible refine (HL.out).mono ?_)
    rintro e w2 ⟨rfl, f2⟩
    have H2 := Lib.hid (H1.out.2.2.2.trans f2 (by simp))
    clear f2
    go_wp2_with fail
    go_ret
    exact ⟨rfl, H2.out⟩
  · have hbig2 : ¬ (1000 : Int) < (n : Int) := by omega
    have hWk : Wk w bt [] [] [] (.slice none 0 0) (.slice none 0 0) w1 := ⟨⟨vt, H1.out.1, H1.out.2.2.1⟩, H1.out.2.1, World.ownsRow_nil _ _ _ _, World.ownsRow_nil _ _ _ _, by simp [Value.ownBlock], by simp [Value.ownBlock], by simp [Value.ownBlock], H1.out.2.2.2⟩
    have HWK := Lib.hid hWk
    have hn1000 : n ≤ 1000 := by omega
    clear hWk H1 hbig
    go_wp2_with fail
    go_loopw [7] (fun iw wr => ∃ (i : Nat) (Ps : VPs), iw = .int .i64 i ∧ i ≤ n ∧ Start ids i Ps ∧ Wk w bt Ps [] [] (.slice none 0 0) (.slice none 0 0) wr) (fun iw _ => n - (intOf iw).toNat)
    case atStart => exact ⟨0, [], rfl, Nat.zero_le _, ⟨Nat.le_refl _, (fun a h => by cases h), (fun a h => by simp at h)⟩, HWK.out⟩
    case round =>
      obtain ⟨i, Ps, rfl, hi, hst, hwk⟩ := hrel
      obtain ⟨wi, rfl⟩ : ∃ wi : World, wi = wr := ⟨_, rfl⟩
      have HK := Lib.hid (And.intro hst hwk)
      clear hst hwk
      by_cases hin : i < n
      · have hlt : i < ids.length := by rw [← HN.out.1]; exact hin
        obtain ⟨g, o, rfl, hc⟩ := HI0.out.resolve_left (by omega)
        obtain ⟨a, ha⟩ : ∃ a, a = ids[i] := ⟨_, rfl⟩
        have hai : ids[i]? = some a := by rw [ha]; exact List.getElem?_eq_getElem hlt
        have c0 := hc i _ (u32s_get hai)
        have HA := Lib.hid (And.intro hai (And.intro (HRI.out.2 a (List.mem_of_getElem? hai)) c0))
        have g0 : (0 : Int) ≤ (i : Int) := by omega
        have g1 : (i : Int) < (n : Int) := by omega
        clear hc hai ha hlt c0
        have HW1 := Lib.hid (wr1 (i := i) (by omega))
        go_wp2_with fail
        refine region_inv (by kernel_rfl) (by kernel_rfl) (Reg7 (fun x0 x1 x2 x3 x4 x5 x6 x7 x8 => #[.slice (some ⟨g, o, none⟩) n capi, .slice pc m capc, undef, undef, .bool false, .pointer (some ⟨bt, 0, none⟩), .int .i64 0, .int .i64 (i : Nat), undef, undef, undef, undef, undef, undef, undef, undef, undef, undef, undef, .tuple #[.pointer (some ⟨bt, 0, none⟩), .int .i64 0], .tuple #[.pointer (some ⟨bt, 0, none⟩), .int .i64 0], .pointer (some ⟨bt, 0, none⟩), .int .i64 0, .pointer (some ⟨bt, 0, none⟩), .bool false, .bool false, .int .i64 0, .bool false, .bool false, .bool false, .slice (some ⟨g, o, none⟩) n capi, .int .i64 (n : Nat), .bool (decide ((1000 : Int) < (n : Int))), .bool (decide ((1000 : Int) < (n : Int))), undef, undef, undef, undef, undef, .int .i64 (i : Nat), .slice (some ⟨g, o, none⟩) n capi, .int .i64 (n : Nat), .bool true, u43, u44, x0, x1, x2, x3, x4, x5, x6, x7, x8, undef, undef, undef, undef, undef, undef, undef, undef, undef, undef, undef, undef, undef, undef, undef, undef, undef, undef, undef, undef, undef, undef, undef, undef, undef, undef, undef, undef, undef, undef, undef, undef, undef, undef, undef, undef, undef, undef, undef, undef, undef, undef, undef, undef, undef, undef, undef, undef, undef, undef, undef, undef, undef, undef, undef, undef, undef, undef, undef, undef, undef, undef, undef, undef, undef, undef, undef, undef, undef, undef, undef, undef, undef, undef, undef, undef, undef, undef, undef, undef, undef, undef, undef, undef, undef, undef, undef, undef, undef, undef, undef, undef, undef, undef, undef, undef, undef, undef, undef, undef, undef, undef, undef, undef, undef, undef, undef, undef, undef, undef, undef, undef]) wi (.pointer (some ⟨bt, 0, none⟩)) (.slice (some ⟨g, o, none⟩) n capi) (.int .i64 (i : Nat)) (.pointer (some ⟨g, o + i, none⟩)) (.int .u32 a) (.int .i64 (i : Nat)) (.int .i64 ((i : Int) + 1)) (.agg #[.int .i64 ((i : Int) + 1), .string (sv ((i : Int) + 1))]) (fun W => Wk w bt (putL Ps 65536 a ((i : Int) + 1, sv ((i : Int) + 1))) [] [] (.slice none 0 0) (.slice none 0 0) W)) ?_ ?_ ?_
        · refine ⟨⟨_, _, _, _, _, _, _, _, _, rfl, ?_⟩, fun _ => (Fr.refl _ _).drew, fun h => h.elim⟩
          simp
        · intro p ac W di hdi hnp hd hI
          obtain ⟨⟨x0, x1, x2, x3, x4, x5, x6, x7, x8, rfl, g0, g1, g2, g3, g4, g5, g6, g7, _⟩, hfr0, hdn⟩ := hI
          have hcases : di = 0 ∨ di = 1 ∨ di = 2 ∨ di = 3 ∨ di = 4 ∨ di = 5 ∨ di = 6 ∨ di = 7 ∨ di = 8 := by
            have h27 : di < 9 := hdi
            omega
          rcases hcases with rfl | rfl | rfl | rfl | rfl | rfl | rfl | rfl | rfl
          · refine wpOp_plain (i := 0) rfl rfl (fun K' hK => ?_)
            unfold Oper.wp
            go_simp
            refine hK _ _ ⟨⟨_, _, _, _, _, _, _, _, _, rfl, (fun _ => rfl), (fun h => g1 (h.resolve_right (by decide))), (fun h => g2 (h.resolve_right (by decide))), (fun h => g3 (h.resolve_right (by decide))), (fun h => g4 (h.resolve_right (by decide))), (fun h => g5 (h.resolve_right (by decide))), (fun h => g6 (h.resolve_right (by decide))), (fun h => g7 (h.resolve_right (by decide))), trivial⟩, (fun q => hfr0 (fun a => q (.inl a))), (fun q => ⟨.inl (hdn (q.resolve_right (by decide))).1, .inl (hdn (q.resolve_right (by decide))).2.1, (hdn (q.resolve_right (by decide))).2.2⟩)⟩
          · refine wpOp_plain (i := 1) rfl rfl (fun K' hK => ?_)
            unfold Oper.wp
            go_simp
            refine hK _ _ ⟨⟨_, _, _, _, _, _, _, _, _, rfl, (fun h => g0 (h.resolve_right (by decide))), (fun _ => rfl), (fun h => g2 (h.resolve_right (by decide))), (fun h => g3 (h.resolve_right (by decide))), (fun h => g4 (h.resolve_right (by decide))), (fun h => g5 (h.resolve_right (by decide))), (fun h => g6 (h.resolve_right (by decide))), (fun h => g7 (h.resolve_right (by decide))), trivial⟩, (fun q => hfr0 (fun a => q (.inl a))), (fun q => ⟨.inl (hdn (q.resolve_right (by decide))).1, .inl (hdn (q.resolve_right (by decide))).2.1, (hdn (q.resolve_right (by decide))).2.2⟩)⟩
          · refine wpOp_plain (i := 2) rfl rfl (fun K' hK => ?_)
            unfold Oper.wp
            go_simp
            refine hK _ _ ⟨⟨_, _, _, _, _, _, _, _, _, rfl, (fun h => g0 (h.resolve_right (by decide))), (fun h => g1 (h.resolve_right (by decide))), (fun _ => rfl), (fun h => g3 (h.resolve_right (by decide))), (fun h => g4 (h.resolve_right (by decide))), (fun h => g5 (h.resolve_right (by decide))), (fun h => g6 (h.resolve_right (by decide))), (fun h => g7 (h.resolve_right (by decide))), trivial⟩, (fun q => hfr0 (fun a => q (.inl a))), (fun q => ⟨.inl (hdn (q.resolve_right (by decide))).1, .inl (hdn (q.resolve_right (by decide))).2.1, (hdn (q.resolve_right (by decide))).2.2⟩)⟩
          · have r1 := g1 (hd _ rfl ⟨1, .data⟩ (by simp) rfl)
            subst r1
            have r2 := g2 (hd _ rfl ⟨2, .data⟩ (by simp) rfl)
            subst r2
            refine wpOp_plain (i := 3) rfl rfl (fun K' hK => ?_)
            unfold Oper.wp
            go_simp
            refine hK _ _ ⟨⟨_, _, _, _, _, _, _, _, _, rfl, (fun h => g0 (h.resolve_right (by decide))), (fun h => g1 (h.resolve_right (by decide))), (fun h => g2 (h.resolve_right (by decide))), (fun _ => rfl), (fun h => g4 (h.resolve_right (by decide))), (fun h => g5 (h.resolve_right (by decide))), (fun h => g6 (h.resolve_right (by decide))), (fun h => g7 (h.resolve_right (by decide))), trivial⟩, (fun q => hfr0 (fun a => q (.inl a))), (fun q => ⟨.inl (hdn (q.resolve_right (by decide))).1, .inl (hdn (q.resolve_right (by decide))).2.1, (hdn (q.resolve_right (by decide))).2.2⟩)⟩
          · have r3 := g3 (hd _ rfl ⟨3, .data⟩ (by simp) rfl)
            subst r3
            have hfr := hfr0 (fun q => hnp (hdn q).1)
            have c0 := ((HK.out.2.fr.trans hfr (by simp)).cell (World.block_lt_of_cell? w _ HA.out.2.2) (by simp)).trans HA.out.2.2
            refine wpOp_plain (i := 4) rfl rfl (fun K' hK => ?_)
            unfold Oper.wp
            go_simp
            refine hK _ _ ⟨⟨_, _, _, _, _, _, _, _, _, rfl, (fun h => g0 (h.resolve_right (by decide))), (fun h => g1 (h.resolve_right (by decide))), (fun h => g2 (h.resolve_right (by decide))), (fun h => g3 (h.resolve_right (by decide))), (fun _ => rfl), (fun h => g5 (h.resolve_right (by decide))), (fun h => g6 (h.resolve_right (by decide))), (fun h => g7 (h.resolve_right (by decide))), trivial⟩, (fun q => hfr0 (fun a => q (.inl a))), (fun q => ⟨.inl (hdn (q.resolve_right (by decide))).1, .inl (hdn (q.resolve_right (by decide))).2.1, (hdn (q.resolve_right (by decide))).2.2⟩)⟩
          · refine wpOp_plain (i := 5) rfl rfl (fun K' hK => ?_)
            unfold Oper.wp
            go_simp
            refine hK _ _ ⟨⟨_, _, _, _, _, _, _, _, _, rfl, (fun h => g0 (h.resolve_right (by decide))), (fun h => g1 (h.resolve_right (by decide))), (fun h => g2 (h.resolve_right (by decide))), (fun h => g3 (h.resolve_right (by decide))), (fun h => g4 (h.resolve_right (by decide))), (fun _ => rfl), (fun h => g6 (h.resolve_right (by decide))), (fun h => g7 (h.resolve_right (by decide))), trivial⟩, (fun q => hfr0 (fun a => q (.inl a))), (fun q => ⟨.inl (hdn (q.resolve_right (by decide))).1, .inl (hdn (q.resolve_right (by decide))).2.1, (hdn (q.resolve_right (by decide))).2.2⟩)⟩
          · have r5 := g5 (hd _ rfl ⟨5, .data⟩ (by simp) rfl)
            subst r5
            have wi1 := HW1.out
            refine wpOp_plain (i := 6) rfl rfl (fun K' hK => ?_)
            unfold Oper.wp
            go_simp
            refine hK _ _ ⟨⟨_, _, _, _, _, _, _, _, _, rfl, (fun h => g0 (h.resolve_right (by decide))), (fun h => g1 (h.resolve_right (by decide))), (fun h => g2 (h.resolve_right (by decide))), (fun h => g3 (h.resolve_right (by decide))), (fun h => g4 (h.resolve_right (by decide))), (fun h => g5 (h.resolve_right (by decide))), (fun _ => rfl), (fun h => g7 (h.resolve_right (by decide))), trivial⟩, (fun q => hfr0 (fun a => q (.inl a))), (fun q => ⟨.inl (hdn (q.resolve_right (by decide))).1, .inl (hdn (q.resolve_right (by decide))).2.1, (hdn (q.resolve_right (by decide))).2.2⟩)⟩
          · have r6 := g6 (hd _ rfl ⟨6, .data⟩ (by simp) rfl)
            subst r6
            have hfr := hfr0 (fun q => hnp (hdn q).2.1)
            refine wpOp_plain (i := 7) rfl rfl (fun K' hK => ?_)
            unfold Oper.wp
            go_simp
            (with_reducible refine (of_any _ _).mono ?_)
            rintro e w9 ⟨rfl, f⟩
            refine hK _ _ ⟨⟨_, _, _, _, _, _, _, _, _, rfl, (fun h => g0 (h.resolve_right (by decide))), (fun h => g1 (h.resolve_right (by decide))), (fun h => g2 (h.resolve_right (by decide))), (fun h => g3 (h.resolve_right (by decide))), (fun h => g4 (h.resolve_right (by decide))), (fun h => g5 (h.resolve_right (by decide))), (fun h => g6 (h.resolve_right (by decide))), (fun _ => rfl), trivial⟩, (fun _ => hfr.trans f (by simp)), (fun q => absurd (hdn (q.resolve_right (by decide))).2.1 hnp)⟩
          · have r0 := g0 (hd _ rfl ⟨0, .data⟩ (by simp) rfl)
            subst r0
            have r4 := g4 (hd _ rfl ⟨4, .data⟩ (by simp) rfl)
            subst r4
            have r7 := g7 (hd _ rfl ⟨7, .data⟩ (by simp) rfl)
            subst r7
            have hfr := hfr0 hnp
            refine wpOp_plain (i := 8) rfl rfl (fun K' hK => ?_)
            unfold Oper.wp
            go_simp
            obtain ⟨vt, ht, hv⟩ := HK.out.2.tab
            (with_reducible refine (put_any W bt vt Ps 65536 a _ _ (ht.grow hfr) HA.out.2.1).mono ?_)
            intro e w9 hch
            have hq := (HK.out.2.grow hfr).chg (ht.grow hfr) hv hch
            obtain ⟨⟨aa, rfl⟩, _⟩ := hch
            refine hK _ _ ⟨⟨_, _, _, _, _, _, _, _, _, rfl, (fun h => g0 (h.resolve_right (by decide))), (fun h => g1 (h.resolve_right (by decide))), (fun h => g2 (h.resolve_right (by decide))), (fun h => g3 (h.resolve_right (by decide))), (fun h => g4 (h.resolve_right (by decide))), (fun h => g5 (h.resolve_right (by decide))), (fun h => g6 (h.resolve_right (by decide))), (fun h => g7 (h.resolve_right (by decide))), trivial⟩, (fun q => absurd (.inr rfl) q), (fun _ => ⟨.inl (hd _ rfl ⟨4, .data⟩ (by simp) rfl), .inl (hd _ rfl ⟨7, .data⟩ (by simp) rfl), hq⟩)⟩
        · intro p ac W di hI
          obtain ⟨⟨x0, x1, x2, x3, x4, x5, x6, x7, x8, rfl, -, -, -, -, -, -, -, -, _⟩, _, hdn⟩ := hI
          have hq := (hdn (di 8 (by decide))).2.2
          simp only [Exit.then]
          go_wp2_with fail
          obtain ⟨vt, ht, hv⟩ := HK.out.2.tab
          have hsp := HK.out.1.put (x := ((i : Int) + 1, sv ((i : Int) + 1))) ht.up (by omega) HA.out.1
          exact ⟨⟨i + 1, _, by go_num, by omega, hsp, hq⟩, by simp [intOf]; omega⟩
      · obtain rfl : i = n := by omega
        have hst := HK.out.1
        have hwk := HK.out.2
        have hgo : Going ids ids [] [] (hasId Ps) := ⟨List.Pairwise.nil, (fun a h => by cases h), (fun a h => List.mem_of_mem_take (hst.have' a h)), fun a h => .inr ⟨hst.all a (by rw [HN.out.1, List.take_length]; exact h), .inr (fun b hb => by cases hb)⟩⟩
        have HGO := Lib.hid (And.intro hgo hwk)
        have HCW := Lib.hid (HRC.out.1.grow hwk.fr)
        clear hst hwk hgo HK hi hin HWK
        go_wp2_with fail
        go_loopw [8, 9] (fun aw jw wr => ∃ j : Nat, jw = .int .i64 j ∧ aw = .int .i64 ((i : Int) + (total (Cs.take j) : Int)) ∧ j ≤ m ∧ wi = wr) (fun _ jw _ => m - (intOf jw).toNat)
        case atStart => exact ⟨0, rfl, by simp [total], Nat.zero_le _, rfl⟩
        case round =>
          obtain ⟨j, rfl, rfl, hj, rfl⟩ := hrel
          by_cases hjm : j < m
          · have hlt : j < Cs.length := by rw [← HN.out.2.1]; exact hjm
            obtain ⟨q, capq, hqe, hq0⟩ := HCW.out
            rw [← HN.out.2.1] at hqe hq0
            cases hqe
            obtain ⟨g, o, rfl, hc⟩ := hq0.resolve_left (by omega)
            obtain ⟨C, hC⟩ : ∃ C, C = Cs[j] := ⟨_, rfl⟩
            have hCj : Cs[j]? = some C := by rw [hC]; exact List.getElem?_eq_getElem hlt
            obtain ⟨u, c0, q2, cap2, rfl, _⟩ := hc j C hCj
            have hts := total_succ hCj
            have htl := total_take Cs (j + 1)
            have HTS := Lib.hid (And.intro hts (Nat.le_trans htl HN.out.2.2))
            obtain ⟨t0, ht0⟩ : ∃ t, t = total (Cs.take j) := ⟨_, rfl⟩
            rw [← ht0] at HTS
            simp only [← ht0]
            obtain ⟨l, hl⟩ : ∃ l, l = C.length := ⟨_, rfl⟩
            rw [← hl] at c0 HTS
            have b1 : t0 + l ≤ 1048576 := by have := HTS.out.2; rw [HTS.out.1] at this; exact this
            have g0 : (0 : Int) ≤ (j : Int) := by omega
            have g1 : (j : Int) < (m : Int) := by omega
            clear hc hCj hC hlt hts htl ht0 hl hq0
            go_wp2_with fail
            refine ⟨⟨j + 1, by go_num, ?_, by omega, by first | rfl | trivial⟩, by simp [intOf]; omega⟩
            rw [HTS.out.1]
            exact congrArg (Value.int .i64) (by omega)
          · obtain rfl : j = m := by omega
            have HNT := Lib.hid HN.out.2.2
            obtain ⟨vt, ht, hv⟩ := HGO.out.2.tab
            have HNX := Lib.hid (next_first _ bt vt Ps 65536 77 ht (by unfold U32; omega))
            obtain ⟨A, hA⟩ : ∃ A, A = i + total (Cs.take j) := ⟨_, rfl⟩
            have hA2 : (i : Int) + (total (Cs.take j) : Int) = (A : Int) := by omega
            have HA := Lib.hid (show A = i + total (Cs.take j) ∧ A ≤ 1049576 from ⟨hA, by have := total_take Cs j; have := HN.out.2.2; omega⟩)
            rw [hA2]
            clear hA hA2 ht hv hbig2 hj hjm
            go_wp2_with fail
            (with_reducible refine (HNX.out).mono ?_)
            intro e w3 hnp
            have hR : ∃ (id nn : Int) (ss : ByteArray) (ok : Bool), e = .returned (.tuple #[.int .u32 id, .agg #[.int .i64 nn, .string ss], .bool ok]) ∧ Rnd w bt ids Cs 0 (.slice none 0 0) (.slice none 0 0) id ok w3 := by
              obtain ⟨hcase, f3⟩ := hnp
              have hn0 : ids ++ nums (Cs.take 0) = ids := by simp [nums]
              rcases hcase with ⟨p, nn, ss, rfl, hp, h1, h2⟩ | ⟨rfl, h1⟩
              · exact ⟨p, nn, ss, true, rfl, Ps, [], [], HGO.out.2.grow f3, by rw [hn0]; exact HGO.out.1, rfl, Nat.zero_le _, hp, .inl ⟨rfl, h1, (by simp), fun a ha _ => h2 a ha⟩⟩
              · exact ⟨0, 0, _, false, rfl, Ps, [], [], HGO.out.2.grow f3, by rw [hn0]; exact HGO.out.1, rfl, Nat.zero_le _, ⟨by decide, by decide⟩, .inr ⟨rfl, fun a ha => by rw [h1 a] at ha; cases ha⟩⟩
            clear hnp
            obtain ⟨id0, nn0, ss0, ok0, rfl, hR⟩ := hR
            have HR := Lib.hid hR
            clear hR HNX
            go_wp2_with fail
            go_loopw [10, 11, 12, 14, 15] (fun tw gw idw okw nw wr => ∃ (k : Nat) (id : Int) (ok : Bool), idw = .int .u32 id ∧ okw = .bool ok ∧ nw = .int .i64 k ∧ Rnd w bt ids Cs k tw gw id ok wr) (fun _ _ _ _ nw _ => A + 1 - (intOf nw).toNat)
            case atStart => exact ⟨0, id0, ok0, rfl, rfl, rfl, HR.out.grow ((Fr.refl _ _).alloc _)⟩
            case round =>
              obtain ⟨k, id, ok, rfl, rfl, rfl, hrd⟩ := hrel
              obtain ⟨wk, rfl⟩ : ∃ wk : World, wk = wr := ⟨_, rfl⟩
              obtain ⟨Qs, told, gone, hwk, hgo, hk, hgl, hid, hcase⟩ := hrd.ex
              obtain ⟨pT, capT, hvT, _, hT0⟩ := Rd.of_own hwk.tl
              rw [u32s_len, hk] at hvT hT0
              subst hvT
              cases ok with
              | true =>
                have hle := (hcase.resolve_right (fun q => by cases q.1)).2
                have hfew := hgo.few hle
                have hnl : (ids ++ nums (Cs.take k)).length ≤ A := by
                  rw [List.length_append, nums_len, HA.out.1, ← HN.out.1]
                  have h1 := total_take Cs k
                  have h2 : Cs.take j = Cs := by rw [HN.out.2.1, List.take_length]
                  rw [h2]; omega
                have hkA : k < A := by omega
                have HG := Lib.hid (And.intro hwk (And.intro hgo (And.intro hk (And.intro hgl (And.intro hid (And.intro hle hT0))))))
                have b1 := HA.out.2
                have hAk : ¬ (A : Int) ≤ (k : Int) := by omega
                have hlast : k = 0 ∨ ∃ k' b g o, k = k' + 1 ∧ pT = some ⟨g, o, none⟩ ∧ wk.cell? ⟨g, o + k', none⟩ = some (.int .u32 b) ∧ ¬ id ≤ b := by
                  cases k with
                  | zero => exact .inl rfl
                  | succ k' =>
                    obtain ⟨b, hb⟩ := last_of hk
                    obtain ⟨g, o, hp, hc⟩ := hT0.resolve_left (by omega)
                    exact .inr ⟨k', b, g, o, rfl, hp, hc k' _ (u32s_get hb), by have := hle.above b (List.mem_of_getElem? hb); omega⟩
                have hTL := hwk.tl
                rw [hk] at hTL
                have HTL := Lib.hid hTL
                clear hwk hgo hk hgl hid hcase hle hT0 hrd hfew hnl hTL
                go_upto_region 18 with fail
                go_cut [95] (fun t wx => t = .bool false ∧ wx = wk)
                case first =>
                  rcases hlast with rfl | ⟨k', b, g, o, rfl, rfl, c0, hib⟩
                  · have hA0 : ¬ (A : Int) ≤ 0 := by omega
                    have hA1 : ¬ A = 0 := by omega
                    clear hAk
                    go_wp2_with fail
                    go_meet
                    case rel => exact ⟨rfl, rfl⟩
                  · have g0 : (0 : Int) ≤ (k' : Int) := by omega
                    have g1 : (k' : Int) < (k' : Int) + 1 := by omega
                    have g2 : ((k' + 1 : Nat) : Int) = (k' : Int) + 1 := by omega
                    have g3 : ¬ (A : Int) ≤ (k' : Int) + 1 := by omega
                    go_wp2_with fail
                    go_meet
                    case rel => exact ⟨rfl, rfl⟩
                case rest =>
                  obtain ⟨rfl, hwx⟩ := hcut
                  subst hwx
                  clear hlast
                  go_upto_region 21 with (at_builtin; go_must (refine wpList_app _ rfl _ _ 22 rfl 33 (.int .u32 0) 1 4 Tryd.underlying22 uinfo rfl (by decide) (.slice pT k capT) k (u32s told) rfl (HTL.out.alloc _) ⟨_, 0, none⟩ 1 1 [.int .u32 id] rfl rfl (new_one _ _ _ _ rfl) (by simp [Value.oneCell']) (by unfold maxLen; omega) (by omega) ?_); intro v1 w4 happ; have HAP := Lib.hid happ; clear happ)
                  have hIN : ∀ C, Inn w bt ids Cs k (told ++ [id]) C 0 v1 u11 w4 := fun C => ⟨Qs, gone, (HG.out.1.grow ((Fr.refl [] wc).alloc _)).told (by rw [HG.out.2.2.1]; exact HAP.out), by simpa using HG.out.2.1.tell HG.out.2.2.2.2.2.1, by simpa using HG.out.2.2.2.1⟩
                  have HIN := Lib.hid hIN
                  clear hIN
                  by_cases hkm : k < j
                  · have hkm2 : (k : Int) < (j : Int) := by omega
                    have hlt : k < Cs.length := by rw [← HN.out.2.1]; exact hkm
                    obtain ⟨C, hC⟩ : ∃ C, C = Cs[k] := ⟨_, rfl⟩
                    have hCk : Cs[k]? = some C := by rw [hC]; exact List.getElem?_eq_getElem hlt
                    have HCK := Lib.hid hCk
                    have HLT := Lib.hid (HC0.out.resolve_left (by omega))
                    obtain ⟨g, o, hpc, hcc⟩ := HLT.out
                    subst hpc
                    obtain ⟨u, c0, q2, cap2, rfl, hq2⟩ := hcc k C hCk
                    have hCin : ∀ c ∈ C, U32 c.1 := HRC.out.2 C (List.mem_of_getElem? hCk)
                    have htl := total_take Cs (k + 1)
                    rw [total_succ hCk] at htl
                    have HC := Lib.hid (And.intro c0 (And.intro hq2 (And.intro hCin (Nat.le_trans htl HN.out.2.2))))
                    obtain ⟨l, hl⟩ : ∃ l, l = C.length := ⟨_, rfl⟩
                    have HCL := Lib.hid hl
                    rw [← hl] at HC
                    have g0 : (0 : Int) ≤ (k : Int) := by omega
                    have hl6 : l ≤ 1048576 := by have := HC.out.2.2.2; omega
                    clear hC hCk hlt hcc c0 hq2 hCin htl hl
                    go_wp2_with fail
                    go_loopw [11, 16] (fun gv jw wr => ∃ jj : Nat, jw = .int .i64 jj ∧ jj ≤ l ∧ Inn w bt ids Cs k (told ++ [id]) C jj v1 gv wr) (fun _ jw _ => l - (intOf jw).toNat)
                    case atStart => exact ⟨0, rfl, Nat.zero_le _, HIN.out C⟩
                    case round =>
                      obtain ⟨jj, rfl, hjl, hinn⟩ := hrel
                      obtain ⟨wq, rfl⟩ : ∃ wq : World, wq = wr := ⟨_, rfl⟩
                      have HI := Lib.hid hinn
                      obtain ⟨Ps3, gone3, y1, _, y3⟩ := hinn.ex
                      have hFq := y1.fr
                      have HY := Lib.hid (And.intro hFq y3)
                      have c0 := (hFq.cell (World.block_lt_of_cell? w _ HC.out.1) (by simp)).trans HC.out.1
                      clear hinn y1 y3 hFq
                      by_cases hjj : jj < l
                      · have hlt : jj < C.length := by rw [← HCL.out]; exact hjj
                        obtain ⟨g2, o2, hp2, hcc⟩ := HC.out.2.1.resolve_left (by omega)
                        subst hp2
                        obtain ⟨c, hc⟩ : ∃ c, c = C[jj] := ⟨_, rfl⟩
                        have hcj : C[jj]? = some c := by rw [hc]; exact List.getElem?_eq_getElem hlt
                        obtain ⟨d0, d1⟩ := hcc jj c hcj
                        have hcu := HC.out.2.2.1 c (List.mem_of_getElem? hcj)
                        obtain ⟨c1, cb⟩ := c
                        have e0 := (HY.out.1.cell (World.block_lt_of_cell? w _ d0) (by simp)).trans d0
                        have e1 := (HY.out.1.cell (World.block_lt_of_cell? w _ d1) (by simp)).trans d1
                        dsimp only at e0 e1 hcu
                        have HE := Lib.hid (And.intro hcj (And.intro hcu (HI.out.grow ((Fr.refl [] wq).alloc (.cells #[.int .u32 c1, .bool cb] 39)))))
                        have hz := Blk.new wq #[.int .u32 c1, .bool cb] 39
                        obtain ⟨z, hzz⟩ : ∃ z, z = wq.heap.size := ⟨_, rfl⟩
                        have gj0 : (0 : Int) ≤ (jj : Int) := by omega
                        have gj1 : (jj : Int) < (l : Int) := by omega
                        clear hcc hc hcj hlt d0 d1 hcu
                        go_upto_region 26 with fail
                        simp only [← hzz] at *
                        clear hzz
                        generalize wq.alloc _ = wz at *
                        have c5 := hz.at 0 (v := .int .u32 c1) rfl
                        have c6 := hz.at 1 (v := .bool cb) rfl
                        have HZ := Lib.hid hz
                        clear hz e0 e1
                        cases cb with
                        | true =>
                          have HD := Lib.hid (inn_del HE.out.2.2 HE.out.1 HE.out.2.1)
                          go_wp2_with fail
                          (with_reducible refine (HD.out).mono ?_)
                          rintro e w7 ⟨⟨aa, rfl⟩, hmid, hkz⟩
                          have c7 := (hkz z _ HZ.out).at 0 (v := .int .u32 c1) rfl
                          obtain ⟨gn, ho, hgl, hfin⟩ := (hmid.grow ((Fr.refl [] w7).alloc (.cells #[.int .u32 c1] 33))).gone
                          have HO := Lib.hid (And.intro ho hfin)
                          have hg6 : gn.length ≤ 2097152 := by have := HC.out.2.2.2; omega
                          clear hmid hkz ho hfin hgl c5 c6
                          go_wp2_with (at_builtin; go_must (refine wpList_app _ rfl _ _ 22 rfl 33 (.int .u32 0) 1 4 Tryd.underlying22 uinfo rfl (by decide) u11 gn.length (u32s gn) rfl HO.out.1 ⟨_, 0, none⟩ 1 1 [.int .u32 c1] rfl rfl (new_one _ _ _ _ rfl) (by simp [Value.oneCell']) (by unfold maxLen; omega) (by omega) ?_); intro v9 w9 happ; have HAP9 := Lib.hid happ; clear happ)
                          exact ⟨⟨jj + 1, by go_num, by omega, HO.out.2 _ _ HAP9.out⟩, by simp [intOf]; omega⟩
                        | false =>
                          go_wp2_with fail
                          refine region_inv (by kernel_rfl) (by kernel_rfl) (Reg29 (fun x0 x1 x2 x3 x4 => #[Value.slice pi i capi, Value.slice (some ⟨g, o, none⟩) j capc, undef, undef, u4, Value.pointer (some ⟨bt, 0, none⟩), Value.int IntKind.i64 0, Value.int IntKind.i64 i, Value.int IntKind.i64 A, Value.int IntKind.i64 j, v1, u11, Value.int IntKind.u32 id, Value.pointer (some ⟨w3.heap.size, 0, none⟩), Value.bool true, Value.int IntKind.i64 k, Value.int IntKind.i64 jj, Value.pointer (some ⟨z, 0, none⟩), undef, Value.tuple #[Value.pointer (some ⟨bt, 0, none⟩), Value.int IntKind.i64 0], Value.tuple #[Value.pointer (some ⟨bt, 0, none⟩), Value.int IntKind.i64 0], Value.pointer (some ⟨bt, 0, none⟩), Value.int IntKind.i64 0, Value.pointer (some ⟨bt, 0, none⟩), Value.bool false, Value.bool false, Value.int IntKind.i64 0, Value.bool false, Value.bool false, Value.bool false, Value.slice pi i capi, Value.int IntKind.i64 i, Value.bool (decide ((1000 : Int) < (i : Int))), Value.bool (decide ((1000 : Int) < (i : Int))), undef, undef, undef, undef, undef, Value.int IntKind.i64 i, Value.slice pi i capi, Value.int IntKind.i64 i, Value.bool false, u43, u44, u45, u46, u47, u48, u49, u50, u51, u52, u53, Value.slice pi i capi, Value.int IntKind.i64 i, Value.int IntKind.i64 j, Value.slice (some ⟨g, o, none⟩) j capc, Value.int IntKind.i64 j, Value.bool false, u60, u61, u62, u63, u64, u65, u66, u67, u68, Value.tuple #[Value.int IntKind.u32 id0, Value.agg #[Value.int IntKind.i64 nn0, Value.string ss0], Value.bool ok0], Value.pointer (some ⟨bt, 0, none⟩), Value.tuple #[Value.int IntKind.u32 id0, Value.agg #[Value.int IntKind.i64 nn0, Value.string ss0], Value.bool ok0], Value.int IntKind.u32 id0, Value.agg #[Value.int IntKind.i64 nn0, Value.string ss0], Value.bool ok0, u75, u76, u77, u78, u79, u80, u81, u82, u83, u84, u85, u86, u87, u88, u89, u90, u91, u92, u93, u94, Value.bool false, Value.slice pT k capT, Value.int IntKind.u32 id, Value.slice (some ⟨wc.heap.size, 0, none⟩) 1 1, v1, Value.int IntKind.i64 k, Value.slice (some ⟨g, o, none⟩) j capc, Value.int IntKind.i64 j, Value.bool true, Value.int IntKind.i64 jj, Value.slice (some ⟨g, o, none⟩) j capc, Value.int IntKind.i64 k, Value.pointer (some ⟨g, o + k, none⟩), Value.slice (some ⟨g2, o2, none⟩) l cap2, Value.int IntKind.i64 l, Value.bool true, u111, u112, Value.slice (some ⟨g, o, none⟩) j capc, Value.int IntKind.i64 k, Value.pointer (some ⟨g, o + k, none⟩), Value.slice (some ⟨g2, o2, none⟩) l cap2, Value.int IntKind.i64 jj, Value.pointer (some ⟨g2, o2 + jj * 2, none⟩), Value.agg #[Value.int IntKind.u32 c1, Value.bool false], Value.pointer (some ⟨z, 1, none⟩), Value.bool false, u122, u123, u124, u125, u126, u127, u128, u129, u130, x0, x1, x2, x3, x4, u136, u137, u138, u139, u140, u141, u142, undef, undef, undef, undef, undef, undef, undef, undef, undef, undef, undef, undef, undef, undef, undef, undef, undef, undef, undef, undef, undef, undef, undef]) wz (.pointer (some ⟨bt, 0, none⟩)) (.pointer (some ⟨z, 0, none⟩)) (.int .u32 c1) (.agg #[.int .i64 3, .string (sv 3)]) (fun W => Inn w bt ids Cs k (told ++ [id]) C (jj + 1) v1 u11 W)) ?_ ?_ ?_
                          · refine ⟨⟨_, _, _, _, _, rfl, ?_⟩, fun _ => (Fr.refl _ _).drew, fun h => h.elim⟩
                            simp
                          · intro p ac W di hdi hnp hd hI
                            obtain ⟨⟨x0, x1, x2, x3, x4, rfl, g0, g1, g2, g3, _⟩, hfr0, hdn⟩ := hI
                            have hcases : di = 0 ∨ di = 1 ∨ di = 2 ∨ di = 3 ∨ di = 4 := by
                              have h27 : di < 5 := hdi
                              omega
                            rcases hcases with rfl | rfl | rfl | rfl | rfl
                            · refine wpOp_plain (i := 0) rfl rfl (fun K' hK => ?_)
                              unfold Oper.wp
                              go_simp
                              refine hK _ _ ⟨⟨_, _, _, _, _, rfl, (fun _ => rfl), (fun h => g1 (h.resolve_right (by decide))), (fun h => g2 (h.resolve_right (by decide))), (fun h => g3 (h.resolve_right (by decide))), trivial⟩, (fun q => hfr0 (fun a => q (.inl a))), (fun q => ⟨.inl (hdn (q.resolve_right (by decide))).1, .inl (hdn (q.resolve_right (by decide))).2.1, (hdn (q.resolve_right (by decide))).2.2⟩)⟩
                            · refine wpOp_plain (i := 1) rfl rfl (fun K' hK => ?_)
                              unfold Oper.wp
                              go_simp
                              refine hK _ _ ⟨⟨_, _, _, _, _, rfl, (fun h => g0 (h.resolve_right (by decide))), (fun _ => rfl), (fun h => g2 (h.resolve_right (by decide))), (fun h => g3 (h.resolve_right (by decide))), trivial⟩, (fun q => hfr0 (fun a => q (.inl a))), (fun q => ⟨.inl (hdn (q.resolve_right (by decide))).1, .inl (hdn (q.resolve_right (by decide))).2.1, (hdn (q.resolve_right (by decide))).2.2⟩)⟩
                            · have r1 := g1 (hd _ rfl ⟨1, .data⟩ (by simp) rfl)
                              subst r1
                              have hfr := hfr0 (fun q => hnp (hdn q).1)
                              have c0 := (hfr.blk HZ.out (by simp)).at 0 (v := .int .u32 c1) rfl
                              refine wpOp_plain (i := 2) rfl rfl (fun K' hK => ?_)
                              unfold Oper.wp
                              go_simp
                              refine hK _ _ ⟨⟨_, _, _, _, _, rfl, (fun h => g0 (h.resolve_right (by decide))), (fun h => g1 (h.resolve_right (by decide))), (fun _ => rfl), (fun h => g3 (h.resolve_right (by decide))), trivial⟩, (fun q => hfr0 (fun a => q (.inl a))), (fun q => ⟨.inl (hdn (q.resolve_right (by decide))).1, .inl (hdn (q.resolve_right (by decide))).2.1, (hdn (q.resolve_right (by decide))).2.2⟩)⟩
                            · have hfr := hfr0 (fun q => hnp (hdn q).2.1)
                              refine wpOp_plain (i := 3) rfl rfl (fun K' hK => ?_)
                              unfold Oper.wp
                              go_simp
                              (with_reducible refine (of_any _ 3).mono ?_)
                              rintro e w9 ⟨rfl, f⟩
                              refine hK _ _ ⟨⟨_, _, _, _, _, rfl, (fun h => g0 (h.resolve_right (by decide))), (fun h => g1 (h.resolve_right (by decide))), (fun h => g2 (h.resolve_right (by decide))), (fun _ => rfl), trivial⟩, (fun _ => hfr.trans f (by simp)), (fun q => absurd (hdn (q.resolve_right (by decide))).2.1 hnp)⟩
                            · have r0 := g0 (hd _ rfl ⟨0, .data⟩ (by simp) rfl)
                              subst r0
                              have r2 := g2 (hd _ rfl ⟨2, .data⟩ (by simp) rfl)
                              subst r2
                              have r3 := g3 (hd _ rfl ⟨3, .data⟩ (by simp) rfl)
                              subst r3
                              have hfr := hfr0 hnp
                              refine wpOp_plain (i := 4) rfl rfl (fun K' hK => ?_)
                              unfold Oper.wp
                              go_simp
                              (with_reducible refine (inn_put (HE.out.2.2.grow hfr) HE.out.1 HE.out.2.1 3 (sv 3)).mono ?_)
                              rintro e w9 ⟨⟨aa, rfl⟩, hq, _⟩
                              refine hK _ _ ⟨⟨_, _, _, _, _, rfl, (fun h => g0 (h.resolve_right (by decide))), (fun h => g1 (h.resolve_right (by decide))), (fun h => g2 (h.resolve_right (by decide))), (fun h => g3 (h.resolve_right (by decide))), trivial⟩, (fun q => absurd (.inr rfl) q), (fun _ => ⟨.inl (hd _ rfl ⟨2, .data⟩ (by simp) rfl), .inl (hd _ rfl ⟨3, .data⟩ (by simp) rfl), hq⟩)⟩
                          · intro p ac W di hI
                            obtain ⟨⟨x0, x1, x2, x3, x4, rfl, -, -, -, -, _⟩, _, hdn⟩ := hI
                            have hq := (hdn (di 4 (by decide))).2.2
                            simp only [Exit.then]
                            go_wp2_with fail
                            exact ⟨⟨jj + 1, by go_num, by omega, hq⟩, by simp [intOf]; omega⟩
                      · obtain rfl : jj = l := by omega
                        have g1 : ¬ (jj : Int) < (jj : Int) := by omega
                        obtain ⟨Ps4, gone4, z1, z2, z3⟩ := HI.out.ex
                        have HNS := Lib.hid (next_step (k := k) z1 (by rw [nums_succ HCK.out, ← List.append_assoc]; rw [HCL.out, List.take_length] at z2; exact z2) HG.out.2.2.1 (by rw [total_succ HCK.out, ← HCL.out]; exact z3) HG.out.2.2.2.2.1)
                        clear z1 z2 z3
                        go_wp2_with fail
                        (with_reducible refine (HNS.out).mono ?_)
                        rintro e w5 ⟨p, nn, ss, ok, rfl, hR⟩
                        have HR2 := Lib.hid hR
                        clear hR
                        go_wp2_with fail
                        exact ⟨⟨k + 1, p, ok, rfl, rfl, by go_num, HR2.out⟩, by simp [intOf]; omega⟩
                  · have hkm2 : decide ((k : Int) < (j : Int)) = false := decide_eq_false (by omega)
                    have hns : nums (Cs.take (k + 1)) = nums (Cs.take k) ∧ total (Cs.take (k + 1)) = total (Cs.take k) := by
                      rw [List.take_of_length_le (by have := HN.out.2.1; omega), List.take_of_length_le (i := k) (by have := HN.out.2.1; omega)]
                      exact ⟨rfl, rfl⟩
                    obtain ⟨Ps2, gone2, x1, x2, x3⟩ := (HIN.out []).ex
                    have HNS := Lib.hid (next_step (k := k) x1 (by rw [hns.1]; simpa using x2) HG.out.2.2.1 (by rw [hns.2]; simpa using x3) HG.out.2.2.2.2.1)
                    clear hns x1 x2 x3
                    go_wp2_with fail
                    (with_reducible refine (HNS.out).mono ?_)
                    rintro e w5 ⟨p, nn, ss, ok, rfl, hR⟩
                    have HR2 := Lib.hid hR
                    clear hR
                    go_wp2_with fail
                    exact ⟨⟨k + 1, p, ok, rfl, rfl, by go_num, HR2.out⟩, by simp [intOf]; omega⟩

              | false =>
                have hno := (hcase.resolve_left (fun q => by cases q.1)).2
                have hrT := Rd.of_own hwk.tl
                have hrG := Rd.of_own hwk.tg
                have htl := total_take Cs k
                have hkl : told.length ≤ 4611686018427387904 := by
                  have h1 := rise_le told _ hgo.rise hgo.from'
                  rw [List.length_append, nums_len] at h1
                  have := HN.out.1; have := HN.out.2.2; omega
                have hgl2 : gone.length ≤ 4611686018427387904 := by have := HN.out.2.2; omega
                have HQ := Lib.hid (And.intro hgo (And.intro hno (And.intro hwk.fr (And.intro hrT (And.intro hrG (And.intro hkl hgl2))))))
                clear hgo hno hwk hrT hrG htl hkl hgl2 hcase hid hgl hT0 hrd hk
                go_wp2_with fail
                go_loopw [18] (fun xw wr => ∃ x : Nat, xw = .int .i64 x ∧ x ≤ i ∧ wk = wr) (fun xw _ => i - (intOf xw).toNat)
                case atStart => exact ⟨0, rfl, Nat.zero_le _, rfl⟩
                case round =>
                  obtain ⟨x, rfl, hx, rfl⟩ := hrel
                  by_cases hxi : x < i
                  · have hlt : x < ids.length := by rw [← HN.out.1]; exact hxi
                    obtain ⟨g, o, hpi, hc⟩ := HI0.out.resolve_left (by omega)
                    subst hpi
                    obtain ⟨a, ha⟩ : ∃ a, a = ids[x] := ⟨_, rfl⟩
                    have hai : ids[x]? = some a := by rw [ha]; exact List.getElem?_eq_getElem hlt
                    have c0w := hc x _ (u32s_get hai)
                    have c0 := (HQ.out.2.2.1.cell (World.block_lt_of_cell? w _ c0w) (by simp)).trans c0w
                    have hin : a ∈ ids := List.mem_of_getElem? hai
                    have g0 : (0 : Int) ≤ (x : Int) := by omega
                    have g1 : (x : Int) < (i : Int) := by omega
                    have hT1 := in_any wk _ told a HQ.out.2.2.2.1 HQ.out.2.2.2.2.2.1
                    have hG1 := in_any wk _ gone a HQ.out.2.2.2.2.1 HQ.out.2.2.2.2.2.2
                    clear hc c0w hai ha hlt
                    by_cases hat : a ∈ told
                    · rw [decide_eq_true hat] at hT1
                      have HT1 := Lib.hid hT1
                      clear hT1 hG1
                      go_wp2_with fail
                      (with_reducible refine (HT1.out).mono ?_)
                      rintro e w5 ⟨rfl, rfl⟩
                      go_wp2_with fail
                      exact ⟨⟨x + 1, by go_num, by omega, by first | rfl | trivial⟩, by simp [intOf]; omega⟩
                    · have hag : a ∈ gone := by
                        by_cases q : a ∈ gone
                        · exact q
                        · exact absurd (HQ.out.1.done HQ.out.2.1 hin q) hat
                      rw [decide_eq_false hat] at hT1
                      rw [decide_eq_true hag] at hG1
                      have HT1 := Lib.hid hT1
                      have HG1 := Lib.hid hG1
                      clear hT1 hG1
                      go_wp2_with fail
                      (with_reducible refine (HT1.out).mono ?_)
                      rintro e w5 ⟨rfl, rfl⟩
                      go_wp2_with fail
                      (with_reducible refine (HG1.out).mono ?_)
                      rintro e w5 ⟨rfl, rfl⟩
                      go_wp2_with fail
                      exact ⟨⟨x + 1, by go_num, by omega, by first | rfl | trivial⟩, by simp [intOf]; omega⟩
                  · obtain rfl : x = i := by omega
                    have HLV := Lib.hid (lives_any wk (HT.out.fr HQ.out.2.2.1 (by simp)))
                    go_wp2_with fail
                    (with_reducible refine (HLV.out).mono ?_)
                    rintro e w5 ⟨rfl, f5⟩
                    have H5 := Lib.hid (HQ.out.2.2.1.trans f5 (by simp))
                    clear f5
                    go_wp2_with fail
                    go_ret
                    exact ⟨rfl, H5.out⟩
end Go.Proofs.YtgoolkgjcmdilaaDoor
