/-
  first over Cover.
-/
import Derived.Test.YthagbhiblncpkaaCellT
namespace Go.Proofs.Ythagbhiblncpkaa
open Go.RowKit Go.Shelf
set_option linter.unusedVariables false
attribute [local go_sem] Oper.semAt_some

set_option maxRecDepth 100000 in
set_option maxHeartbeats 4000000 in
theorem first_box (w : World) (gf : Nat) (lb : Array Value) (Rs : List Nat) (ts : List TypeId) (L : List (Int × Int)) (N : Nat) (Pre En : World → Prop) (h27 : 27 ∉ ts) (h33 : 33 ∉ ts) (hRs : ∀ r, r ∈ Rs → r < w.heap.size)
    (eg : ∀ args w, (callFunc gf args).run Try.prog w = .ok (.enter gf args) w)
    (hT : Tells Fence.wide 8 Try.prog gf lb cellArg Rs (KpC ts (w.heap.size + 3) w.heap.size) (fun xs => xs = L) (fun pre => pre <+: L) N Pre En)
    (hPre : ∀ W, Fr [] w W → W.heap.size = w.heap.size + 3 → Blk W w.heap.size #[.slice none 0 0] 27 → Pre W) (hEn : ∀ (W : World) (l : Nat) (o o' : Obj), w.heap.size ≤ l → W.heap[l]? = some o → o.isCells = false → En W → En (W.putObj l o')) :
    Calls Try.prog 10 #[.func (.func gf) #[] lb] w (FirstPost w Rs En (L.take 401)) := by
  have hq := eql24
  refine (callsIn_wide (n := 9)).1 ?_
  refine callsIn_of_wp_marks Try.func10 rfl trivial ?_ rfl
  simp only [Try.ntmps10, List.size_toArray, List.length_cons, List.length_nil, Nat.reduceAdd, Nat.reduceSub, Array.replicate_succ, Array.replicate_zero, List.push_toArray, List.append_toArray, List.nil_append, List.cons_append]
  have HE := Lib.hid eg
  clear eg
  gi_wp2
  generalize hw3 : World.alloc _ _ = w3
  have hz : w3.heap.size = w.heap.size + 1 := by rw [← hw3]; simp
  have k1 : Blk w3 w.heap.size #[.slice none 0 0] 27 := by rw [← hw3]; exact Blk.new w _ _
  have kf : Fr [] w w3 := by rw [← hw3]; exact (Fr.refl [] w).alloc _
  clear hw3
  refine wpIn_range (w := w3) (ps := #[11]) rfl (by decide) (gf := gf) (lb := lb) rfl trivial HE.out
    hT KpC.trans (fun W l o o' hl h1 h2 => KpC.put o' h1 h2 (by omega)) ?hPre (fun W l o o' hl h1 h2 h3 => hEn W l o o' (by omega) h1 h2 h3) (fun r hr => by have := hRs r hr; omega) (fun _ => rfl)
    (FI w Rs) (FX w Rs) (fi_ab w Rs hRs _ (by omega)) (fun c => fx_ab w Rs hRs _ (by omega) c)
    ⟨⟨_, k1, World.ownsRow_nil _ _ _ _, by simp [Value.ownBlock]⟩, kf.mono (by simp), by simp⟩
    (fun x a' W => ∃ b, Blk W b #[.int .i32 x.1, .int .i32 x.2] 33 ∧ a' = { tmps := #[.func (.func gf) #[] lb, undef, .slice none 0 0, .pointer (some ⟨w.heap.size, 0, none⟩), .pointer (some ⟨b, 0, none⟩), .func (.func gf) #[] lb, .bool false, undef, undef, undef, .func (.func gf) #[] lb, .agg #[.int .i32 x.1, .int .i32 x.2], undef, undef, undef, undef, undef, undef, undef, undef], defers := [] }) ?hAx ?hassign ?hbody ?hdone ?hstop
  case hPre => exact fun W hf hs => hPre W (kf.trans hf (by simp)) (by omega) (hf.blk k1 (by simp))
  case hAx =>
    intro x a' s A A' row h hg hr
    obtain ⟨b, h1, h2⟩ := h
    exact ⟨b, blk_ab (Rs := []) hg (fun r hr' => .inr (hr r hr')) h1 (by simp), h2⟩
  case hassign =>
    intro l pre x W K hI hK
    have hf : Fr [] W (W.alloc (.cells #[.int .i32 x.1, .int .i32 x.2] 33)) := (Fr.refl _ _).alloc _
    have hk := KpC.of_fr (ts := ts) (D := w.heap.size + 3) (B := w.heap.size) hf
    have hkf := kf_of_fr w3.heap.size hf (by simp)
    have hI' := (fi_ab w Rs hRs w.heap.size (Nat.le_refl _)).fr hI hf
    have HK := Lib.hid hK
    clear hK
    simp only [cellArg, pt, List.zip_toArray, Array.foldl]
    gi_wp2
    exact HK.out _ _ hkf hk hI' ⟨_, Blk.new W _ _, rfl⟩
  case hbody =>
    rintro l pre x a' W hl - hI ⟨b, hb, rfl⟩ hN
    obtain ⟨v, ha, hown, hge⟩ := hI.o
    have hlen := hI.len
    have la := ha.lt
    have ca := ha.at 0 (v := v) rfl
    have cb0 := hb.at 0 (v := .int .i32 x.1) rfl
    have cb1 := hb.at 1 (v := .int .i32 x.2) rfl
    have hna := own_notin hown ha (by decide)
    have hcore : ∀ g1 cp1 w1, Appended (W.alloc (.cells #[.int .i32 x.1, .int .i32 x.2] 33)) 33 2 v (pre.length + 1) (flat pre ++ [.int .i32 x.1, .int .i32 x.2]) (.slice (some ⟨g1, 0, none⟩) (pre.length + 1) cp1) w1 →
        (w1.cell? ⟨w.heap.size, 0, none⟩ = some v ∧ w1.frozen? ⟨w.heap.size, 0, none⟩ = false ∧
          (w1.setCell ⟨w.heap.size, 0, none⟩ (.slice (some ⟨g1, 0, none⟩) (pre.length + 1) cp1)).cell? ⟨w.heap.size, 0, none⟩ = some (.slice (some ⟨g1, 0, none⟩) (pre.length + 1) cp1)) ∧
        KeepsFrom w3.heap.size W (w1.setCell ⟨w.heap.size, 0, none⟩ (.slice (some ⟨g1, 0, none⟩) (pre.length + 1) cp1)) ∧ KpC ts (w.heap.size + 3) w.heap.size W (w1.setCell ⟨w.heap.size, 0, none⟩ (.slice (some ⟨g1, 0, none⟩) (pre.length + 1) cp1)) ∧
        (pre.length = 400 → FX w Rs (.exit 0) (pre ++ [x]) (w1.setCell ⟨w.heap.size, 0, none⟩ (.slice (some ⟨g1, 0, none⟩) (pre.length + 1) cp1))) ∧
        (pre.length < 400 → FI w Rs (pre ++ [x]) (w1.setCell ⟨w.heap.size, 0, none⟩ (.slice (some ⟨g1, 0, none⟩) (pre.length + 1) cp1))) := by
      intro g1 cp1 w1 h
      have F := h.fr
      have ka := F.blk (ha.alloc _) hna
      have hne : w.heap.size ∉ (Value.slice (some ⟨g1, 0, none⟩) (pre.length + 1) cp1).ownBlock.toList := own_notin h.own ka (by decide)
      have F2 : Fr (w.heap.size :: v.ownBlock.toList) W (w1.setCell ⟨w.heap.size, 0, none⟩ (.slice (some ⟨g1, 0, none⟩) (pre.length + 1) cp1)) :=
        ((((Fr.refl _ W).alloc _).trans F (fun x hx => .inl (List.mem_cons_of_mem _ hx)))).setCell _ _ (.inl (by simp))
      have hbk : ∀ k, k ∈ w.heap.size :: v.ownBlock.toList → ∃ c e, Blk W k c e ∧ e ∉ ts := by
        intro k hk
        rcases List.mem_cons.1 hk with rfl | hk
        · exact ⟨_, _, ha, h27⟩
        · obtain ⟨c, hc⟩ := own_blk hown k hk
          exact ⟨c, 33, hc, h33⟩
      have hfr : Fr Rs w (w1.setCell ⟨w.heap.size, 0, none⟩ (.slice (some ⟨g1, 0, none⟩) (pre.length + 1) cp1)) := by
        refine hI.fr.trans F2 ?_
        intro k hk
        rcases List.mem_cons.1 hk with rfl | hk
        · exact .inr (Nat.le_refl _)
        · exact .inr (hge k (by simpa using hk))
      have hgot : Got (w1.setCell ⟨w.heap.size, 0, none⟩ (.slice (some ⟨g1, 0, none⟩) (pre.length + 1) cp1)) w.heap.size (pre ++ [x]) := by
        refine ⟨_, ka.set 0 _, ?_, ?_⟩
        · have := own_fr h.own ((Fr.refl [w.heap.size] w1).setCell ⟨w.heap.size, 0, none⟩ (.slice (some ⟨g1, 0, none⟩) (pre.length + 1) cp1) (.inl (by simp))) (fun g hg => by
            intro hm; simp at hm; subst hm; exact hne (by simp [hg]))
          rw [flat_append, List.length_append]
          exact this
        · intro g hg
          rcases h.place with h1 | h1
          · exact hge g (by rw [← h1]; exact hg)
          · rw [h1] at hg; cases hg; simp; omega
      have hl2 : (pre ++ [x]).length = pre.length + 1 := by simp
      have hkb : KpB w.heap.size W (w1.setCell ⟨w.heap.size, 0, none⟩ (.slice (some ⟨g1, 0, none⟩) (pre.length + 1) cp1)) := by
        refine ⟨F2.size, fun v0 hv0 hv1 => ?_⟩
        obtain rfl : v0 = v := by simpa using (hv0.inj ha).1
        refine ⟨fun k c hb hk => F2.blk hb ?_, _, ka.set 0 _, ?_⟩
        · intro hm
          rcases List.mem_cons.1 hm with rfl | hm
          · exact absurd (hb.inj ha).2 (by decide)
          · exact hk (by simpa using hm)
        · intro g hg
          have hlt2 := F2.size
          refine ⟨?_, ?_⟩
          · obtain ⟨c, hc⟩ := own_blk h.own g (by simpa using hg)
            have := hc.lt
            have h9 := ((Fr.refl [w.heap.size] w1).setCell ⟨w.heap.size, 0, none⟩ (.slice (some ⟨g1, 0, none⟩) (pre.length + 1) cp1) (.inl (by simp))).size
            omega
          · rcases h.place with h1 | h1
            · exact .inl (by rw [← h1]; exact hg)
            · refine .inr ?_
              rw [h1] at hg; cases hg; simp
      exact ⟨⟨ka.at 0 rfl, ka.free 0, (ka.set 0 _).at 0 (by simp)⟩, kf_of_fr _ F2 (fun k hk => by obtain ⟨c, e, h1, _⟩ := hbk k hk; exact ⟨c, e, h1⟩), ⟨Kps.of_fr _ F2 hbk, hkb⟩, fun hl => ⟨rfl, hgot, hfr, by omega⟩, fun hl => ⟨hgot, hfr, by omega⟩⟩
    have HC := Lib.hid hcore
    have HN := Lib.hid hN
    clear hcore hna hge hN h27 h33
    obtain ⟨x1, x2⟩ := x
    dsimp only at *
    rcases Nat.lt_or_ge pre.length 400 with h4 | h4
    · gi_wp2_with (gi_at_builtin; go_must (refine wpListIn_app _ rfl _ _ 27 rfl 33 (.agg #[.int .i32 0, .int .i32 0]) 2 8 Try.underlying27 info33 rfl (by decide) v pre.length (flat pre) rfl (hown.alloc _) ⟨W.heap.size, 0, none⟩ 1 1 [.int .i32 x1, .int .i32 x2] rfl rfl (new_list _ _ _ _ rfl) (by simp [Value.oneCell']) (by unfold maxLen; omega) (by omega) ?_); intro v1 w1 happ; obtain ⟨g1, cp1, rfl⟩ := own_succ happ.own; obtain ⟨⟨e1, e2, e3⟩, e5, e6, e7, e8⟩ := HC.out _ _ _ happ; have E5 := Lib.hid e5; have E6 := Lib.hid e6; have E7 := Lib.hid e7; have E8 := Lib.hid e8; clear e5 e6 e7 e8)
      exact ⟨E5.out, E6.out, E8.out h4⟩
    · gi_wp2_with (gi_at_builtin; go_must (refine wpListIn_app _ rfl _ _ 27 rfl 33 (.agg #[.int .i32 0, .int .i32 0]) 2 8 Try.underlying27 info33 rfl (by decide) v pre.length (flat pre) rfl (hown.alloc _) ⟨W.heap.size, 0, none⟩ 1 1 [.int .i32 x1, .int .i32 x2] rfl rfl (new_list _ _ _ _ rfl) (by simp [Value.oneCell']) (by unfold maxLen; omega) (by omega) ?_); intro v1 w1 happ; obtain ⟨g1, cp1, rfl⟩ := own_succ happ.own; obtain ⟨⟨e1, e2, e3⟩, e5, e6, e7, e8⟩ := HC.out _ _ _ happ; have E5 := Lib.hid e5; have E6 := Lib.hid e6; have E7 := Lib.hid e7; have E8 := Lib.hid e8; clear e5 e6 e7 e8)
      exact ⟨E5.out, E6.out, E7.out (by omega)⟩
  case hdone =>
    rintro D xs W hD rfl hI hen hK
    obtain ⟨v, ha, hown, hge⟩ := hI.o
    have hlt := ha.lt
    have ca := ha.at 0 (v := v) rfl
    have HH := Lib.hid (And.intro hK (And.intro hI (And.intro hown (And.intro hge hen))))
    clear hK hI hown hge hen
    gi_wp2
    obtain ⟨hK, hI, hown, hge, hen⟩ := HH.out
    refine ⟨by simp, .inl ⟨_, _, rfl, run_takeDeferred hK, ?_⟩⟩
    have hu : xs.take 401 = xs := List.take_of_length_le (by have := hI.len; omega)
    rw [hu]
    exact ⟨_, results_tmp rfl _ _ _, v, rfl, own_putObj hown hK rfl _, hge, hEn _ _ _ _ (by omega) hK rfl hen, hI.fr.putObj _ _ (by omega)⟩
  case hstop =>
    rintro D c pre W hD hpre hX hen hK
    obtain ⟨rfl, ⟨v, ha, hown, hge⟩, hfr, hlen⟩ := hX
    have hlt := ha.lt
    have ca := ha.at 0 (v := v) rfl
    have HH := Lib.hid (And.intro hK (And.intro hfr (And.intro hown (And.intro hge (And.intro hlen (And.intro hpre hen))))))
    clear hK hfr hown hge hlen hpre hen
    gi_wp2
    obtain ⟨hK, hfr, hown, hge, hlen, hpre, hen⟩ := HH.out
    refine ⟨by simp, .inl ⟨_, _, rfl, run_takeDeferred hK, ?_⟩⟩
    have hu : L.take 401 = pre := by rw [← hlen]; exact (List.prefix_iff_eq_take.1 hpre).symm
    rw [hu]
    exact ⟨_, results_tmp rfl _ _ _, v, rfl, own_putObj hown hK rfl _, hge, hEn _ _ _ _ (by omega) hK rfl hen, hfr.putObj _ _ (by omega)⟩


theorem first_cover (w : World) (bs bb : Nat) (a b c d s : Int) (hh : BHeld bs bb a b c d s w) :
    Calls Try.prog 10 #[.func (.func 41) #[] #[.pointer (some ⟨bs, 0, none⟩), .pointer (some ⟨bb, 0, none⟩)]] w
      (FirstPost w [] (BHeld bs bb a b c d s) ((covSeq a b c d s).take 401)) := by
  refine first_box w 41 _ [] tsC _ _ _ _ (by simp) (by simp) (by simp) (enters_of Try.func41 (by kernel_rfl) rfl) (cover_tells 8 bs bb w.heap.size (w.heap.size + 3) a b c d s (by decide)) ?_ ?_
  · exact fun W hf hs hb => ⟨hh.fr hf, by omega, _, hb, by simp [Value.ownBlock]⟩
  · exact fun W l o o' _ hl ho h => ⟨h.s.putObj hl ho o', h.b.putObj hl ho o'⟩

end Go.Proofs.Ythagbhiblncpkaa
