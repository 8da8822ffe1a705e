/-
  TurnMeans: the walk.
-/
import Derived.Test.YtkbcdfniocmamaaMeaB
import Derived.Test.YtkbcdfniocmamaaMapN
import Derived.Deep.CutBlock
import Derived.Deep.DeepCutAuto
namespace Go.Proofs.Ytkbcdfniocmamaa
open Go.RowKit Flo
set_option linter.unusedVariables false

/-- A slice of words. -/
def RdB (w : World) (v : Value) (n : Nat) (b : Nat → Nat) : Prop :=
  ∃ p cap, v = .slice p n cap ∧ (n = 0 ∨ ∃ g o, p = some ⟨g, o, none⟩ ∧ ∀ k, k < n → w.cell? ⟨g, o + k, none⟩ = some (.int .u64 (b k)))
theorem step_app {P : Program} {w : World} {ops : Array Oper} {o : Oper} {a : Act} {K : Act → World → Prop} {Q : Exit → Act → World → Prop} {E : Prop} (hgd : o.guard = none) (s x : Operand) (t : TypeId)
    (hop : o.op = .call { callee := .builtin .append, args := #[s, x], argTypes := #[t, t] })
    (e : TypeId) (z : Value) (size bytes : Nat) (h1 : P.underlying t = some (.slice e)) (h2 : (P.info? e).map (fun i => (i.zero, i.size, i.bytes)) = some (some z, size, bytes)) (h6 : z.cells.size = size) (h7 : 0 < size)
    (v : Value) (k : Nat) (xs : List Value) (hs : a.eval s = v) (hown : w.ownsRow 0 e size v k xs) (ad : Addr) (m c : Nat) (news : List Value) (hx : a.eval x = .slice (some ad) m c) (hn : news.length = m * size)
    (hc : ∀ j u, news[j]? = some u → w.cell? (ad.add j) = some u) (h1c : ∀ u ∈ news, u.oneCell' = true) (b1 : k + m ≤ maxLen) (b2 : (k + m) * bytes ≤ 140737488355328)
    (hK : ∀ v' w', Appended w e size v (k + m) (xs ++ news) v' w' → K (a.put o.dst v') w') :
    if Region.wanted o (yielded ops a.tmps) = true then Oper.wp P o a w K Q else E := by
  have hw : Region.wanted o (yielded ops a.tmps) = true := by simp [Region.wanted, hgd]
  rw [if_pos hw]
  obtain ⟨i, hi, hz, hsz, hby⟩ := info_parts h2
  obtain ⟨v', w', hrun, r1, r2, -⟩ := run_append_own (P := P) w 0 t o.type e i z size bytes h1 hi hz hsz hby h6 h7 v k xs hown ad m c news hn hc h1c b1 b2 (Nat.zero_le _)
  have r4 := run_app_where w t o.type e i z size bytes h1 hi hz hsz hby v k xs hown ad m c news hn hc h1c b1 b2 v' w' hrun
  unfold Oper.wp execOp
  simp only [hop, resolve, invoke, builtin, Sem.run_bind, Sem.run_pure, Result.andThen_ok, List.map_toArray, List.map_cons, List.map_nil, hs, hx, hrun]
  exact hK v' w' ⟨r1, r2, r4⟩
theorem own_blk {w : World} {e : TypeId} {size k : Nat} {v : Value} {xs : List Value} (h : w.ownsRow 0 e size v k xs) : ∀ g, g ∈ v.ownBlock.toList → ∃ c, Blk w g c e := by
  intro g hg
  rcases h.2 with ⟨rfl, _⟩ | ⟨g', cap, cur, rfl, _, hgb, _⟩
  · simp [Value.ownBlock] at hg
  · simp [Value.ownBlock] at hg; subst hg; exact ⟨_, hgb⟩
/-- What an append leaves of a row of another type, and where its own row lies. -/
theorem app_keep {w wb w3 : World} {e e' : TypeId} {size size' k k0 k' : Nat} {v v' v1 : Value} {xs xs0 xs' : List Value} (happ : Appended wb e size v k xs v1 w3) (hv : wb.ownsRow 0 e size v k0 xs0) (ho : wb.ownsRow 0 e' size' v' k' xs') (hn : e' ≠ e)
    (hg : ∀ g, v.ownBlock = some g → w.heap.size ≤ g) (hf : Fr [] w wb) : w3.ownsRow 0 e' size' v' k' xs' ∧ (∀ g, v1.ownBlock = some g → w.heap.size ≤ g) ∧ Fr [] w w3 := by
  refine ⟨own_fr ho happ.fr (fun g hg' hm => ?_), fun g hg' => ?_, hf.trans happ.fr (fun x hx => .inr (hg x (by simpa using hx)))⟩
  · obtain ⟨c, hc⟩ := own_blk hv g hm
    obtain ⟨c', hc'⟩ := own_blk ho g (by simpa using hg')
    exact hn (hc'.inj hc).2
  · rcases happ.place with h | h
    · exact hg g (h ▸ hg')
    · rw [h] at hg'
      have : wb.heap.size = g := by simpa using hg'
      have := hf.size
      omega
namespace means
/-- The headings by their words, two by two. -/
def hd (b : Nat → Nat) (k : Nat) : Nat × Nat := (b (2 * k), b (2 * k + 1))
def cpx (b : Nat → Nat) (j : Nat) : List Value := (List.range j).map fun k => .complex .f64 (hd b k).1 (hd b k).2
def nms (b : Nat → Nat) (j : Nat) : List Value := (List.range j).flatMap fun k => [.float .f64 (hd b k).1, .float .f64 (hd b k).2]
theorem cpx_succ (b : Nat → Nat) (j : Nat) : cpx b (j + 1) = cpx b j ++ [.complex .f64 (hd b j).1 (hd b j).2] := by
  unfold cpx; rw [List.range_succ]; simp
theorem nms_succ (b : Nat → Nat) (j : Nat) : nms b (j + 1) = nms b j ++ [.float .f64 (hd b j).1, .float .f64 (hd b j).2] := by
  unfold nms; rw [List.range_succ]; simp
theorem new_two (w : World) (u v : Value) (e : TypeId) (k : Nat) (hk : k = w.heap.size) : ∀ j x, [u, v][j]? = some x → (w.alloc (.cells #[u, v] e)).cell? ((⟨k, 0, none⟩ : Addr).add j) = some x := by
  subst hk
  intro j x hj
  rw [Addr.add_lit]
  have hb := Blk.new w #[u, v] e
  match j, hj with
  | 0, hj => simp at hj; subst hj; exact hb.at 0 rfl
  | 1, hj => simp at hj; subst hj; exact hb.at 1 rfl
  | j + 2, hj => simp at hj
theorem info26 : (Try.prog.info? 26).map (fun i => (i.zero, i.size, i.bytes)) = some (some (.complex .f64 0 0), 1, 16) := by kernel_rfl
theorem info33b : (Try.prog.info? 33).map (fun i => (i.zero, i.size, i.bytes)) = some (some (.agg #[.float .f64 0, .float .f64 0]), 2, 16) := by kernel_rfl
theorem cpx_at (b : Nat → Nat) {j k : Nat} (h : k < j) : (cpx b j)[k]? = some (.complex .f64 (hd b k).1 (hd b k).2) := by
  unfold cpx
  simp [h]
theorem nms_len (b : Nat → Nat) : ∀ j : Nat, (nms b j).length = j * 2
  | 0 => rfl
  | j + 1 => by rw [nms_succ, List.length_append, nms_len b j]; simp; omega
theorem nms_at (b : Nat → Nat) : ∀ {j k : Nat}, k < j → (nms b j)[k * 2]? = some (.float .f64 (hd b k).1) ∧ (nms b j)[k * 2 + 1]? = some (.float .f64 (hd b k).2)
  | 0, k, h => by omega
  | j + 1, k, h => by
    have hl := nms_len b j
    rw [nms_succ]
    by_cases hk : k < j
    · have := nms_at b hk
      rw [List.getElem?_append_left (by omega), List.getElem?_append_left (by omega)]
      exact this
    · obtain rfl : k = j := by omega
      rw [List.getElem?_append_right (by omega), List.getElem?_append_right (by omega), hl, show k * 2 - k * 2 = 0 by omega, show k * 2 + 1 - k * 2 = 1 by omega]
      exact ⟨rfl, rfl⟩
theorem rdC_of_own {w : World} {v : Value} {h : Nat} {b : Nat → Nat} (ho : w.ownsRow 0 26 1 v h (cpx b h)) : RdC w v h (hd b) := by
  rcases ho.2 with ⟨rfl, rfl⟩ | ⟨g, cap, cur, rfl, _⟩
  · exact ⟨_, _, rfl, .inl rfl⟩
  · refine ⟨_, _, rfl, .inr ⟨g, 0, rfl, fun k hk => ?_⟩⟩
    have := ho.cells (g := g) rfl k _ (cpx_at b hk)
    rw [Addr.add_lit] at this
    exact this
theorem rdN_of_own {w : World} {v : Value} {h : Nat} {b : Nat → Nat} (ho : w.ownsRow 0 33 2 v h (nms b h)) : RdN w v h (hd b) := by
  rcases ho.2 with ⟨rfl, rfl⟩ | ⟨g, cap, cur, rfl, _⟩
  · exact ⟨_, _, rfl, .inl rfl⟩
  · refine ⟨_, _, rfl, .inr ⟨g, 0, rfl, fun k hk => ?_⟩⟩
    have h1 := ho.cells (g := g) rfl (k * 2) _ (nms_at b hk).1
    have h2 := ho.cells (g := g) rfl (k * 2 + 1) _ (nms_at b hk).2
    rw [Addr.add_lit] at h1 h2
    exact ⟨h1, h2⟩
theorem _root_.Go.Proofs.Ytkbcdfniocmamaa.RdN.fr0 {w w' : World} {v : Value} {n : Nat} {c : Nat → Nat × Nat} (h : RdN w v n c) (f : Fr [] w w') : RdN w' v n c := by
  obtain ⟨p, cap, rfl, h⟩ := h
  refine ⟨p, cap, rfl, h.imp id ?_⟩
  rintro ⟨g, o, rfl, h3⟩
  exact ⟨g, o, rfl, fun k hk => ⟨(f.cell (World.block_lt_of_cell? w _ (h3 k hk).1) (by simp)).trans (h3 k hk).1, (f.cell (World.block_lt_of_cell? w _ (h3 k hk).2) (by simp)).trans (h3 k hk).2⟩⟩
theorem own_cur {w : World} {e : TypeId} {size n : Nat} {v : Value} {xs : List Value} (h : w.ownsRow 0 e size v n xs) (h0 : n ≠ 0) : ∃ (g cap : Nat) (cur : Array Value), v = .slice (some ⟨g, 0, none⟩) n cap ∧ Blk w g cur e ∧ ∀ (j : Nat) (u : Value), xs[j]? = some u → cur[j]? = some u := by
  rcases h.2 with ⟨_, h1⟩ | ⟨g, cap, cur, rfl, _, hg, _⟩
  · exact absurd h1 h0
  · refine ⟨g, cap, cur, rfl, hg, fun j u hj => ?_⟩
    have := h.cells (g := g) rfl j u hj
    rw [Addr.add_lit] at this
    unfold World.cell? at this
    rw [hg] at this
    simpa using this
set_option maxRecDepth 100000 in
set_option maxHeartbeats 8000000 in
theorem walk (w : World) (v : Value) (n : Nat) (b : Nat → Nat) (hn : n ≤ 17592186043904) (hv : RdB w v n b) : Calls Try.prog 6 #[v] w fun e w' => e = .returned (.bool true) ∧ Fr [] w w' := by
  obtain ⟨p, cap, rfl, h1⟩ := hv
  have H1 := Lib.hid h1
  clear h1
  go_enter Try.func6, Try.ntmps6
  go_upto_block 0 with fail
  go_cut [3, 4] (fun s3 s4 wx => wx.ownsRow 0 26 1 s3 (n / 2) (cpx b (n / 2)) ∧ wx.ownsRow 0 33 2 s4 (n / 2) (nms b (n / 2)) ∧ (∀ g, s3.ownBlock = some g → w.heap.size ≤ g) ∧ Fr [] w wx)
  case first =>
    go_wp2_with fail
    go_loopw [3, 4, 5] (fun s3 s4 i wr => ∃ k : Nat, i = .int .i64 k ∧ k % 2 = 0 ∧ k ≤ n ∧ wr.ownsRow 0 26 1 s3 (k / 2) (cpx b (k / 2)) ∧ wr.ownsRow 0 33 2 s4 (k / 2) (nms b (k / 2)) ∧ (∀ g, s3.ownBlock = some g → w.heap.size ≤ g) ∧ (∀ g, s4.ownBlock = some g → w.heap.size ≤ g) ∧ Fr [] w wr) (fun _ _ i _ => n - (intOf i).toNat)
    case atStart =>
      exact ⟨0, rfl, rfl, Nat.zero_le _, ⟨rfl, .inl ⟨rfl, rfl⟩⟩, ⟨rfl, .inl ⟨rfl, rfl⟩⟩, (fun g h => by cases h), (fun g h => by cases h), Fr.refl _ _⟩
    case round =>
      obtain ⟨k, rfl, hk2, hk, ho3, ho4, hg3, hg4, hf⟩ := hrel
      obtain ⟨wi, rfl⟩ : ∃ wi : World, wi = wr := ⟨_, rfl⟩
      have HO := Lib.hid (And.intro ho3 ho4)
      have HG := Lib.hid (And.intro hg3 hg4)
      have HFi := Lib.hid hf
      by_cases hlt : k + 1 < n
      · obtain ⟨g, o, rfl, h3⟩ := H1.out.resolve_left (by omega)
        have c1 := (hf.cell (World.block_lt_of_cell? w _ (h3 k (by omega))) (by simp)).trans (h3 k (by omega))
        have c2 := (hf.cell (World.block_lt_of_cell? w _ (h3 (k + 1) hlt)) (by simp)).trans (h3 (k + 1) hlt)
        have HC := Lib.hid (And.intro (h3 k (by omega)) (h3 (k + 1) hlt))
        have HLT := Lib.hid (World.block_lt_of_cell? w _ (h3 k (by omega)))
        have HD := Lib.hid (show hd b (k / 2) = (b k, b (k + 1)) by unfold hd; rw [show 2 * (k / 2) = k by omega])
        have HK2 := Lib.hid hk2
        have HB := Lib.hid (show k / 2 + 1 ≤ 8796093022208 by omega)
        have j1 : (0 : Int) ≤ (k : Int) := by omega
        have j2 : (k : Int) + 1 < (n : Int) := by omega
        have j3 : (k : Int) < (n : Int) := by omega
        have j4 : (0 : Int) ≤ (k : Int) + 1 := by omega
        have j5 : ((k : Int) + 1).toNat = k + 1 := by omega
        have j6 : IntKind.i64.wrap ((k : Int) + 1) = (k : Int) + 1 := IntWalk.i64_in _ (by omega)
        clear ho3 ho4 hg3 hg4 hf h3 hk2
        have SS := Lib.hid (fun (W : World) (f : Fr [] w W) => show W.cell? ⟨g, o + k, none⟩ = some (.int .u64 (b k)) ∧ W.cell? ⟨g, o + (k + 1), none⟩ = some (.int .u64 (b (k + 1))) from ⟨(f.cell (a := ⟨g, o + k, none⟩) HLT.out (by simp)).trans HC.out.1, (f.cell (a := ⟨g, o + (k + 1), none⟩) HLT.out (by simp)).trans HC.out.2⟩)
        go_wp2_with fail
        go_region_held3 (fun W => W.cell? ⟨g, o + k, none⟩ = some (.int .u64 (b k)) ∧ W.cell? ⟨g, o + (k + 1), none⟩ = some (.int .u64 (b (k + 1)))) (first | (refine SS.out _ ?_; repeat (first | exact FA | exact HFi.out | refine Fr.drew ?_ | refine Fr.drewN ?_ _ | refine Fr.alloc ?_ _)))
          (first
            | (go_at_call 10; refine (of_any _ _ _).mono ?_; rintro e _ ⟨rfl, rfl⟩)
            | (refine step_app (by rfl) _ _ 73 (by rfl) 26 (.complex .f64 0 0) 1 16 Try.underlying73 info26 rfl (by decide) _ (k / 2) (cpx b (k / 2)) (by rfl) (by first | exact World.ownsRow.alloc HO.out.1 _ | exact (World.ownsRow.alloc HO.out.1 _).drew) ⟨wi.heap.size, 0, none⟩ 1 1 [.complex .f64 (b k) (b (k + 1))] (by rfl) rfl (by first | exact new_one wi _ _ _ rfl | exact new_one wi.drew _ _ _ rfl) (by simp [Value.oneCell']) (by unfold maxLen; omega) (by omega) ?_; intro v1 w3 happ; have HA := Lib.hid (And.intro happ.own (app_keep happ (by first | exact World.ownsRow.alloc HO.out.1 _ | exact (World.ownsRow.alloc HO.out.1 _).drew) (k' := k / 2) (xs' := nms b (k / 2)) (v' := u4) (size' := 2) (e' := 33) (by first | exact World.ownsRow.alloc HO.out.2 _ | exact (World.ownsRow.alloc HO.out.2 _).drew) (by decide) HG.out.1 (by repeat (first | exact HFi.out | refine Fr.drew ?_ | refine Fr.drewN ?_ _ | refine Fr.alloc ?_ _)))); clear happ; have FA := HA.out.2.2.2))
        all_goals
          simp only [Exit.then]
          go_wp2_with fail
          obtain ⟨c1, c2⟩ := SS.out _ FA
          go_region_held3 (fun W => W.cell? ⟨g, o + k, none⟩ = some (.int .u64 (b k)) ∧ W.cell? ⟨g, o + (k + 1), none⟩ = some (.int .u64 (b (k + 1)))) (first | (refine SS.out _ ?_; repeat (first | exact FB | exact FN | exact FA | refine Fr.drew ?_ | refine Fr.drewN ?_ _ | refine Fr.alloc ?_ _)))
            (first
              | (go_at_call 10; refine (of_any _ _ _).mono ?_; rintro e _ ⟨rfl, rfl⟩)
              | (go_at_call 15; refine (num_any _ _ _).mono ?_; rintro e wn ⟨rfl, fn⟩; have FN : Fr [] w wn := (by refine Fr.trans ?_ fn (by simp); repeat (first | exact FA | refine Fr.drew ?_ | refine Fr.drewN ?_ _)); have HN := Lib.hid (And.intro (own_fr (w := _) (by first | exact HA.out.1 | exact HA.out.1.drew) fn (by simp)) (own_fr (w := _) (by first | exact HA.out.2.1 | exact HA.out.2.1.drew) fn (by simp))); clear fn)
              | (refine step_app (by rfl) _ _ 74 (by rfl) 33 (.agg #[.float .f64 0, .float .f64 0]) 2 16 Try.underlying74 info33b rfl (by decide) _ (k / 2) (nms b (k / 2)) (by rfl) (by first | exact World.ownsRow.alloc HN.out.2 _ | exact (World.ownsRow.alloc HN.out.2 _).drew) ⟨wn.heap.size, 0, none⟩ 1 1 [.float .f64 (b k), .float .f64 (b (k + 1))] (by rfl) rfl (by first | exact new_two wn _ _ _ _ rfl | exact new_two wn.drew _ _ _ _ rfl) (by simp [Value.oneCell']) (by unfold maxLen; omega) (by omega) ?_; intro v4 w4 happ; have HZ := Lib.hid (And.intro happ.own (app_keep happ (by first | exact World.ownsRow.alloc HN.out.2 _ | exact (World.ownsRow.alloc HN.out.2 _).drew) (k' := k / 2 + 1) (xs' := cpx b (k / 2) ++ [.complex .f64 (b k) (b (k + 1))]) (v' := v1) (size' := 1) (e' := 26) (by first | exact World.ownsRow.alloc HN.out.1 _ | exact (World.ownsRow.alloc HN.out.1 _).drew) (by decide) HG.out.2 (by repeat (first | exact FN | refine Fr.drew ?_ | refine Fr.drewN ?_ _ | refine Fr.alloc ?_ _)))); clear happ; have FB := HZ.out.2.2.2))
          all_goals
            simp only [Exit.inBlock, Exit.then]
            go_wp2_with fail
            go_roundw
            case rel =>
              have e1 : (k + 2) / 2 = k / 2 + 1 := by omega
              refine ⟨k + 2, by go_num, by have := HK2.out; omega, by omega, ?_, ?_, HA.out.2.2.1, HZ.out.2.2.1, FB⟩
              · rw [e1, cpx_succ, HD.out]; exact HZ.out.2.1
              · rw [e1, nms_succ, HD.out]; exact HZ.out.1
            case measure => simp [intOf]; omega
      · have e1 : n / 2 = k / 2 := by omega
        have HE := Lib.hid e1
        clear e1 ho3 ho4 hg3 hg4 hf hk2
        go_wp2_with fail
        go_meet
        case rel => rw [HE.out]; exact ⟨HO.out.1, HO.out.2, HG.out.1, HFi.out⟩
  case rest =>
    obtain ⟨ho3, ho4, hg3, hf⟩ := hcut
    obtain ⟨h, hh⟩ : ∃ h, h = n / 2 := ⟨_, rfl⟩
    rw [← hh] at ho3 ho4
    have hb : h ≤ 8796093022208 := by omega
    clear hh hn
    have R3 := Lib.hid (rdC_of_own ho3)
    have R4 := Lib.hid (rdN_of_own ho4)
    have HO := Lib.hid (And.intro ho3 ho4)
    have HG := Lib.hid (And.intro hg3 hf)
    clear ho3 ho4 hg3 hf
    have M1 := Lib.hid (fun w hR => mean_any w u3 h (hd b) (by omega) hR)
    have M2 := Lib.hid (fun w hR => refMean_any w u4 h (hd b) (by omega) hR)
    go_wp2_with fail
    (with_reducible refine (M1.out _ R3.out).mono ?_)
    rintro _ w1 ⟨r, i, rfl, hm, f1⟩
    have HM := Lib.hid hm
    have G1 := Lib.hid f1
    clear hm f1
    go_wp2_with fail
    (with_reducible refine (M2.out _ (R4.out.fr0 G1.out)).mono ?_)
    rintro _ w2 ⟨r2, i2, rfl, hm, f2⟩
    have G2 := Lib.hid (G1.out.trans f2 (by simp))
    have HE := Lib.hid (MeanR.fe HM.out hm)
    clear hm f2
    go_wp2_with fail
    (with_reducible refine (lawAlike_true _ HE.out).mono ?_)
    rintro _ w3 ⟨rfl, f3⟩
    have G3 := Lib.hid (G2.out.trans f3 (by simp))
    clear f3
    by_cases h0 : h = 0
    · subst h0
      obtain ⟨p3, cap3, e3, _⟩ := R3.out
      subst e3
      have HFin := Lib.hid (HG.out.2.trans G3.out (by simp))
      clear HG G1 G2 G3 HO R3 R4 M1 M2 HM HE
      go_wp2_with fail
      go_loopw [6] (fun i wr => i = .int .i64 0 ∧ wr = w3) (fun _ _ => 0)
      case atStart => exact ⟨rfl, rfl⟩
      case round =>
        obtain ⟨rfl, hwr⟩ := hrel
        subst hwr
        go_wp2_with fail
        (with_reducible refine (lives_any _).mono ?_)
        rintro _ wl ⟨rfl, fl⟩
        go_wp2_with fail
        go_ret
        exact ⟨rfl, HFin.out.trans fl (by simp)⟩
    · obtain ⟨g3, cap3, cur3, e3, hb3, hc3⟩ := own_cur HO.out.1 h0
      obtain ⟨g4, cap4, cur4, e4, hb4, hc4⟩ := own_cur HO.out.2 h0
      have hg3 := HG.out.1 g3 (by rw [e3]; rfl)
      have hne : g3 ≠ g4 := by
        intro e
        rw [e] at hb3
        exact absurd (hb3.inj hb4).2 (by decide)
      have HB := Lib.hid (And.intro (G3.out.blk hb3 (by simp)) (And.intro (G3.out.blk hb4 (by simp)) (And.intro hc3 hc4)))
      have HN := Lib.hid (And.intro hg3 hne)
      have HF3 := Lib.hid (HG.out.2.trans G3.out (by simp))
      subst e3 e4
      have HH := Lib.hid h0
      clear hb3 hc3 hb4 hc4 hg3 hne HG G1 G2 G3 HO R3 R4 M1 M2 HM HE h0
      go_wp2_with fail
      go_loopw [6] (fun i wr => ∃ (k : Nat) (cur : Array Value), i = .int .i64 k ∧ k ≤ h ∧ Blk wr g3 cur 26 ∧ (∀ m : Nat, m < k → cur[m]? = some (.complex .f64 4607182418800017408 0)) ∧ (∀ m : Nat, k ≤ m → m < h → cur[m]? = some (.complex .f64 (hd b m).1 (hd b m).2)) ∧ Fr [g3] w3 wr) (fun i _ => h - (intOf i).toNat)
      case atStart => exact ⟨0, cur3, rfl, Nat.zero_le _, HB.out.1, (fun m hm => by omega), (fun m _ hm => HB.out.2.2.1 m _ (cpx_at b hm)), Fr.refl _ _⟩
      case round =>
        obtain ⟨k, cur, rfl, hk, hbk, hlo, hhi, hf⟩ := hrel
        obtain ⟨wi, rfl⟩ : ∃ wi : World, wi = wr := ⟨_, rfl⟩
        have HK := Lib.hid (And.intro hlo (And.intro hhi hf))
        have HBK := Lib.hid hbk
        by_cases hlt : k < h
        · have c1 := hbk.at k (hhi k (Nat.le_refl _) hlt)
          have hb4 := hf.blk HB.out.2.1 (by simp; exact Ne.symm HN.out.2)
          have c2 := hb4.at (k * 2) (HB.out.2.2.2 _ _ (nms_at b hlt).1)
          have c3 := hb4.at (k * 2 + 1) (HB.out.2.2.2 _ _ (nms_at b hlt).2)
          have j1 : (0 : Int) ≤ (k : Int) := by omega
          have j2 : (k : Int) < (h : Int) := by omega
          have SS := Lib.hid (fun (W : World) (f : Fr [] wi W) => show W.cell? ⟨g3, k, none⟩ = some (.complex .f64 (hd b k).1 (hd b k).2) ∧ W.cell? ⟨g4, k * 2, none⟩ = some (.float .f64 (hd b k).1) ∧ W.cell? ⟨g4, k * 2 + 1, none⟩ = some (.float .f64 (hd b k).2) from ⟨(f.blk hbk (by simp)).at k (hhi k (Nat.le_refl _) hlt), (f.blk hb4 (by simp)).at (k * 2) (HB.out.2.2.2 _ _ (nms_at b hlt).1), (f.blk hb4 (by simp)).at (k * 2 + 1) (HB.out.2.2.2 _ _ (nms_at b hlt).2)⟩)
          clear hlo hhi hf hbk hb4
          go_wp2_with fail
          go_region_held3 (fun W => W.cell? ⟨g3, k, none⟩ = some (.complex .f64 (hd b k).1 (hd b k).2) ∧ W.cell? ⟨g4, k * 2, none⟩ = some (.float .f64 (hd b k).1) ∧ W.cell? ⟨g4, k * 2 + 1, none⟩ = some (.float .f64 (hd b k).2)) (first | (refine SS.out _ ?_; repeat (first | exact FA | exact Fr.refl _ _ | refine Fr.drew ?_ | refine Fr.drewN ?_ _)))
            ((go_at_call 12; refine (lawAlike_true _ ⟨.refl _, .refl _⟩).mono ?_; rintro e wa ⟨rfl, fa⟩; have FA : Fr [] wi wa := (by refine Fr.trans ?_ fa (by simp); repeat (first | exact Fr.refl _ _ | refine Fr.drew ?_ | refine Fr.drewN ?_ _)); clear fa))
          all_goals
            simp only [Exit.then]
            have hba := FA.blk HBK.out (by simp)
            have k1 := hba.at k (HK.out.2.1 k (Nat.le_refl _) hlt)
            have k2 := hba.free k
            have HS := Lib.hid (hba.set k (.complex .f64 4607182418800017408 0))
            clear hba
            go_wp2_with fail
            go_roundw
            case rel =>
              have hsz : k < cur.size := (Array.getElem?_eq_some_iff.1 (HK.out.2.1 k (Nat.le_refl _) hlt)).1
              refine ⟨k + 1, _, by go_num, by omega, HS.out, fun m hm => ?_, fun m h1 h2 => ?_, ?_⟩
              · by_cases e : m = k
                · subst e; simp [hsz]
                · rw [Array.getElem?_setIfInBounds_ne (Ne.symm e)]; exact HK.out.1 m (by omega)
              · rw [Array.getElem?_setIfInBounds_ne (by omega)]; exact HK.out.2.1 m (by omega) h2
              · refine Fr.setCell (HK.out.2.2.trans FA (by simp)) _ _ (.inl (by simp))
            case measure => simp [intOf]; omega
        · obtain rfl : h = k := by omega
          have hRR : RdC wi (.slice (some ⟨g3, 0, none⟩) h cap3) h (fun _ => (4607182418800017408, 0)) := ⟨_, _, rfl, .inr ⟨g3, 0, rfl, fun m hm => by rw [Nat.zero_add]; exact hbk.at m (hlo m hm)⟩⟩
          have HR := Lib.hid hRR
          have MM := Lib.hid (fun w hR => mean_any w (.slice (some ⟨g3, 0, none⟩) h cap3) h (fun _ => (4607182418800017408, 0)) (by omega) hR)
          have HFin := Lib.hid (show Fr [] w wi from HF3.out.trans hf (by simp; exact HN.out.1))
          have hpos : (0 : Int) < (h : Int) := by have := HH.out; omega
          have hz : ((h : Int) == 0) = false := by simp; omega
          clear hRR hlo hhi hf hbk
          go_wp2_with fail
          (with_reducible refine (MM.out _ HR.out).mono ?_)
          rintro _ wm ⟨r5, i5, rfl, hm, fm⟩
          obtain ⟨q1, q2⟩ := mean_one (fun _ => rfl) (by have := HH.out; omega) (by omega) hm
          have GM := Lib.hid (HFin.out.trans fm (by simp))
          clear hm fm
          go_wp2_with fail
          (with_reducible refine (lives_any _).mono ?_)
          rintro _ wl ⟨rfl, fl⟩
          go_wp2_with fail
          go_ret
          exact ⟨rfl, GM.out.trans fl (by simp)⟩
end means
end Go.Proofs.Ytkbcdfniocmamaa
