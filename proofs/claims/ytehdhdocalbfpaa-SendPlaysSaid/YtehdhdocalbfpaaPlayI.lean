/-
  From of the program: a sender as it stood, by contracts.
-/
import Derived.Test.YtehdhdocalbfpaaPlayH
import Derived.Laws.OwnMore
namespace Go.Proofs.Ytehdhdocalbfpaa
open Go.RowKit ring
set_option linter.unusedVariables false
attribute [local go_sem ↓] Go.wp_at_zero Go.wp_at_succ newVar56
attribute [local go_sem] ev_layEv_same can_new run_storeEv0 run_newEv run_newEv'

/-- What may be appended: nil, or so many elements that lie there. -/
def Src (w : World) (v : Value) (m size : Nat) (news : List Value) : Prop :=
  (v = .slice none 0 0 ∧ m = 0 ∧ news = []) ∨ ∃ ad c, v = .slice (some ad) m c ∧ news.length = m * size ∧ ∀ j u, news[j]? = some u → w.cell? (ad.add j) = some u
theorem Src.fr0 {w w' : World} {v : Value} {m size : Nat} {news : List Value} (h : Src w v m size news) (f : Fr [] w w') : Src w' v m size news := by
  rcases h with h | ⟨ad, c, h1, h2, h3⟩
  · exact .inl h
  · exact .inr ⟨ad, c, h1, h2, fun j u hj => (f.cell (World.block_lt_of_cell? w _ (h3 j u hj)) (by simp)).trans (h3 j u hj)⟩
theorem Src.form {w : World} {v : Value} {m size : Nat} {news : List Value} (h : Src w v m size news) : ∃ p c, v = .slice p m c := by
  rcases h with ⟨h, rfl, _⟩ | ⟨ad, c, h1, _⟩
  · exact ⟨none, 0, h⟩
  · exact ⟨_, c, h1⟩
theorem wpList_src {P : Program} (w : World) {ops : Array Oper} {rest : List Oper} {o : Oper} {a : Act} {Q : Exit → Act → World → Prop}
    (hg : o.guard = none) (s x : Operand) (t : TypeId) (hop : o.op = Op.call { callee := Callee.builtin Builtin.append, args := #[s, x], argTypes := #[t, t] })
    (e : TypeId) (z : Value) (size bytes : Nat) (h1 : P.underlying t = some (.slice e)) (h2 : (P.info? e).map (fun i => (i.zero, i.size, i.bytes)) = some (some z, size, bytes)) (h6 : z.cells.size = size) (h7 : 0 < size)
    (v : Value) (k : Nat) (xs : List Value) (hs : a.eval s = v) (hown : w.ownsRow 0 e size v k xs) (xv : Value) (m : Nat) (news : List Value) (hx : a.eval x = xv) (hsrc : Src w xv m size news)
    (h1c : ∀ u ∈ news, u.oneCell' = true) (b1 : k + m ≤ maxLen) (b2 : (k + m) * bytes ≤ 140737488355328)
    (hK : ∀ v' w', Appended w e size v (k + m) (xs ++ news) v' w' → wpList P ops Q rest (a.put o.dst v') w') :
    wpList P ops Q (o :: rest) a w := by
  rcases hsrc with ⟨rfl, rfl, rfl⟩ | ⟨ad, c, rfl, hn, hc⟩
  · obtain ⟨i, hi, hz, hsz, hby⟩ := info_parts h2
    refine wpList_plain hg fun K hK' => ?_
    have hrun := run_append_owned_none (P := P) (w := w) 0 t o.type e i size h1 hi v k xs hown
    unfold Oper.wp execOp
    simp only [hop, resolve, invoke, builtin, Sem.run_bind, Sem.run_pure, Result.andThen_ok, List.map_toArray, List.map_cons, List.map_nil, hs, hx, hrun]
    exact hK' _ _ (hK v w ⟨by simpa using hown, World.grownBy.refl _ _, .inl rfl⟩)
  · exact wpList_app w hg s x t hop e z size bytes h1 h2 h6 h7 v k xs hs hown ad m c news hx hn hc h1c b1 b2 hK

/-- A sender in the making. -/
structure Half (w W : World) (sb rb win tmo most acked : Nat) (atv : Value) (A : List Int) (K : List Ev) : Prop where
  ex : ∃ g Cs f, Blk W sb #[.int .i64 win, .int .i64 tmo, .int .u64 acked, .pointer (some ⟨rb, 0, none⟩), atv] 71 ∧ ERing W rb g Cs f K most ∧ w.heap.size ≤ g
  ow : W.ownsRow 0 51 1 atv A.length (u32s A)
  n1 : w.heap.size ≤ sb
  n2 : w.heap.size ≤ rb
  n3 : ∀ g, atv.ownBlock = some g → w.heap.size ≤ g
  fr : Fr [] w W
section
variable {w W W' : World} {sb rb win tmo most acked : Nat} {atv : Value} {A : List Int} {K : List Ev}
theorem Half.fr0 (h : Half w W sb rb win tmo most acked atv A K) (f : Fr [] W W') : Half w W' sb rb win tmo most acked atv A K := by
  obtain ⟨g, Cs, f1, hb, hr, hg⟩ := h.ex
  exact ⟨⟨g, Cs, f1, f.blk hb (by simp), hr.fr f (by simp) (by simp), hg⟩, own_fr h.ow f (by simp), h.n1, h.n2, h.n3, h.fr.trans f (by simp)⟩
theorem Half.push {g : Nat} {Cs : List Ev} {f : Nat} {x : Ev} {e : Ending} (h : Half w W sb rb win tmo most acked atv A K) (hb : Blk W sb #[.int .i64 win, .int .i64 tmo, .int .u64 acked, .pointer (some ⟨rb, 0, none⟩), atv] 71) (hr : ERing W rb g Cs f K most) (hg : w.heap.size ≤ g) (hp : EPush W rb g K most x e W') :
    Half w W' sb rb win tmo most acked atv A (K ++ [x]) := by
  obtain ⟨-, g', Cs', f', hr2, hg', fr2⟩ := hp
  obtain ⟨pp, rr, hrb⟩ := hr.hd
  have n1 : sb ≠ rb := hb.ne hrb (by decide)
  have n2 : sb ≠ g := hb.ne hr.pl (by decide)
  have no1 : ∀ k, atv.ownBlock = some k → k ∉ [rb, g] := fun k hk hm => by
    have e1 := own_ne h.ow hk hrb (by decide)
    have e2 := own_ne h.ow hk hr.pl (by decide)
    simp at hm
    rcases hm with hm | hm
    · exact e1 hm.symm
    · exact e2 hm.symm
  refine ⟨⟨g', Cs', f', fr2.blk hb (by simp [n1, n2]), hr2, ?_⟩, own_fr h.ow fr2 no1, h.n1, h.n2, h.n3, h.fr.trans fr2 (fun k hk => .inr ?_)⟩
  · rcases hg' with rfl | hg'
    · exact hg
    · have := h.fr.size; omega
  · have := h.n2
    simp at hk
    rcases hk with rfl | rfl <;> assumption
theorem Half.snd (h : Half w W sb rb win tmo most acked atv A K) (al : A.length ≤ K.length) (aw : A.length ≤ win) (lw : 1 ≤ win ∧ win ≤ 32) (lt : 1 ≤ tmo ∧ tmo ≤ 1000) (lm : 1 ≤ most ∧ most ≤ 256) (la : acked + K.length < 18446744073709551616) :
    ∃ S, Snd W S sb win tmo most acked K A ∧ (∀ b ∈ S, w.heap.size ≤ b) ∧ Fr [] w W := by
  obtain ⟨g, Cs, f1, hb, hr, hg⟩ := h.ex
  refine ⟨_, ⟨⟨rb, g, Cs, f1, atv, rfl, hb, hr, h.ow⟩, al, aw, lw, lt, lm, la⟩, fun b hb => ?_, h.fr⟩
  rw [List.mem_append] at hb
  rcases hb with hb | hb
  · simp at hb
    rcases hb with rfl | rfl | rfl
    · exact h.n1
    · exact h.n2
    · exact hg
  · exact h.n3 b (by simpa using hb)
end
/-- From, where the numbers will not do. -/
theorem sfrom_no2 (w : World) (a b c ac : Int) (p1 p2 : Option Addr) (l1 c1 l2 c2 : Nat) (h : a < 1 ∨ 32 < a ∨ b < 1 ∨ 1000 < b ∨ c < 1 ∨ 256 < c) : Calls Try.prog 33 #[.int .i64 a, .int .i64 b, .int .i64 c, .int .u64 ac, .slice p1 l1 c1, .slice p2 l2 c2] w fun e w' => e = .returned (.tuple #[.pointer none, .int .i64 2]) ∧ w = w' := by
  have hn := Lib.hid (snew_no w a b c h)
  clear h
  go_enter Try.func33, Try.ntmps33
  go_wp2_with (go_at_call 16; refine hn.out.mono ?_; rintro e w1 ⟨rfl, rfl⟩)
  go_ret2
  exact ⟨rfl, rfl⟩
set_option maxRecDepth 100000 in
/-- From, where what it stood in cannot be. -/
theorem sfrom_no3 (w : World) (win tmo most acked : Nat) (p1 p2 : Option Addr) (l1 c1 l2 c2 : Nat) (h1 : 1 ≤ win ∧ win ≤ 32) (h2 : 1 ≤ tmo ∧ tmo ≤ 1000) (h3 : 1 ≤ most ∧ most ≤ 256) (ha : acked < 18446744073709551616) (hl : l1 ≤ 70368744177664)
    (h : most < l1 ∨ l1 < l2 ∨ win < l2 ∨ 18446744073709551616 ≤ acked + l1) : Calls Try.prog 33 #[.int .i64 win, .int .i64 tmo, .int .i64 most, .int .u64 acked, .slice p1 l1 c1, .slice p2 l2 c2] w fun e w' => e = .returned (.tuple #[.pointer none, .int .i64 3]) ∧ Fr [] w w' := by
  have hn := Lib.hid (snew_ok w win tmo most h1 h2 h3)
  have k1 : IntKind.u64.wrap (l1 : Int) = l1 := by rw [IntKind.wrap_u64]; omega
  have k2 : IntKind.u64.wrap ((18446744073709551615 : Int) - acked) = (18446744073709551615 : Int) - acked := by rw [IntKind.wrap_u64]; omega
  go_enter Try.func33, Try.ntmps33
  go_wp2_with (go_at_call 16; refine hn.out.mono ?_; rintro e w1 ⟨S, sb, rfl, -, -, f1⟩; have F1 := Lib.hid f1; clear f1)
  all_goals first
    | (exfalso; omega)
    | (go_ret2; exact ⟨rfl, F1.out⟩)
theorem sfrom_mid (w w1 w3 : World) (win tmo most acked : Nat) (sb rb g : Nat) (Cs : List Ev) (f : Nat) (atv v1 : Value) (A : List Int) (S : List Nat)
    (hb : Blk w1 sb #[.int .i64 win, .int .i64 tmo, .int .u64 (0 : Nat), .pointer (some ⟨rb, 0, none⟩), atv] 71) (hr : ERing w1 rb g Cs f [] most) (ho : w1.ownsRow 0 51 1 atv 0 []) (f1 : Fr [] w w1) (fs : ∀ b ∈ S, w.heap.size ≤ b) (hS : S = [sb, rb, g] ++ atv.ownBlock.toList)
    (ha : Appended w1 51 1 atv (0 + A.length) ([] ++ u32s A) v1 w3) :
    (w3.cell? ⟨sb, 2, none⟩ = some (.int .u64 (0 : Nat)) ∧ w3.frozen? ⟨sb, 2, none⟩ = false ∧ (w3.setCell ⟨sb, 2, none⟩ (.int .u64 acked)).cell? ⟨sb, 4, none⟩ = some atv ∧ w3.frozen? ⟨sb, 4, none⟩ = false) ∧
      Half w ((w3.setCell ⟨sb, 2, none⟩ (.int .u64 acked)).setCell ⟨sb, 4, none⟩ v1) sb rb win tmo most acked v1 A [] := by
  have f3 := ha.fr
  obtain ⟨pp, rr, hrb⟩ := hr.hd
  have hb3 := f3.blk hb (own_notin ho hb (by decide))
  have hr3 := hr.fr f3 (own_notin ho hrb (by decide)) (own_notin ho hr.pl (by decide))
  have n1 : sb ≠ rb := hb.ne hrb (by decide)
  have n2 : sb ≠ g := hb.ne hr.pl (by decide)
  have f4 : Fr [sb] w3 ((w3.setCell ⟨sb, 2, none⟩ (.int .u64 acked)).setCell ⟨sb, 4, none⟩ v1) := ((Fr.refl _ w3).setCell _ _ (.inl (by simp))).setCell _ _ (.inl (by simp))
  have hown := ha.own
  rw [Nat.zero_add, List.nil_append] at hown
  have hsb : w.heap.size ≤ sb := fs _ (by simp [hS])
  refine ⟨⟨hb3.at 2 rfl, hb3.free 2, (hb3.set 2 (.int .u64 acked)).at 4 rfl, hb3.free 4⟩, ⟨⟨g, Cs, f, ?_, hr3.fr f4 (by simp; exact Ne.symm n1) (by simp; exact Ne.symm n2), fs _ (by simp [hS])⟩, own_fr hown f4 (fun k hk hm => by simp at hm; subst hm; exact own_notin hown hb3 (by decide) (by simp [hk])), hsb, fs _ (by simp [hS]), fun k hk => ?_, (f1.trans f3 (fun k hk => .inr (fs k (by rw [hS, List.mem_append]; exact .inr hk)))).trans f4 (fun k hk => .inr (by simp at hk; subst hk; exact hsb))⟩⟩
  · exact (hb3.set 2 (.int .u64 acked)).set 4 v1
  · rcases ha.place with hp | hp
    · exact fs k (by rw [hS, List.mem_append]; right; rw [← hp, hk]; simp)
    · rw [hp] at hk; simp at hk; have := f1.size; omega
set_option maxRecDepth 100000 in
set_option maxHeartbeats 1000000 in
/-- From. -/
theorem sfrom_ok (w : World) (win tmo most acked : Nat) (bx av : Value) (L : List Ev) (A : List Int) (h1 : 1 ≤ win ∧ win ≤ 32) (h2 : 1 ≤ tmo ∧ tmo ≤ 1000) (h3 : 1 ≤ most ∧ most ≤ 256) (ha : acked + L.length < 18446744073709551616) (hl : L.length ≤ most) (hal : A.length ≤ L.length) (haw : A.length ≤ win)
    (hb : RdE w bx L) (hv : Src w av A.length 1 (u32s A)) : Calls Try.prog 33 #[.int .i64 win, .int .i64 tmo, .int .i64 most, .int .u64 acked, bx, av] w fun e w' => ∃ S sb, e = .returned (.tuple #[.pointer (some ⟨sb, 0, none⟩), .int .i64 0]) ∧ Snd w' S sb win tmo most acked L A ∧ (∀ b ∈ S, w.heap.size ≤ b) ∧ Fr [] w w' := by
  obtain ⟨n, hn⟩ : ∃ n, n = L.length := ⟨_, rfl⟩
  obtain ⟨p, cb, hbx, hbr⟩ := hb
  subst hbx
  obtain ⟨q, cv, hav⟩ := hv.form
  rw [← hn] at ha hl hal hbr ⊢
  have hne := Lib.hid (snew_ok w win tmo most h1 h2 h3)
  have k1 : IntKind.u64.wrap (n : Int) = n := by rw [IntKind.wrap_u64]; omega
  have k2 : IntKind.u64.wrap ((18446744073709551615 : Int) - acked) = (18446744073709551615 : Int) - acked := by rw [IntKind.wrap_u64]; omega
  have i1 : ¬ (most : Int) < n := by omega
  have i2 : ¬ (n : Int) < (A.length : Int) := by omega
  have i3 : ¬ (win : Int) < (A.length : Int) := by omega
  have i4 : ¬ (18446744073709551615 : Int) - acked < n := by omega
  have HV := Lib.hid (And.intro hv (And.intro hn hbr))
  have HA := Lib.hid (And.intro h1 (And.intro h2 (And.intro h3 (And.intro ha (And.intro hal haw)))))
  subst hav
  clear hn hv hbr
  have h200 : n ≤ 256 := by omega
  clear h1 h2 h3 ha
  go_enter Try.func33, Try.ntmps33
  go_wp2_with (first
    | (go_at_call 16; refine hne.out.mono ?_; rintro e w1 ⟨S, sb, rfl, s1, fs, f1⟩; obtain ⟨rb, g, Cs, f, atv, hS, hb, hr, ho⟩ := s1.ex; have c4 := hb.at 4 (v := atv) rfl; have d2 := hb.at 2 (v := .int .u64 (0 : Nat)) rfl; have HS := Lib.hid (HV.out.1.fr0 f1); have H1 := Lib.hid (And.intro hb (And.intro hr (And.intro ho (And.intro f1 (And.intro fs hS))))); clear s1 fs f1 hS hb hr ho)
    | (at_builtin; go_must (refine wpList_src _ rfl _ _ 43 rfl 51 (.int .u32 0) 1 4 Try.underlying43 info51 rfl (by decide) _ 0 [] rfl H1.out.2.2.1 _ A.length (u32s A) rfl HS.out (u32s_one _) (by unfold maxLen; omega) (by omega) ?_); intro v1 w3 happ; obtain ⟨⟨q1, q2, q3, q4⟩, q5⟩ := sfrom_mid w _ w3 win tmo most acked _ _ _ _ _ _ v1 A _ H1.out.1 H1.out.2.1 H1.out.2.2.1 H1.out.2.2.2.1 H1.out.2.2.2.2.1 H1.out.2.2.2.2.2 happ; obtain ⟨p1, l1, cc1, rfl⟩ := own_slice happ.own; have Q5 := Lib.hid q5; clear q5 happ H1 c4 d2))
  generalize World.setCell _ _ _ = w5 at *
  have HV2 := Lib.hid (show RdE w (.slice p n cb) L from ⟨p, cb, by rw [HV.out.2.1], by rw [← HV.out.2.1]; exact HV.out.2.2⟩)
  go_loopw [64] (fun i wr => ∃ k : Nat, i = .int .i64 k ∧ k ≤ n ∧ Half w wr sb rb win tmo most acked (.slice p1 l1 cc1) A (L.take k)) (fun i _ => n - (intOf i).toNat)
  case atStart => exact ⟨0, rfl, Nat.zero_le _, by simpa using Q5.out⟩
  case round =>
    obtain ⟨k, rfl, hk, hM⟩ := hrel
    obtain ⟨wi, rfl⟩ : ∃ wi : World, wi = wr := ⟨_, rfl⟩
    by_cases hlt : k < n
    · obtain ⟨x, hx⟩ : ∃ x, L[k]? = some x := ⟨_, List.getElem?_eq_getElem (by have := HV.out.2.1; omega)⟩
      obtain ⟨gb, ob, hp, h4⟩ := HV.out.2.2.resolve_left (by omega)
      subst hp
      have c1 := ev_fr hM.fr (h4 k x hx)
      have j1 : (0 : Int) ≤ (k : Int) := by omega
      have j2 : (k : Int) < (n : Int) := by omega
      have htk : L.take k ++ [x] = L.take (k + 1) := by
        obtain ⟨h7, h8⟩ := List.getElem?_eq_some_iff.1 hx
        rw [← h8, List.take_succ_eq_append_getElem]
      have htl : (L.take k).length = k := by rw [List.length_take]; have := HV.out.2.1; omega
      obtain ⟨y, hy⟩ : ∃ y, y = wi.heap.size := ⟨_, rfl⟩
      have f3 : Fr [] wi (layEv (wi.alloc (.cells Ev.zero.cells.toArray 56)) y 0 x) := (((Fr.refl [y] wi).alloc _).setEv 0 x (.inl (by simp))).mono (by simp [hy])
      have ey := ev_layEv_same (wi.alloc (.cells Ev.zero.cells.toArray 56)) y 0 x (by rw [hy]; exact can_new wi)
      have HM := Lib.hid (And.intro (hM.fr0 f3) (And.intro htk htl))
      clear hM f3 h4 hx htk htl
      go_wp2_with fail
      simp only [zero_cells, ← hy]
      clear hy
      generalize layEv _ y 0 x = w3 at *
      obtain ⟨g, Cs, f, hb, hr, hg⟩ := HM.out.1.ex
      have c3 := hb.at 3 (v := .pointer (some ⟨rb, 0, none⟩)) rfl
      have hpu := Lib.hid (epush w3.drew rb g Cs f (L.take k) most x (hr.fr ((Fr.refl [] w3).drew) (by simp) (by simp)) (by rw [HM.out.2.2]; omega))
      have HB := Lib.hid (And.intro hb (And.intro hr hg))
      clear hb hr hg
      refine eregion_tail 5 (by kernel_rfl) (by kernel_rfl) ?_
      simp only [List.take_succ_cons, List.take_zero, List.drop_succ_cons, List.drop_zero]
      iterate 5 still_step
      refine wpStill_nil ?_
      go_wp2_with fail
      (with_reducible refine (hpu.out).mono ?_)
      rintro e w2 hep
      have hM2 := (HM.out.1.fr0 ((Fr.refl [] w3).drew)).push (((Fr.refl [] w3).drew).blk HB.out.1 (by simp)) (HB.out.2.1.fr ((Fr.refl [] w3).drew) (by simp) (by simp)) HB.out.2.2 hep
      rw [HM.out.2.1] at hM2
      have HM2 := Lib.hid hM2
      obtain ⟨rfl, -⟩ := hep
      clear hM2
      go_wp2_with fail
      first
        | (refine ⟨⟨k + 1, by go_num, by omega, HM2.out⟩, ?_⟩
           simp [intOf]; omega)
        | (go_roundw
           case rel => exact ⟨k + 1, by go_num, by omega, HM2.out⟩
           case measure => simp [intOf]; omega)
    · obtain rfl : n = k := by omega
      have htk : L.take n = L := by rw [HV.out.2.1]; exact List.take_length
      rw [htk] at hM
      have HM := Lib.hid hM
      clear hM htk
      go_wp2
      go_ret2
      obtain ⟨h1, h2, h3, ha, _, _⟩ := HA.out
      obtain ⟨S, s1, s2, s3⟩ := HM.out.snd (by rw [← HV.out.2.1]; exact hal) haw h1 h2 h3 (by rw [← HV.out.2.1]; exact ha)
      exact ⟨S, _, rfl, s1, s2, s3⟩

end Go.Proofs.Ytehdhdocalbfpaa
