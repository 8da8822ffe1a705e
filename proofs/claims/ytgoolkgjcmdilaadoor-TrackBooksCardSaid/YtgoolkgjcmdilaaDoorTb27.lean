/-
  Tb, part 27 of 36: the texts KbJ KbK.
-/
import Derived.Test.YtgoolkgjcmdilaaDoorTb26
section
namespace Go.Proofs.YtgoolkgjcmdilaaDoor
open Go.RowKit Flo
set_option linter.unusedVariables false
set_option linter.unusedSimpArgs false
/-- The book with the fences F, whatever their places. -/
def KBF (w : World) (N : List Nat) (k : Nat) (rO rN : Nat) (F : List Int) (V : List VO) : Prop := ∃ Fs, F = Fs.map (·.1) ∧ KB w N k rO rN Fs V
section
variable {w w' : World} {N : List Nat} {k rO rN : Nat} {F : List Int} {Fs : List (Int × Int)} {V : List VO}
theorem KBF.step {N' S : List Nat} (h : KBF w N k rO rN F V) (f : Fr S w w') (hs : ∀ s ∈ S, s ∉ N) (hN : ∀ s ∈ N, s ∈ N') (hl : ∀ s ∈ N', s < w'.heap.size) : KBF w' N' k rO rN F V := by
  obtain ⟨Fs, h1, h2⟩ := h
  exact ⟨Fs, h1, h2.step f hs hN hl⟩
theorem KBF.grow (h : KBF w N k rO rN F V) (f : Fr [] w w') : KBF w' N k rO rN F V := by
  obtain ⟨Fs, h1, h2⟩ := h
  exact ⟨Fs, h1, h2.grow f⟩
theorem mem_fences {f : Int} : f ∈ Fs.map (·.1) ↔ hasId Fs f = true := by
  unfold hasId
  rw [List.mem_map, List.any_eq_true]
  constructor
  · rintro ⟨q, h1, h2⟩
    exact ⟨q, h1, by simpa using h2⟩
  · rintro ⟨q, h1, h2⟩
    exact ⟨q, h1, by simpa using h2⟩
theorem not_fences {f : Int} (h : ¬ f ∈ Fs.map (·.1)) : hasId Fs f = false := by
  cases hq : hasId Fs f with
  | false => rfl
  | true => exact absurd (mem_fences.2 hq) h
/-- A fence's place. -/
theorem fence_at (hu : Up Fs) {f : Int} (h : f ∈ Fs.map (·.1)) : ∃ p, Fs[rank Fs f]? = some (f, p) := (has_at hu f).1 (mem_fences.1 h)
theorem KBL.ext {bO bN bP : Nat} {v u vP : Value} {BP : List Bool} {Cs : List OC} (h : KBL w N k bO bN bP v u vP rO rN Fs BP Cs) (n m : Nat) (hm : m ≤ w.heap.size) : KBL w (ext N n m) k bO bN bP v u vP rO rN Fs BP Cs :=
  h.step (Fr.refl [] w) (by simp) (fun s hs => mem_ext.2 (.inl hs)) (fun s hs => by
    rcases mem_ext.1 hs with q | q
    · exact h.low s q
    · omega)
/-- The fences of an object are of the book. -/
theorem Kin.sub {c : OC} {o : VO} (h : Kin Fs c o) : ∀ f ∈ o.ids, f ∈ Fs.map (·.1) := fun f hf => by
  rw [h.ids] at hf
  obtain ⟨p, h1, _⟩ := idsOf_mem.1 hf
  exact List.mem_map.2 ⟨_, h1, rfl⟩
theorem Kin.has {c : OC} {o : VO} (h : Kin Fs c o) (hu : Up Fs) (hpos : ∀ q ∈ Fs, 0 ≤ q.2) {f p : Int} (hp : (f, p) ∈ Fs) : hasB c.B p = decide (f ∈ o.ids) := by
  have h0 := hpos _ hp
  dsimp only at h0
  unfold hasB
  rw [decide_eq_true h0, Bool.true_and, h.ids]
  cases hb : c.B.getD p.toNat false with
  | true => rw [decide_eq_true (idsOf_mem.2 ⟨p, hp, hb⟩)]
  | false =>
    rw [decide_eq_false]
    intro hm
    obtain ⟨q, h1, h2⟩ := idsOf_mem.1 hm
    have := up_same hu hp h1
    subst this
    rw [hb] at h2
    cases h2
def KPost (w : World) (N : List Nat) (k rO rN : Nat) (F : List Int) (V : List VO) (a : Value) (e : Ending) (w' : World) : Prop := e = .returned a ∧ KBF w' (ext N w.heap.size w'.heap.size) k rO rN F V ∧ Fr N w w'
theorem kbmove_full (id num t px py : Int) (h : KBF w N k rO rN F V) (hi : U32 id) (hz : posV V id < 0) (hr : ¬ V.length < rO) :
    Calls Tryd.prog 93 #[.pointer (some ⟨k, 0, none⟩), .int .u32 id, .int .u32 num, .int .u32 t, .agg #[.int .i32 px, .int .i32 py]] w fun e w' => e = .returned (.tuple #[.agg #[.int .i32 0, .int .i32 0], .bool false, .int .i64 5]) ∧ Fr [] w w' := by
  obtain ⟨Fs, rfl, bO, bN, bP, v, u, vP, BP, Cs, h, hV⟩ := h
  rcases both_at hV h.upC id with ⟨h1, h2⟩ | ⟨r, c, o, h1, h2, h3, _⟩
  · exact move_full w k bO bN bP v u _ Fs rO rN id num t px py h.hd h.hO h.hN hi h1 (by rw [List.length_map, hV.len]; omega)
  · omega
theorem kbmove_new (id num t px py : Int) (h : KBF w N k rO rN F V) (hi : U32 id) (ht : U32 t) (hx : I32 px) (hy : I32 py) (hz : posV V id < 0) (hr : V.length < rO) :
    Calls Tryd.prog 93 #[.pointer (some ⟨k, 0, none⟩), .int .u32 id, .int .u32 num, .int .u32 t, .agg #[.int .i32 px, .int .i32 py]] w (KPost w N k rO rN F (putV V (newO id num t px py)) (.tuple #[.agg #[.int .i32 0, .int .i32 0], .bool false, .int .i64 0])) := by
  obtain ⟨Fs, rfl, bO, bN, bP, v, u, vP, BP, Cs, h, hV⟩ := h
  rcases both_at hV h.upC id with ⟨h1, h2⟩ | ⟨r, c, o, h1, h2, h3, _⟩
  · refine (move_new w k bO bN bP v u _ Fs rO rN id num t px py h.hd h.hO h.hN hi h1 (by rw [List.length_map, hV.len]; omega)).mono ?_
    rintro e w' ⟨x, bB, vB, ws, v', rfl, hX, hB, hO, hv, n1, n2, n3, f⟩
    have hz : ∀ i, (List.replicate rN false).getD i false = false := fun i => by
      rw [List.getD_eq_getElem?_getD, List.getElem?_replicate]
      split <;> rfl
    have hp := h.put (c := ⟨x, bB, vB, List.replicate rN false, id, num, t, px, py, 0⟩) h1 hO hv ⟨hX, ⟨ws, hB⟩, by simp⟩ (fun i hi => by rw [hz] at hi; cases hi) n1 n2 n3 f
    refine ⟨rfl, ⟨Fs, rfl, _, _, _, _, _, _, _, _, hp, ?_⟩, f.mono fun s hs => .inl (h.nO s hs)⟩
    rw [putV_ins]
    have hids : [] = idsOf Fs (List.replicate rN false) := by
      unfold idsOf
      rw [List.filter_eq_nil_iff.2 (fun q hq => by rw [hz]; decide)]
      rfl
    exact Al2.ins OC.id (·.id) (fun a b r => r.id) hV (show Kin Fs ⟨x, bB, vB, List.replicate rN false, id, num, t, px, py, 0⟩ (newO id num t px py) from ⟨rfl, rfl, rfl, rfl, rfl, FE.refl _, hids, hi, ht, hx, hy⟩)
  · omega
def MoveKPost (w : World) (N : List Nat) (k rO rN : Nat) (F : List Int) (V : List VO) (r : Nat) (o : VO) (num t qx qy : Int) (e : Ending) (w' : World) : Prop :=
  e = .returned (.tuple #[.agg #[.int .i32 o.px, .int .i32 o.py], .bool true, .int .i64 0]) ∧ (∀ s, SpR o.px o.py qx qy o.t t o.sp s → KBF w' N k rO rN F (V.set r { o with num := num, t := t, px := qx, py := qy, sp := s })) ∧ Fr N w w'
theorem kbmove_old (id num t px py : Int) (r : Nat) (o : VO) (h : KBF w N k rO rN F V) (hi : U32 id) (ht : U32 t) (hx : I32 px) (hy : I32 py) (hz : posV V id = r) (ho : V[r]? = some o) :
    Calls Tryd.prog 93 #[.pointer (some ⟨k, 0, none⟩), .int .u32 id, .int .u32 num, .int .u32 t, .agg #[.int .i32 px, .int .i32 py]] w (MoveKPost w N k rO rN F V r o num t px py) := by
  obtain ⟨Fs, rfl, bO, bN, bP, v, u, vP, BP, Cs, h, hV⟩ := h
  rcases both_at hV h.upC id with ⟨h1, h2⟩ | ⟨r', c, o', h1, h2, h3, hc, ho', e1, e2, hk, hrk⟩
  · omega
  · obtain rfl : r' = r := by omega
    rw [ho] at ho'
    cases ho'
    obtain ⟨hX, ⟨ws, hB⟩, hl⟩ := h.ob c (List.mem_of_getElem? hc)
    rw [e1] at hX
    refine (move_old w k bO bN bP v u _ Fs rO rN id c.num num c.t t c.px c.py px py c.sp c.x c.bB h.hd h.hO h.hN hi hrk hX (by rw [hk.px]; exact hk.upx) (by rw [hk.py]; exact hk.upy) (by rw [hk.t]; exact hk.ut.1) hx hy ht.2).mono ?_
    rintro e w' ⟨s, rfl, hs, hX', f⟩
    rw [hk.px, hk.py]
    rw [hk.px, hk.py, hk.t] at hs
    refine ⟨rfl, fun s' hs' => ?_, f.mono fun y hy => .inl (h.nC c (List.mem_of_getElem? hc) y (by simp at hy; simp [OC.blks, hy]))⟩
    have hnx : c.bB ≠ c.x := (Typ.blk hB.hd).ne (Typ.blk hX) (by simp)
    have hset := h.set (w' := w') (S := [c.x]) (c' := ⟨c.x, c.bB, c.vB, c.B, id, num, t, px, py, s⟩) hc rfl rfl rfl e1.symm ⟨hX', ⟨ws, hB.fr f (by simp; exact hnx) (fun g hg hm => by
      simp at hm
      subst hm
      exact ((Typ.own hB.own hg).ne (Typ.blk hX) (by simp)) rfl)⟩, hl⟩ (h.bits c (List.mem_of_getElem? hc)) (by simp [OC.blks]) f
    exact ⟨Fs, rfl, _, _, _, _, _, _, _, _, hset, hV.set _ ⟨e2.symm, rfl, rfl, rfl, rfl, spR_fe hk.sp hs hs', hk.ids, by rw [e2]; exact hi, ht, hx, hy⟩⟩
theorem kbforget (id : Int) (h : KBF w N k rO rN F V) (hi : U32 id) :
    Calls Tryd.prog 119 #[.pointer (some ⟨k, 0, none⟩), .int .u32 id] w (KPost w N k rO rN F (delV V (posV V id)) (.bool (decide (0 ≤ posV V id)))) := by
  obtain ⟨Fs, rfl, bO, bN, bP, v, u, vP, BP, Cs, h, hV⟩ := h
  rcases both_at hV h.upC id with ⟨h1, h2⟩ | ⟨r, c, o, h1, h2, h3, hc, ho, e1, e2, hk, hrk⟩
  · refine (forgetK_no w k bO bN bP v _ rO id h.hd h.hO hi h1).mono ?_
    rintro e w' ⟨rfl, f⟩
    unfold delV
    rw [if_pos h2, decide_eq_false (by omega)]
    exact ⟨rfl, ⟨Fs, rfl, _, _, _, _, _, _, _, _, (h.grow f).ext _ _ (Nat.le_refl _), hV⟩, f.mono (by simp)⟩
  · refine (forgetK_yes w k bO bN bP v _ rO id c.x h.hd h.hO hi hrk).mono ?_
    rintro e w' ⟨rfl, v', hO, hv, f⟩
    rw [← h2] at hO
    unfold delV
    rw [if_neg (by omega), decide_eq_true (by omega), h3, show ((r : Int)).toNat = r by omega]
    exact ⟨rfl, ⟨Fs, rfl, _, _, _, _, _, _, _, _, (h.erase hO hv f).ext _ _ (Nat.le_refl _), hV.erase r⟩, f.mono fun s hs => .inl (h.nO s hs)⟩
theorem kbaddF_was (f : Int) (h : KBF w N k rO rN F V) (hf : U32 f) (hm : f ∈ F) : Calls Tryd.prog 94 #[.pointer (some ⟨k, 0, none⟩), .int .u32 f] w fun e w' => e = .returned (.int .i64 180) ∧ Fr [] w w' := by
  obtain ⟨Fs, rfl, bO, bN, bP, v, u, vP, BP, Cs, h, hV⟩ := h
  exact addF_was w k bO bN bP u Fs rN f h.hd h.hN hf (mem_fences.1 hm)
theorem kbaddF_full (f : Int) (h : KBF w N k rO rN F V) (hT : DeB w) (hf : U32 f) (hm : ¬ f ∈ F) (hr : (rN : Int) ≤ (F.length : Int)) : Calls Tryd.prog 94 #[.pointer (some ⟨k, 0, none⟩), .int .u32 f] w fun e w' => e = .returned (.int .i64 5) ∧ Fr [] w w' := by
  obtain ⟨Fs, rfl, bO, bN, bP, v, u, vP, BP, Cs, h, hV⟩ := h
  obtain ⟨wP, hP⟩ := h.hP
  have hl := h.lP
  refine addF_full w k bO bN bP u vP Fs rN f BP wP h.hd h.hN hP hT hf (not_fences hm) fun a ha => (free_iff h.hN.up h.apart h.used (fun p hp => by rw [hl]; exact h.pos p hp) ha).2 ?_
  rw [List.length_map] at hr
  omega
theorem kbaddF_new (f : Int) (h : KBF w N k rO rN F V) (hT : DeB w) (hf : U32 f) (hm : ¬ f ∈ F) (hr : ¬ (rN : Int) ≤ (F.length : Int)) : Calls Tryd.prog 94 #[.pointer (some ⟨k, 0, none⟩), .int .u32 f] w (KPost w N k rO rN (withL F f) V (.int .i64 0)) := by
  obtain ⟨Fs, rfl, bO, bN, bP, v, u, vP, BP, Cs, h, hV⟩ := h
  obtain ⟨wP, hP⟩ := h.hP
  have hl := h.lP
  rw [List.length_map] at hr
  have hfree : ∀ a, FirstAt BP 0 false a → 0 ≤ a := fun a ha => by
    have := (free_iff h.hN.up h.apart h.used (fun p hp => by rw [hl]; exact h.pos p hp) ha).1
    rcases Int.lt_or_le a 0 with q | q
    · have := this q; omega
    · exact q
  refine (addF_new w k bO bN bP u vP Fs rN f BP wP h.hd h.hN hP hT hf (not_fences hm) hfree (by omega)).mono ?_
  rintro e w' ⟨a, u', ws', rfl, ha, hP', hN', hu, fr⟩
  obtain ⟨h1, h2⟩ := h.addF (not_fences hm) ha (hfree a ha) hN' hP' hu fr hV
  refine ⟨rfl, ⟨_, ?_, _, _, _, _, _, _, _, _, h1, h2⟩, fr.mono fun s hs => .inl ?_⟩
  · rw [withL_ins]
    exact insK_map (·.1) (fun x => x) (·.1) (fun _ => rfl) (f, a) Fs
  · rcases List.mem_cons.1 hs with rfl | hs
    · exact h.nN _ (by simp)
    · rcases List.mem_append.1 hs with hs | hs
      · exact h.nN s (by simp at hs ⊢; exact .inr hs)
      · exact h.nP s (by simp at hs ⊢; exact .inr hs)
theorem outL_none {l : List Int} {f : Int} (h : f ∉ l) : outL l f = l := by
  unfold outL
  exact List.filter_eq_self.2 fun x hx => by simp; rintro rfl; exact h hx
theorem kbdrop (f : Int) (h : KBF w N k rO rN F V) (hf : U32 f) : Calls Tryd.prog 122 #[.pointer (some ⟨k, 0, none⟩), .int .u32 f] w (KPost w N k rO rN (outL F f) (V.map (dropO f)) (.bool (decide (f ∈ F)))) := by
  obtain ⟨Fs, rfl, bO, bN, bP, v, u, vP, BP, Cs, h, hV⟩ := h
  by_cases hm : f ∈ Fs.map (·.1)
  · obtain ⟨p, hp⟩ := fence_at h.hN.up hm
    refine (kdrop_yes w N k bO bN bP v u vP rO rN Fs BP Cs f p h hf hp).mono ?_
    rintro e w' ⟨rfl, ⟨u', hN', hu⟩, hP', hC', fr⟩
    obtain ⟨h1, h2⟩ := h.dropF hp hN' hu hP' hC' fr hV
    rw [decide_eq_true hm]
    refine ⟨rfl, ⟨Fs.eraseIdx (rank Fs f), ?_, _, _, _, _, _, _, _, _, h1.ext _ _ (Nat.le_refl _), h2⟩, fr.mono fun s hs => .inl ?_⟩
    · refine upI_ext (upI_filter _ (by unfold UpI; rw [List.pairwise_map]; exact h.hN.up)) (by unfold UpI; rw [List.pairwise_map]; exact up_erase h.hN.up _) fun x => ?_
      unfold outL
      rw [List.mem_filter, List.mem_map, List.mem_map]
      constructor
      · rintro ⟨⟨q, h3, rfl⟩, h4⟩
        exact ⟨q, (mem_erase_up h.hN.up hp q).2 ⟨h3, by simpa using h4⟩, rfl⟩
      · rintro ⟨q, h3, rfl⟩
        have h4 := (mem_erase_up h.hN.up hp q).1 h3
        exact ⟨⟨q, h4.1, rfl⟩, by simpa using h4.2⟩
    · rcases List.mem_append.1 hs with hs | hs
      · rcases List.mem_append.1 hs with hs | hs
        · exact h.nN s hs
        · exact h.nP s (by simp at hs ⊢; exact .inr hs)
      · unfold rowsOf at hs
        obtain ⟨d, hd, hs⟩ := List.mem_flatMap.1 hs
        exact h.nC d hd s (by simp at hs; simp [OC.blks, hs])
  · refine (kdrop_no w k bO bN bP u Fs rN f h.hd h.hN hf (not_fences hm)).mono ?_
    rintro e w' ⟨rfl, fr⟩
    have hsame : V.map (dropO f) = V := by
      have : ∀ o ∈ V, dropO f o = o := fun o ho => by
        obtain ⟨c, hc, hk⟩ := hV.right ho
        unfold dropO
        rw [outL_none fun q => hm (hk.sub f q)]
      rw [List.map_congr_left this, List.map_id']
    rw [decide_eq_false hm, outL_none hm, hsame]
    exact ⟨rfl, ⟨Fs, rfl, _, _, _, _, _, _, _, _, (h.grow fr).ext _ _ (Nat.le_refl _), hV⟩, fr.mono (by simp)⟩
theorem kbturn_lost (id f : Int) (inn : Bool) (h : KBF w N k rO rN F V) (hi : U32 id) (hf : U32 f) (hl : posV V id < 0 ∨ ¬ f ∈ F) :
    Calls Tryd.prog (if inn then 95 else 124) #[.pointer (some ⟨k, 0, none⟩), .int .u32 id, .int .u32 f] w fun e w' => e = .returned (.tuple #[.bool false, .int .i64 181]) ∧ Fr [] w w' := by
  obtain ⟨Fs, rfl, bO, bN, bP, v, u, vP, BP, Cs, h, hV⟩ := h
  have hl' : hasId (Cs.map OC.pair) id = false ∨ hasId Fs f = false := by
    rcases hl with q | q
    · rcases both_at hV h.upC id with ⟨h1, h2⟩ | ⟨r, c, o, h1, h2, h3, _⟩
      · exact .inl h1
      · omega
    · exact .inr (not_fences q)
  cases inn
  · exact leave_lost w k bO bN bP v u _ Fs rO rN id f h.hd h.hO h.hN hi hf hl'
  · exact enter_lost w k bO bN bP v u _ Fs rO rN id f h.hd h.hO h.hN hi hf hl'
theorem kbturn_is (id f : Int) (inn : Bool) (r : Nat) (o : VO) (h : KBF w N k rO rN F V) (hi : U32 id) (hf : U32 f) (hz : posV V id = r) (ho : V[r]? = some o) (hm : f ∈ F) (hin : decide (f ∈ o.ids) = inn) :
    Calls Tryd.prog (if inn then 95 else 124) #[.pointer (some ⟨k, 0, none⟩), .int .u32 id, .int .u32 f] w (KPost w N k rO rN F V (.tuple #[.bool false, .int .i64 0])) := by
  obtain ⟨Fs, rfl, bO, bN, bP, v, u, vP, BP, Cs, h, hV⟩ := h
  obtain ⟨p, hp⟩ := fence_at h.hN.up hm
  have hpm := List.mem_of_getElem? hp
  have hpp := h.pos _ hpm
  dsimp only at hpp
  rcases both_at hV h.upC id with ⟨h1, h2⟩ | ⟨r', c, o', h1, h2, h3, hc, ho', e1, e2, hk, hrk⟩
  · omega
  · obtain rfl : r' = r := by omega
    rw [ho] at ho'
    cases ho'
    have hcm := List.mem_of_getElem? hc
    obtain ⟨hX, ⟨ws, hB⟩, hl⟩ := h.ob c hcm
    have hh := hk.has h.hN.up (fun q hq => (h.pos q hq).1) hpm
    have hself : Cs.set r' c = Cs := by
      obtain ⟨q1, q2⟩ := List.getElem?_eq_some_iff.1 hc
      rw [show c = Cs[r'] from q2.symm, List.set_getElem_self]
    cases inn
    · refine (leave_yes w k bO bN bP v u _ Fs rO rN id f c.x p c.bB c.vB c.B ws c.id c.num c.t c.px c.py c.sp h.hd h.hO h.hN hi hf hrk hp hX hB).mono ?_
      rintro e w' ⟨rfl, ⟨ws', hB'⟩, fr⟩
      rw [hin] at hh
      have hd : delB c.B p = c.B := by unfold delB; rw [hh, if_neg (by decide)]
      rw [hd] at hB'
      have hset := h.set (w' := w') (S := c.vB.ownBlock.toList) (c' := c) hc rfl rfl rfl rfl ⟨fr.blk hX (fun hm => ((Typ.blk hX).ne (Typ.own hB.own (by simpa using hm)) (by simp)) rfl), ⟨ws', hB'⟩, hl⟩ (h.bits c hcm) (fun s hs => by simp at hs; simp [OC.blks, hs]) fr
      rw [hself] at hset
      rw [hh]
      exact ⟨rfl, ⟨Fs, rfl, _, _, _, _, _, _, _, _, hset.ext _ _ (Nat.le_refl _), hV⟩, fr.mono fun s hs => .inl (h.nC c hcm s (by simp at hs; simp [OC.blks, hs]))⟩
    · refine (enter_yes w k bO bN bP v u _ Fs rO rN id f c.x p c.bB c.vB c.B ws c.id c.num c.t c.px c.py c.sp h.hd h.hO h.hN hi hf hrk hp hX hB).mono ?_
      rintro e w' ⟨rfl, ⟨ws', hB'⟩, fr⟩
      rw [hin] at hh
      have ha : addA c.B p = false := by unfold addA; rw [hh]; simp
      have hd : addB c.B p = c.B := by unfold addB; rw [ha, if_neg (by decide)]
      rw [hd] at hB'
      have hset := h.set (w' := w') (S := c.vB.ownBlock.toList) (c' := c) hc rfl rfl rfl rfl ⟨fr.blk hX (fun hm => ((Typ.blk hX).ne (Typ.own hB.own (by simpa using hm)) (by simp)) rfl), ⟨ws', hB'⟩, hl⟩ (h.bits c hcm) (fun s hs => by simp at hs; simp [OC.blks, hs]) fr
      rw [hself] at hset
      rw [ha]
      exact ⟨rfl, ⟨Fs, rfl, _, _, _, _, _, _, _, _, hset.ext _ _ (Nat.le_refl _), hV⟩, fr.mono fun s hs => .inl (h.nC c hcm s (by simp at hs; simp [OC.blks, hs]))⟩
theorem kbturn_in (id f : Int) (r : Nat) (o : VO) (h : KBF w N k rO rN F V) (hi : U32 id) (hf : U32 f) (hz : posV V id = r) (ho : V[r]? = some o) (hm : f ∈ F) (hin : decide (f ∈ o.ids) = false) :
    Calls Tryd.prog 95 #[.pointer (some ⟨k, 0, none⟩), .int .u32 id, .int .u32 f] w (KPost w N k rO rN F (V.set r { o with ids := withL o.ids f }) (.tuple #[.bool true, .int .i64 0])) := by
  obtain ⟨Fs, rfl, bO, bN, bP, v, u, vP, BP, Cs, h, hV⟩ := h
  obtain ⟨p, hp⟩ := fence_at h.hN.up hm
  have hpm := List.mem_of_getElem? hp
  have hpp := h.pos _ hpm
  dsimp only at hpp
  obtain ⟨i, rfl⟩ : ∃ i : Nat, p = (i : Int) := ⟨p.toNat, by omega⟩
  rcases both_at hV h.upC id with ⟨h1, h2⟩ | ⟨r', c, o', h1, h2, h3, hc, ho', e1, e2, hk, hrk⟩
  · omega
  · obtain rfl : r' = r := by omega
    rw [ho] at ho'
    cases ho'
    have hcm := List.mem_of_getElem? hc
    obtain ⟨hX, ⟨ws, hB⟩, hl⟩ := h.ob c hcm
    have hh := hk.has h.hN.up (fun q hq => (h.pos q hq).1) hpm
    rw [hin, hasB_nat] at hh
    have hi' : i < c.B.length := by omega
    refine (enter_yes w k bO bN bP v u _ Fs rO rN id f c.x i c.bB c.vB c.B ws c.id c.num c.t c.px c.py c.sp h.hd h.hO h.hN hi hf hrk hp hX hB).mono ?_
    rintro e w' ⟨rfl, ⟨ws', hB'⟩, fr⟩
    have ha : addA c.B (i : Int) = true := by unfold addA; rw [hasB_nat, hh]; simp; exact hi'
    rw [addB_at hi' hh] at hB'
    have hset := h.set (w' := w') (S := c.vB.ownBlock.toList) (c' := { c with B := c.B.set i true }) hc rfl rfl rfl rfl ⟨fr.blk hX (fun hm => ((Typ.blk hX).ne (Typ.own hB.own (by simpa using hm)) (by simp)) rfl), ⟨ws', hB'⟩, by simpa using hl⟩ (fun j hj => by
      dsimp only at hj
      rw [getD_set _ _ _ _ hi'] at hj
      split at hj
      · rename_i hji
        subst hji
        exact (h.used j).2 ⟨f, hpm⟩
      · exact h.bits c hcm j hj) (fun s hs => by simp at hs; simp [OC.blks, hs]) fr
    rw [ha]
    refine ⟨rfl, ⟨Fs, rfl, _, _, _, _, _, _, _, _, hset.ext _ _ (Nat.le_refl _), hV.set _ ⟨hk.id, hk.num, hk.t, hk.px, hk.py, hk.sp, ?_, hk.uid, hk.ut, hk.upx, hk.upy⟩⟩, fr.mono fun s hs => .inl (h.nC c hcm s (by simp at hs; simp [OC.blks, hs]))⟩
    dsimp only
    rw [idsOf_add h.hN.up h.apart (fun q hq => (h.pos q hq).1) hpm hi' hh, hk.ids]
theorem kbturn_out (id f : Int) (r : Nat) (o : VO) (h : KBF w N k rO rN F V) (hi : U32 id) (hf : U32 f) (hz : posV V id = r) (ho : V[r]? = some o) (hm : f ∈ F) (hin : decide (f ∈ o.ids) = true) :
    Calls Tryd.prog 124 #[.pointer (some ⟨k, 0, none⟩), .int .u32 id, .int .u32 f] w (KPost w N k rO rN F (V.set r { o with ids := outL o.ids f }) (.tuple #[.bool true, .int .i64 0])) := by
  obtain ⟨Fs, rfl, bO, bN, bP, v, u, vP, BP, Cs, h, hV⟩ := h
  obtain ⟨p, hp⟩ := fence_at h.hN.up hm
  have hpm := List.mem_of_getElem? hp
  have hpp := h.pos _ hpm
  dsimp only at hpp
  obtain ⟨i, rfl⟩ : ∃ i : Nat, p = (i : Int) := ⟨p.toNat, by omega⟩
  rcases both_at hV h.upC id with ⟨h1, h2⟩ | ⟨r', c, o', h1, h2, h3, hc, ho', e1, e2, hk, hrk⟩
  · omega
  · obtain rfl : r' = r := by omega
    rw [ho] at ho'
    cases ho'
    have hcm := List.mem_of_getElem? hc
    obtain ⟨hX, ⟨ws, hB⟩, hl⟩ := h.ob c hcm
    have hh := hk.has h.hN.up (fun q hq => (h.pos q hq).1) hpm
    rw [hin] at hh
    have hi' : i < c.B.length := by omega
    refine (leave_yes w k bO bN bP v u _ Fs rO rN id f c.x i c.bB c.vB c.B ws c.id c.num c.t c.px c.py c.sp h.hd h.hO h.hN hi hf hrk hp hX hB).mono ?_
    rintro e w' ⟨rfl, ⟨ws', hB'⟩, fr⟩
    rw [delB_at hi'] at hB'
    have hset := h.set (w' := w') (S := c.vB.ownBlock.toList) (c' := { c with B := c.B.set i false }) hc rfl rfl rfl rfl ⟨fr.blk hX (fun hm => ((Typ.blk hX).ne (Typ.own hB.own (by simpa using hm)) (by simp)) rfl), ⟨ws', hB'⟩, by simpa using hl⟩ (fun j hj => by
      dsimp only at hj
      rw [getD_set _ _ _ _ hi'] at hj
      split at hj
      · cases hj
      · exact h.bits c hcm j hj) (fun s hs => by simp at hs; simp [OC.blks, hs]) fr
    rw [hh]
    refine ⟨rfl, ⟨Fs, rfl, _, _, _, _, _, _, _, _, hset.ext _ _ (Nat.le_refl _), hV.set _ ⟨hk.id, hk.num, hk.t, hk.px, hk.py, hk.sp, ?_, hk.uid, hk.ut, hk.upx, hk.upy⟩⟩, fr.mono fun s hs => .inl (h.nC c hcm s (by simp at hs; simp [OC.blks, hs]))⟩
    dsimp only
    rw [idsOf_del h.hN.up h.apart (fun q hq => (h.pos q hq).1) hpm hi', hk.ids]
    rfl
theorem kbin (id f : Int) (h : KBF w N k rO rN F V) (hi : U32 id) (hf : U32 f) (ans : Bool) (ha : (posV V id < 0 ∧ ans = false) ∨ ∃ (r : Nat) (o : VO), posV V id = r ∧ V[r]? = some o ∧ ans = decide (f ∈ o.ids)) :
    Calls Tryd.prog 96 #[.pointer (some ⟨k, 0, none⟩), .int .u32 id, .int .u32 f] w fun e w' => e = .returned (.bool ans) ∧ Fr [] w w' := by
  obtain ⟨Fs, rfl, bO, bN, bP, v, u, vP, BP, Cs, h, hV⟩ := h
  rcases both_at hV h.upC id with ⟨h1, h2⟩ | ⟨r', c, o', h1, h2, h3, hc, ho', e1, e2, hk, hrk⟩
  · obtain rfl : ans = false := by
      rcases ha with q | ⟨r, o, q, _⟩
      · exact q.2
      · omega
    exact in_lost w k bO bN bP v u _ Fs rO rN id f h.hd h.hO h.hN hi hf (.inl h1)
  · obtain rfl : ans = decide (f ∈ o'.ids) := by
      rcases ha with q | ⟨r, o, q1, q2, q3⟩
      · omega
      · obtain rfl : r = r' := by omega
        rw [q2] at ho'
        cases ho'
        exact q3
    by_cases hm : f ∈ Fs.map (·.1)
    · obtain ⟨p, hp⟩ := fence_at h.hN.up hm
      have hcm := List.mem_of_getElem? hc
      obtain ⟨hX, ⟨ws, hB⟩, hl⟩ := h.ob c hcm
      rw [← hk.has h.hN.up (fun q hq => (h.pos q hq).1) (List.mem_of_getElem? hp)]
      exact in_yes w k bO bN bP v u _ Fs rO rN id f c.x p c.bB c.vB c.B ws c.id c.num c.t c.px c.py c.sp h.hd h.hO h.hN hi hf hrk hp hX hB
    · rw [decide_eq_false fun q => hm (hk.sub f q)]
      exact in_lost w k bO bN bP v u _ Fs rO rN id f h.hd h.hO h.hN hi hf (.inr (not_fences hm))
theorem kbinside (f : Int) (h : KBF w N k rO rN F V) (hf : U32 f) : Calls Tryd.prog 57 #[.pointer (some ⟨k, 0, none⟩), .int .u32 f] w (IdsPost w (insV V f)) := by
  obtain ⟨Fs, rfl, bO, bN, bP, v, u, vP, BP, Cs, h, hV⟩ := h
  by_cases hm : f ∈ Fs.map (·.1)
  · obtain ⟨p, hp⟩ := fence_at h.hN.up hm
    have he : insCs Cs p = insV V f := by
      have hpm := List.mem_of_getElem? hp
      have : ∀ {Cs : List OC} {V : List VO}, Al2 (Kin Fs) Cs V → insCs Cs p = insV V f := by
        intro Cs V hV
        induction hV with
        | nil => rfl
        | @cons c o l m r h2 ih =>
          unfold insCs insV at ih ⊢
          rw [List.filter_cons, List.filter_cons, r.has h.hN.up (fun q hq => (h.pos q hq).1) hpm]
          split
          · rw [List.map_cons, List.map_cons, ih, r.id]
          · exact ih
      exact this hV
    rw [← he]
    exact kinside_yes w N k bO bN bP v u vP rO rN Fs BP Cs f p h hf hp
  · have he : insV V f = [] := by
      unfold insV
      rw [List.filter_eq_nil_iff.2 fun o ho => ?_]
      · rfl
      · obtain ⟨c, hc, hk⟩ := hV.right ho
        simp
        exact fun q => hm (hk.sub f q)
    rw [he]
    exact kinside_no w k bO bN bP u Fs rN f h.hd h.hN hf (not_fences hm)
/-- An object that was told, and one of the document's: its list is new memory. -/
structure IsT (n0 : Nat) (W : World) (x : RO) (o : VO) : Prop where
  id : x.id = o.id
  num : x.num = o.num
  t : x.t = o.t
  px : x.px = o.px
  py : x.py = o.py
  sp : FE x.sp o.sp
  own : W.ownsRow 0 33 1 x.v o.ids.length (u32v o.ids)
  low : ∀ g, x.v.ownBlock = some g → n0 ≤ g
theorem IsC.told {n0 : Nat} {W : World} {x : RO} {c : OC} {o : VO} (h : IsC n0 (idsOf Fs c.B) W x c) (hk : Kin Fs c o) : IsT n0 W x o :=
  ⟨h.id.trans hk.id, h.num.trans hk.num, h.t.trans hk.t, h.px.trans hk.px, h.py.trans hk.py, by rw [h.sp]; exact hk.sp, by rw [hk.ids]; exact h.own, h.low⟩
theorem kbget_no (id : Int) (h : KBF w N k rO rN F V) (hi : U32 id) (hz : posV V id < 0) :
    Calls Tryd.prog 114 #[.pointer (some ⟨k, 0, none⟩), .int .u32 id] w fun e w' => e = .returned (.tuple #[.agg #[.int .u32 0, .int .u32 0, .int .u32 0, .int .i32 0, .int .i32 0, .float .f64 0, .slice none 0 0], .bool false]) ∧ Fr [] w w' := by
  obtain ⟨Fs, rfl, bO, bN, bP, v, u, vP, BP, Cs, h, hV⟩ := h
  rcases both_at hV h.upC id with ⟨h1, h2⟩ | ⟨r', c, o', h1, h2, h3, _⟩
  · exact kget_no w k bO bN bP v _ rO id h.hd h.hO hi h1
  · omega
theorem kbget_yes (id : Int) (r : Nat) (o : VO) (h : KBF w N k rO rN F V) (hi : U32 id) (hz : posV V id = r) (ho : V[r]? = some o) :
    Calls Tryd.prog 114 #[.pointer (some ⟨k, 0, none⟩), .int .u32 id] w fun e w' => ∃ x : RO, e = .returned (.tuple #[.agg #[.int .u32 x.id, .int .u32 x.num, .int .u32 x.t, .int .i32 x.px, .int .i32 x.py, .float .f64 x.sp, .slice x.p x.n x.c], .bool true]) ∧ IsT w.heap.size w' x o ∧ Fr [] w w' := by
  obtain ⟨Fs, rfl, bO, bN, bP, v, u, vP, BP, Cs, h, hV⟩ := h
  rcases both_at hV h.upC id with ⟨h1, h2⟩ | ⟨r', c, o', h1, h2, h3, hc, ho', e1, e2, hk, hrk⟩
  · omega
  · obtain rfl : r' = r := by omega
    rw [ho] at ho'
    cases ho'
    refine (kget_yes w N k bO bN bP v u vP rO rN Fs BP Cs c id h (List.mem_of_getElem? hc) hi hrk).mono ?_
    rintro e w' ⟨x, rfl, hx, f⟩
    exact ⟨x, rfl, hx.told hk, f⟩
def AllKP (w : World) (V : List VO) (e : Ending) (w' : World) : Prop :=
  ∃ bl v L, e = .returned (.func (.func 111) #[] #[.pointer (some ⟨bl, 0, none⟩)]) ∧ w.heap.size ≤ bl ∧ Blk w' bl #[v] 125 ∧ RowNew w 119 7 w' v L.length (encs L) ∧ Al2 (IsT w.heap.size w') L V
theorem kball (h : KBF w N k rO rN F V) : Calls Tryd.prog 52 #[.pointer (some ⟨k, 0, none⟩)] w (AllKP w V) := by
  obtain ⟨Fs, rfl, bO, bN, bP, v, u, vP, BP, Cs, h, hV⟩ := h
  refine (kall w N k bO bN bP v u vP rO rN Fs BP Cs h).mono ?_
  rintro e w' ⟨bl, v', L, rfl, h1, h2, h3, h4⟩
  refine ⟨bl, v', L, rfl, h1, h2, h3, ?_⟩
  have : ∀ {L : List RO} {Cs : List OC} {V : List VO}, Al2 (fun x c => IsC w.heap.size (idsOf Fs c.B) w' x c) L Cs → Al2 (Kin Fs) Cs V → Al2 (IsT w.heap.size w') L V := by
    intro L Cs V hL
    induction hL generalizing V with
    | nil => intro hV; cases hV; exact .nil
    | cons r h2 ih =>
      intro hV
      cases hV with
      | cons r' h3 => exact .cons (r.told r') (ih h3)
  exact this h4 hV
theorem kblen (h : KBF w N k rO rN F V) : Calls Tryd.prog 97 #[.pointer (some ⟨k, 0, none⟩)] w fun e w' => e = .returned (.int .i64 V.length) ∧ w = w' := by
  obtain ⟨Fs, rfl, bO, bN, bP, v, u, vP, BP, Cs, h, hV⟩ := h
  have := lenK_any w k bO bN bP v _ rO h.hd h.hO
  rw [List.length_map, hV.len] at this
  exact this
end
end Go.Proofs.YtgoolkgjcmdilaaDoor
end
section
namespace Go.Proofs.YtgoolkgjcmdilaaDoor
open Go.RowKit Flo
set_option linter.unusedVariables false
set_option linter.unusedSimpArgs false
theorem addB_get {B : List Bool} {p : Int} (h0 : 0 ≤ p) (h1 : p < (B.length : Int)) (i : Nat) : (addB B p).getD i false = true ↔ B.getD i false = true ∨ (i : Int) = p := by
  obtain ⟨m, rfl⟩ : ∃ m : Nat, p = (m : Int) := ⟨p.toNat, by omega⟩
  have hm : m < B.length := by omega
  cases hb : B.getD m false with
  | false =>
    rw [addB_at hm hb, getD_set _ _ _ _ hm]
    constructor
    · intro h
      split at h
      · right; omega
      · exact .inl h
    · rintro (h | h)
      · split
        · rfl
        · exact h
      · rw [if_pos (by omega)]
  | true =>
    have ha : addA B (m : Int) = false := by unfold addA; rw [hasB_nat, hb]; simp
    unfold addB
    rw [ha, if_neg (by decide)]
    constructor
    · exact .inl
    · rintro (h | h)
      · exact h
      · have : i = m := by omega
        rw [this]; exact hb
theorem addB_len (B : List Bool) (p : Int) : (addB B p).length = B.length := by unfold addB; split <;> simp
theorem addAll_get : ∀ (ps : List Int) (B : List Bool), (∀ p ∈ ps, 0 ≤ p ∧ p < (B.length : Int)) → (addAll B ps).length = B.length ∧ ∀ i : Nat, (addAll B ps).getD i false = true ↔ B.getD i false = true ∨ (i : Int) ∈ ps
  | [], B, _ => ⟨rfl, fun i => by unfold addAll; simp⟩
  | p :: ps, B, h => by
    have hp := h p (by simp)
    have ih := addAll_get ps (addB B p) (fun q hq => by rw [addB_len]; exact h q (by simp [hq]))
    have he : addAll B (p :: ps) = addAll (addB B p) ps := rfl
    rw [he]
    refine ⟨ih.1.trans (addB_len B p), fun i => ?_⟩
    rw [ih.2 i, addB_get hp.1 hp.2, List.mem_cons]
    constructor
    · rintro ((h | h) | h)
      · exact .inl h
      · exact .inr (.inl h)
      · exact .inr (.inr h)
    · rintro (h | h | h)
      · exact .inl (.inl h)
      · exact .inl (.inr h)
      · exact .inr h
def KLay2Post (w : World) (N : List Nat) (k rO rN : Nat) (F : List Int) (V : List VO) (o : VO) (e : Ending) (w' : World) : Prop :=
  (¬ UpI o.ids ∧ e = .returned (.int .i64 2) ∧ Fr [] w w') ∨
  (UpI o.ids ∧ 0 ≤ posV V o.id ∧ e = .returned (.int .i64 2) ∧ Fr [] w w') ∨
  (UpI o.ids ∧ posV V o.id < 0 ∧ (rO : Int) ≤ (V.length : Int) ∧ e = .returned (.int .i64 5) ∧ Fr [] w w') ∨
  (UpI o.ids ∧ posV V o.id < 0 ∧ ¬ (rO : Int) ≤ (V.length : Int) ∧ ¬ (∀ f ∈ o.ids, f ∈ F) ∧ e = .returned (.int .i64 181) ∧ Fr [] w w') ∨
  (UpI o.ids ∧ posV V o.id < 0 ∧ ¬ (rO : Int) ≤ (V.length : Int) ∧ (∀ f ∈ o.ids, f ∈ F) ∧ e = .returned (.int .i64 0) ∧ KBF w' (ext N w.heap.size w'.heap.size) k rO rN F (putV V o) ∧ Fr N w w')
theorem kblay (w : World) (N : List Nat) (k rO rN : Nat) (F : List Int) (V : List VO) (x : RO) (o : VO) (h : KBF w N k rO rN F V) (hx : Is w x o) (hid : U32 o.id) (ht : U32 o.t) (hpx : I32 o.px) (hpy : I32 o.py) (hu : ∀ f ∈ o.ids, U32 f) (hI : o.ids.length ≤ 70368744177664) :
    Calls Tryd.prog 117 #[.pointer (some ⟨k, 0, none⟩), .agg #[.int .u32 x.id, .int .u32 x.num, .int .u32 x.t, .int .i32 x.px, .int .i32 x.py, .float .f64 x.sp, .slice x.p x.n x.c]] w (KLay2Post w N k rO rN F V o) := by
  obtain ⟨Fs, rfl, bO, bN, bP, v, u, vP, BP, Cs, h, hV⟩ := h
  have hz : (hasId (Cs.map OC.pair) o.id = true → 0 ≤ posV V o.id) ∧ (hasId (Cs.map OC.pair) o.id = false → posV V o.id < 0) := by
    rcases both_at hV h.upC o.id with ⟨h1, h2⟩ | ⟨r, c, o', h1, h2, h3, _⟩
    · exact ⟨fun q => absurd (h1.symm.trans q) (by decide), fun _ => h2⟩
    · exact ⟨fun _ => by omega, fun q => absurd (h1.symm.trans q) (by decide)⟩
  have hlen : (Cs.map OC.pair).length = V.length := by rw [List.length_map, hV.len]
  have hall : (∀ f ∈ o.ids, hasId Fs f = true) ↔ ∀ f ∈ o.ids, f ∈ Fs.map (·.1) := ⟨fun q f hf => mem_fences.2 (q f hf), fun q f hf => mem_fences.1 (q f hf)⟩
  refine (klay w k bO bN bP v u _ Fs rO rN x o h.hd h.hO h.hN hx hid hu hI).mono ?_
  rintro e w' hp
  unfold KLayPost at hp
  rw [hlen] at hp
  rcases hp with ⟨a, rfl, f⟩ | ⟨a, b, rfl, f⟩ | ⟨a, b, c, rfl, f⟩ | ⟨a, b, c, d, rfl, f⟩ | ⟨a, b, c, d, rfl, y, bB, vB, ws, v', hX, hB, hO', hv, n1, n2, n3, f⟩
  · exact .inl ⟨a, rfl, f⟩
  · exact .inr (.inl ⟨a, hz.1 b, rfl, f⟩)
  · exact .inr (.inr (.inl ⟨a, hz.2 b, by omega, rfl, f⟩))
  · exact .inr (.inr (.inr (.inl ⟨a, hz.2 b, by omega, fun q => d (hall.2 q), rfl, f⟩)))
  · have hpl : ∀ f ∈ o.ids, (f, plOf Fs f) ∈ Fs := fun f hf => by
      obtain ⟨p, hp⟩ := (has_at h.hN.up f).1 (d f hf)
      have : plOf Fs f = p := by unfold plOf; rw [hp]; rfl
      rw [this]
      exact List.mem_of_getElem? hp
    have hps : ∀ p ∈ o.ids.map (plOf Fs), 0 ≤ p ∧ p < ((List.replicate rN false).length : Int) := fun p hp => by
      obtain ⟨f, hf, rfl⟩ := List.mem_map.1 hp
      have := h.pos _ (hpl f hf)
      simpa using this
    obtain ⟨hl, hg⟩ := addAll_get (o.ids.map (plOf Fs)) (List.replicate rN false) hps
    have hz0 : ∀ i, (List.replicate rN false).getD i false = false := fun i => by
      rw [List.getD_eq_getElem?_getD, List.getElem?_replicate]
      split <;> rfl
    have hget : ∀ i : Nat, (addAll (List.replicate rN false) (o.ids.map (plOf Fs))).getD i false = true ↔ ∃ f ∈ o.ids, plOf Fs f = (i : Int) := fun i => by
      rw [hg i, hz0 i, List.mem_map]
      simp
    generalize addAll (List.replicate rN false) (o.ids.map (plOf Fs)) = B at hB hl hget
    have hp := h.put (c := ⟨y, bB, vB, B, o.id, o.num, o.t, o.px, o.py, o.sp⟩) b hO' hv ⟨hX, ⟨ws, hB⟩, by simpa using hl⟩ (fun i hi => by
      obtain ⟨f, hf, he⟩ := (hget i).1 hi
      exact (h.used i).2 ⟨f, he ▸ hpl f hf⟩) n1 n2 n3 f
    have hids : o.ids = idsOf Fs B := by
      refine upI_ext a (idsOf_up h.hN.up _) fun g => ?_
      rw [idsOf_mem]
      constructor
      · intro hg
        have h0 := (h.pos _ (hpl g hg)).1
        dsimp only at h0
        exact ⟨plOf Fs g, hpl g hg, (hget _).2 ⟨g, hg, by omega⟩⟩
      · rintro ⟨p, h1, h2⟩
        have h0 := (h.pos _ h1).1
        dsimp only at h0
        obtain ⟨f, hf, he⟩ := (hget _).1 h2
        have h3 := hpl f hf
        rw [he, show ((p.toNat : Nat) : Int) = p by omega] at h3
        rw [h.apart _ _ _ h1 h3]
        exact hf
    refine .inr (.inr (.inr (.inr ⟨a, hz.2 b, by omega, hall.1 d, rfl, ⟨Fs, rfl, _, _, _, _, _, _, _, _, hp, ?_⟩, f.mono fun s hs => .inl (h.nO s hs)⟩)))
    rw [putV_ins]
    exact Al2.ins OC.id (·.id) (fun a b r => r.id) hV (show Kin Fs ⟨y, bB, vB, B, o.id, o.num, o.t, o.px, o.py, o.sp⟩ o from ⟨rfl, rfl, rfl, rfl, rfl, FE.refl _, hids, hid, ht, hpx, hpy⟩)
end Go.Proofs.YtgoolkgjcmdilaaDoor
end
