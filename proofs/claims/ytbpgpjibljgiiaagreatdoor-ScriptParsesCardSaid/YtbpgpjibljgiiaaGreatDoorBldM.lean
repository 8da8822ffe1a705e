/-
  Script: the library's builder, written.
  Script: the library's builder: what holds of it between two calls.
-/
import Derived.Test.YtbpgpjibljgiiaaGreatDoorLnD
import Derived.Shelf.Strings.BuilderK
namespace Go.Proofs.YtbpgpjibljgiiaaGreatDoor
open Go.RowKit
set_option linter.unusedVariables false
def lays167_ren : Go.Shelf.Ren := ⟨fun | 156 => 55 | 165 => 76 | 166 => 23 | 167 => 25 | 169 => 30 | 240 => 51 | 241 => 90 | 276 => 71 | 277 => 96 | n => n, fun | 31 => 46 | 9 => 9 | 3 => 3 | 4 => 4 | 0 => 0 | 20 => 20 | 72 => 73 | 76 => 74 | 70 => 71 | 37 => 62 | 75 => 28 | 127 => 123 | 164 => 105 | 5 => 5 | 80 => 86 | n => n, fun | n => n⟩
theorem lays167 : Go.Proofs.Lays.n167 Tryz.prog lays167_ren := {
  mixed := by kernel_rfl
  f167 := Tryz.func25.trans (congrArg some (by kernel_rfl))
  f240 := Tryz.func51.trans (congrArg some (by kernel_rfl))
  f276 := Tryz.func71.trans (congrArg some (by kernel_rfl))
  t0 := Tryz.underlying0
  a0 := Tryz.isAgg0
  z0 := Tryz.sizeOf0
  v0 := Tryz.zeroValue0
  t4 := Tryz.underlying4
  a4 := Tryz.isAgg4
  z4 := Tryz.sizeOf4
  v4 := Tryz.zeroValue4
  t5 := Tryz.underlying5
  a5 := Tryz.isAgg5
  z5 := Tryz.sizeOf5
  v5 := Tryz.zeroValue5
  t9 := Tryz.underlying9
  a9 := Tryz.isAgg9
  z9 := Tryz.sizeOf9
  v9 := Tryz.zeroValue9
  t20 := Tryz.underlying20
  a20 := Tryz.isAgg20
  z20 := Tryz.sizeOf20
  v20 := Tryz.zeroValue20
  t37 := Tryz.underlying62
  a37 := Tryz.isAgg62
  z37 := Tryz.sizeOf62
  v37 := Tryz.zeroValue62
  t70 := Tryz.underlying71
  a70 := Tryz.isAgg71
  z70 := Tryz.sizeOf71
  v70 := Tryz.zeroValue71
  t72 := Tryz.underlying73
  a72 := Tryz.isAgg73
  z72 := Tryz.sizeOf73
  v72 := Tryz.zeroValue73
  t75 := Tryz.underlying28
  a75 := Tryz.isAgg28
  z75 := Tryz.sizeOf28
  v75 := Tryz.zeroValue28
  t164 := Tryz.underlying105
  a164 := Tryz.isAgg105
  z164 := Tryz.sizeOf105
  v164 := Tryz.zeroValue105
}
theorem extra167 : Builder.Extra Tryz.prog lays167_ren := {
  sizeBuilder := by kernel_rfl
  liesBuilder := by kernel_rfl
  t5 := Tryz.underlying5
  a5 := Tryz.isAgg5
  z5 := Tryz.sizeOf5
  v5 := Tryz.zeroValue5
  infoByte := by kernel_rfl
  cellsByte := by kernel_rfl
  sizeByte := by kernel_rfl
  neB5 := by decide }
theorem bbyte (B b : Nat) (bs : List Value) (c : Int) (w : World) (h : Lib.IsBuilderF 73 5 B b bs w) (hlen : bs.length + 1 ≤ 140737488355328) (hBw : B ≤ w.heap.size) :
    Calls Tryz.prog 25 #[.pointer (some ⟨b, 0, none⟩), .int .u8 c] w fun e w' => e = .returned .nilIface ∧ (Lib.BuilderAtF 73 5 B b (.pointer (some ⟨b, 0, none⟩)) (bs ++ [.int .u8 c]) w' ∧ Below B w w' ∧ Lib.OthersKept 5 (some b) w w') :=
  Any.Builder_WriteByte_k (ρ := lays167_ren) lays167 extra167 B b bs c w h hlen hBw
theorem bwrite (B b : Nat) (bs : List Value) (s : ByteArray) (w : World) (h : Lib.IsBuilderF 73 5 B b bs w) (hlen : bs.length + s.size ≤ 140737488355328) (hBw : B ≤ w.heap.size) :
    Calls Tryz.prog 23 #[.pointer (some ⟨b, 0, none⟩), .string s] w fun e w' => e = .returned (.tuple #[.int .i64 s.size, .nilIface]) ∧ (Lib.BuilderAtF 73 5 B b (.pointer (some ⟨b, 0, none⟩)) (bs ++ Lib.strCells s) w' ∧ Below B w w' ∧ Lib.OthersKept 5 (some b) w w') :=
  Any.Builder_WriteString_k (ρ := Tryz.lays156_ren) { Tryz.lays156 with } Tryz.Builder_Extra_156 B b bs s w h hlen hBw
end Go.Proofs.YtbpgpjibljgiiaaGreatDoor
namespace Go.Proofs.YtbpgpjibljgiiaaGreatDoor
open Go.RowKit
set_option linter.unusedVariables false
set_option linter.unusedSimpArgs false
/-- A builder that holds these bytes; nothing of it is older than n0. -/
def BQ (W : World) (n0 b : Nat) (l : List UInt8) : Prop := Lib.IsBuilderF 73 5 n0 b (Lib.byteCells l) W ∧ n0 ≤ W.heap.size
/-- What a call at the builder leaves. -/
def BF (n0 b : Nat) (W W' : World) : Prop := Below n0 W W' ∧ Lib.OthersKept 5 (some b) W W'
theorem BF.fr {w W W' : World} {b : Nat} (f : Fr [] w W) (h : BF w.heap.size b W W') : Fr [] w W' :=
  ⟨h.1.os.trans f.os, h.1.tape.trans f.tape, h.1.output.trans f.output, Nat.le_trans f.size h.1.size, fun k hk hn => (h.1.block k hk).trans (f.block k hk hn)⟩
theorem BF.blk {n0 b g : Nat} {W W' : World} {cs : Array Value} {t : TypeId} (h : BF n0 b W W') (hb : Blk W g cs t) (ht : t ≠ 5) (hg : g ≠ b) : Blk W' g cs t :=
  h.2 g _ hb (by simp; exact hg) (fun c fz e => by cases e; exact ht rfl)
theorem atF_fr {T e : TypeId} {B b : Nat} {p : Value} {bs : List Value} {W W' : World} (h : Lib.BuilderAtF T e B b p bs W) (f : Fr [] W W') : Lib.BuilderAtF T e B b p bs W' := by
  obtain ⟨hB, v, hb, hown, hne⟩ := h
  refine ⟨hB, v, (f.block b (Array.getElem?_eq_some_iff.1 hb).1 (by simp)).trans hb, hown.kept (row := none) ⟨f.os, f.tape, f.output, f.size, fun k hk _ => f.block k hk (by simp)⟩ ?_, hne⟩
  cases hv : v.ownBlock <;> simp
theorem BQ.fr {W W' : World} {n0 b : Nat} {l : List UInt8} (h : BQ W n0 b l) (f : Fr [] W W') : BQ W' n0 b l :=
  ⟨h.1.imp (fun q => atF_fr q f) (fun q => atF_fr q f), Nat.le_trans h.2 f.size⟩
theorem BQ.new {W : World} {n0 : Nat} (hn : n0 ≤ W.heap.size) : BQ (W.alloc (.cells #[.pointer none, .slice none 0 0] 73)) n0 W.heap.size [] :=
  ⟨.inl ⟨hn, .slice none 0 0, Blk.new _ _ _, World.ownsRowF_nil _ _ _ _, by simp [Value.ownBlock]⟩, by simp; omega⟩
theorem byteCells_app (l : List UInt8) (s : ByteArray) : Lib.byteCells l ++ Lib.strCells s = Lib.byteCells (l ++ s.data.toList) := by
  unfold Lib.byteCells Lib.strCells
  rw [List.map_append]
theorem byteCells_one (l : List UInt8) (c : UInt8) : Lib.byteCells l ++ [.int .u8 (c.toNat : Int)] = Lib.byteCells (l ++ [c]) := by
  unfold Lib.byteCells
  rw [List.map_append]
  rfl
theorem byteCells_len (l : List UInt8) : (Lib.byteCells l).length = l.length := by unfold Lib.byteCells; rw [List.length_map]
theorem bq_write {W : World} {n0 b : Nat} {l : List UInt8} (h : BQ W n0 b l) (s : ByteArray) (hl : l.length + s.size ≤ 140737488355328) :
    Calls Tryz.prog 23 #[.pointer (some ⟨b, 0, none⟩), .string s] W fun e w' => e = .returned (.tuple #[.int .i64 s.size, .nilIface]) ∧ BQ w' n0 b (l ++ s.data.toList) ∧ BF n0 b W w' :=
  (bwrite n0 b _ s W h.1 (by rw [byteCells_len]; exact hl) h.2).mono fun e w' ⟨h1, h2, h3, h4⟩ => ⟨h1, ⟨by rw [← byteCells_app]; exact .inr h2, Nat.le_trans h.2 h3.size⟩, h3, h4⟩
theorem bq_byte {W : World} {n0 b : Nat} {l : List UInt8} (h : BQ W n0 b l) (c : UInt8) (hl : l.length + 1 ≤ 140737488355328) :
    Calls Tryz.prog 25 #[.pointer (some ⟨b, 0, none⟩), .int .u8 (c.toNat : Int)] W fun e w' => e = .returned .nilIface ∧ BQ w' n0 b (l ++ [c]) ∧ BF n0 b W w' :=
  (bbyte n0 b _ (c.toNat : Int) W h.1 (by rw [byteCells_len]; exact hl) h.2).mono fun e w' ⟨h1, h2, h3, h4⟩ => ⟨h1, ⟨by rw [← byteCells_one]; exact .inr h2, Nat.le_trans h.2 h3.size⟩, h3, h4⟩
theorem bq_len {W : World} {n0 b : Nat} {l : List UInt8} (h : BQ W n0 b l) : Calls Tryz.prog 29 #[.pointer (some ⟨b, 0, none⟩)] W fun e w' => e = .returned (.int .i64 l.length) ∧ w' = W :=
  (Tryz.Builder_Len_f n0 b _ W h.1).mono fun e w' ⟨h1, h2⟩ => ⟨by rw [h1, byteCells_len], h2⟩
theorem bq_str {W : World} {n0 b : Nat} {l : List UInt8} (h : BQ W n0 b l) : Calls Tryz.prog 30 #[.pointer (some ⟨b, 0, none⟩)] W fun e w' => e = .returned (.string ⟨l.toArray⟩) ∧ Below n0 W w' :=
  (Tryz.Builder_String_any_f n0 b l W h.1 h.2).mono fun e w' ⟨h1, _, h3⟩ => ⟨h1, h3⟩
end Go.Proofs.YtbpgpjibljgiiaaGreatDoor
