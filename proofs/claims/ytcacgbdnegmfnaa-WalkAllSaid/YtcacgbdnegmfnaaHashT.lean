/- hash.Text: a text's number. -/
import Derived.Test.YtcacgbdnegmfnaaBitH
import Derived.Test.YtcacgbdnegmfnaaFr
import Derived.Lib.BufferWrite
import Derived.Deep.RegionLaw
import Derived.BigRegion
import Derived.Laws.CopyOwn
import Derived.WalkLawsBesides
import Derived.WalkSpells
namespace Go.Proofs.Ytcacgbdnegmfnaa.Ha
open Go Go.RowKit Go.Proofs.Ytcacgbdnegmfnaa.Pl Go.Proofs.Ytcacgbdnegmfnaa.Tr
set_option linter.unusedVariables false

theorem run_copy8 {P : Program} (w : World) (dT sT ty elem : TypeId) (g dCap : Nat) (s : ByteArray) (cur : Array Value) (t : TypeId)
    (hu : P.underlying dT = some (.slice elem)) (hs : (P.info? elem).map (·.size) = some 1) (hg : w.heap[g]? = some (.cells cur t (0, 0))) (hc : cur.size = 8) :
    (Builtin.copy_ #[dT, sT] ty #[.slice (some ⟨g, 0, none⟩) 8 dCap, .string s]).run P w =
      .ok (goInt (min s.size 8)) (w.setRow g (Lib.byteCells (s.data.toList.take 8) ++ cur.toList.drop (min s.size 8)).toArray) := by
  have hsz : s.data.toList.length = s.size := (Lib.size_eq s).symm
  have hlen : (Lib.byteCells (s.data.toList.take 8)).length = min s.size 8 := by rw [Lib.byteCells_length, List.length_take, hsz]; omega
  have hst := run_storeCells_at P g 0 t (Lib.byteCells (s.data.toList.take 8)) 0 cur w hg (by rw [hlen]; omega) (Lib.byteCells_one _)
  have htk : List.take (min s.size 8) (List.map (fun b : UInt8 => Value.int IntKind.u8 (b.toNat : Int)) s.data.toList) = Lib.byteCells (s.data.toList.take 8) := by
    unfold Lib.byteCells
    rw [List.map_take]
    rcases Nat.le_total s.size 8 with h | h
    · rw [Nat.min_eq_left h, List.take_of_length_le (by rw [List.length_map, hsz]; omega), List.take_of_length_le (by rw [List.length_map, hsz]; omega)]
    · rw [Nat.min_eq_right h]
  rw [hlen] at hst
  simp only [Nat.add_zero] at hst
  cases hq : P.info? elem with
  | none => simp [hq] at hs
  | some i =>
    have hmin : Nat.min s.size 8 = min s.size 8 := rfl
    simp [Builtin.copy_, run_underlying hu, Builtin.lenOf, Builtin.firstCells, sizeOf, typeInfo, hq, hmin]
    rw [htk, hst]
    simp [Result.andThen]
    congr 1
    omega
/-- Byte i, or 0 where there is none. -/
def byteAt (s : ByteArray) (i : Nat) : Int := match s.data.toList[i]? with | some b => (b.toNat : Int) | none => 0
theorem byteAt_le (s : ByteArray) (i : Nat) : 0 ≤ byteAt s i ∧ byteAt s i ≤ 255 := by
  unfold byteAt
  cases s.data.toList[i]? with
  | none => dsimp only; omega
  | some b => have := b.toNat_lt; dsimp only; omega
/-- The eight bytes from i on as a number. -/
def num8 (s : ByteArray) (i : Nat) : BitVec 64 := bv (ofS (byteAt s i) (byteAt s (i + 1)) (byteAt s (i + 2)) (byteAt s (i + 3)) (byteAt s (i + 4)) (byteAt s (i + 5)) (byteAt s (i + 6)) (byteAt s (i + 7)))
/-- The number when k times eight bytes are mixed in. -/
def textK (s : ByteArray) : Nat → BitVec 64
  | 0 => bv s.size
  | k + 1 => mix (textK s k) (num8 s (8 * k))
/-- A text's number. -/
def textH (s : ByteArray) : BitVec 64 := textK s ((s.size + 7) / 8)
theorem ofS_range (b0 b1 b2 b3 b4 b5 b6 b7 : Int) (h0 : 0 ≤ b0 ∧ b0 ≤ 255) (h1 : 0 ≤ b1 ∧ b1 ≤ 255) (h2 : 0 ≤ b2 ∧ b2 ≤ 255) (h3 : 0 ≤ b3 ∧ b3 ≤ 255) (h4 : 0 ≤ b4 ∧ b4 ≤ 255) (h5 : 0 ≤ b5 ∧ b5 ≤ 255) (h6 : 0 ≤ b6 ∧ b6 ≤ 255) (h7 : 0 ≤ b7 ∧ b7 ≤ 255) :
    0 ≤ ofS b0 b1 b2 b3 b4 b5 b6 b7 ∧ ofS b0 b1 b2 b3 b4 b5 b6 b7 ≤ 18446744073709551615 := by
  unfold ofS
  omega
theorem num8_un (s : ByteArray) (i : Nat) : ofS (byteAt s i) (byteAt s (i + 1)) (byteAt s (i + 2)) (byteAt s (i + 3)) (byteAt s (i + 4)) (byteAt s (i + 5)) (byteAt s (i + 6)) (byteAt s (i + 7)) = un (num8 s i) := by
  have h := ofS_range _ _ _ _ _ _ _ _ (byteAt_le s i) (byteAt_le s (i + 1)) (byteAt_le s (i + 2)) (byteAt_le s (i + 3)) (byteAt_le s (i + 4)) (byteAt_le s (i + 5)) (byteAt_le s (i + 6)) (byteAt_le s (i + 7))
  exact (un_bv h.1 h.2).symm
theorem byteAt_extract (s : ByteArray) (at_ i : Nat) : byteAt (s.extract at_ s.size) i = byteAt s (at_ + i) := by
  unfold byteAt
  have : (s.extract at_ s.size).data.toList[i]? = s.data.toList[at_ + i]? := by
    have hs : s.size = s.data.size := rfl
    rw [Array.getElem?_toList, Array.getElem?_toList, ByteArray.data_extract, Array.getElem?_extract, hs]
    split
    · rfl
    · rw [Array.getElem?_eq_none (by omega)]
  rw [this]
/-- The row behind the copying. -/
theorem row8 (s : ByteArray) : (Lib.byteCells (s.data.toList.take 8) ++ (#[Value.int .u8 0, .int .u8 0, .int .u8 0, .int .u8 0, .int .u8 0, .int .u8 0, .int .u8 0, .int .u8 0] : Array Value).toList.drop (min s.size 8)).toArray =
    #[.int .u8 (byteAt s 0), .int .u8 (byteAt s 1), .int .u8 (byteAt s 2), .int .u8 (byteAt s 3), .int .u8 (byteAt s 4), .int .u8 (byteAt s 5), .int .u8 (byteAt s 6), .int .u8 (byteAt s 7)] := by
  unfold byteAt
  rw [Lib.size_eq]
  generalize s.data.toList = l
  match l with
  | [] => rfl
  | [_] => rfl
  | [_, _] => rfl
  | [_, _, _] => rfl
  | [_, _, _, _] => rfl
  | [_, _, _, _, _] => rfl
  | [_, _, _, _, _, _] => rfl
  | [_, _, _, _, _, _, _] => rfl
  | a :: b :: c :: d :: e :: f :: g :: h :: r =>
    have : min (a :: b :: c :: d :: e :: f :: g :: h :: r).length 8 = 8 := by simp
    rw [this]; rfl
/-- copy of a string into eight bytes that are 0, as a step of a region that draws. -/
theorem step_copy8 {P : Program} {ops : Array Oper} {o : Oper} {a : Act} {w : World} {K : Act → World → Prop} {Q : Exit → Act → World → Prop} {E : Prop}
    (hgd : o.guard = none) (d x : Operand) (dT sT : TypeId) (hop : o.op = Op.call { callee := Callee.builtin Builtin.copy, args := #[d, x], argTypes := #[dT, sT] })
    (elem : TypeId) (hu : P.underlying dT = some (.slice elem)) (hs : (P.info? elem).map (·.size) = some 1) (g dCap : Nat) (s : ByteArray) (t : TypeId)
    (hd : a.eval d = .slice (some ⟨g, 0, none⟩) 8 dCap) (hx : a.eval x = .string s) (hg : w.heap[g]? = some (.cells #[.int .u8 0, .int .u8 0, .int .u8 0, .int .u8 0, .int .u8 0, .int .u8 0, .int .u8 0, .int .u8 0] t (0, 0))) (B : Nat) (w0 : World) (hb : Below B w0 w) (hBg : B ≤ g)
    (hK : ∀ n w', Hid (w'.heap[g]? = some (.cells #[.int .u8 (byteAt s 0), .int .u8 (byteAt s 1), .int .u8 (byteAt s 2), .int .u8 (byteAt s 3), .int .u8 (byteAt s 4), .int .u8 (byteAt s 5), .int .u8 (byteAt s 6), .int .u8 (byteAt s 7)] t (0, 0))) → Below B w0 w' → K (a.put o.dst (goInt n)) w') :
    if Region.wanted o (yielded ops a.tmps) = true then Oper.wp P o a w K Q else E := by
  have hw : Region.wanted o (yielded ops a.tmps) = true := by simp [Region.wanted, hgd]
  rw [if_pos hw]
  have hr := run_copy8 (P := P) w dT sT o.type elem g dCap s _ t hu hs hg rfl
  rw [row8] at hr
  unfold Oper.wp
  simp [execOp, hop, resolve, invoke, builtin, hd, hx, hr, Result.andThen]
  exact hK _ _ (Lib.hid (setRow_heap w g _ _ t _ hg)) (below_setRow hb hBg _)
theorem int_u64 (n : Nat) (h : n ≤ 9223372036854775807) : IntKind.u64.wrap (n : Int) = un (bv (n : Int)) := wrap_un _
set_option maxHeartbeats 4000000 in
set_option maxRecDepth 100000 in
theorem text_calls (s : ByteArray) (hs : s.size ≤ 4611686018427387904) (w : World) :
    Calls Try.prog 31 #[.string s] w fun e w' => e = .returned (.int .u64 (un (textH s))) ∧ Below w.heap.size w w' := by
  have hws : IntKind.u64.wrap (s.size : Int) = un (textK s 0) := wrap_un _
  go_enter Try.func31, Try.ntmps31
  go_wp2_with fail
  go_loopw [3, 4] (fun h i wr => ∃ k : Nat, h = .int .u64 (un (textK s k)) ∧ i = .int .i64 ((8 * k : Nat) : Int) ∧ 8 * k < s.size + 8 ∧ Below w.heap.size w wr) (fun _ i _ => s.size + 8 - (intOf i).toNat)
  case atStart => exact ⟨0, rfl, rfl, by omega, Below.refl _ _⟩
  case round =>
    obtain ⟨k, rfl, rfl, hk, hb⟩ := hrel
    have HB := Lib.hid hb
    clear hb
    rcases Nat.lt_or_ge (8 * k) s.size with hl | hl
    · generalize hat : 8 * k = at_ at *
      have hl2 : (at_ : Int) < (s.size : Int) := by omega
      have hl3 : (at_ : Int) ≤ (s.size : Int) := by omega
      have HBLK : Hid (((wr.alloc (.cells #[.int .u8 0, .int .u8 0, .int .u8 0, .int .u8 0, .int .u8 0, .int .u8 0, .int .u8 0, .int .u8 0] 88)).drew).heap[wr.heap.size]? = some (.cells #[.int .u8 0, .int .u8 0, .int .u8 0, .int .u8 0, .int .u8 0, .int .u8 0, .int .u8 0, .int .u8 0] 88 (0, 0))) := Lib.hid (alloc_new wr _)
      go_wp2_with fail
      have HBW : Hid (Below w.heap.size w ((wr.alloc (.cells #[.int .u8 0, .int .u8 0, .int .u8 0, .int .u8 0, .int .u8 0, .int .u8 0, .int .u8 0, .int .u8 0] 88)).drew)) := Lib.hid (HB.out.alloc HB.out.size _).drew
      have hbs := HB.out.size
      go_region_law (refine step_copy8 rfl (.tmp 15) (.tmp 18) 79 9 rfl 5 Try.underlying79 (by kernel_rfl) wr.heap.size 8 (s.extract at_ s.size) 88 rfl rfl HBLK.out w.heap.size w HBW.out hbs ?_; intro nn w4 hg4 hb4)
      have e0 := hg4.out
      rw [byteAt_extract, byteAt_extract, byteAt_extract, byteAt_extract, byteAt_extract, byteAt_extract, byteAt_extract, byteAt_extract, Nat.add_zero] at e0
      have c0 : w4.cell? ⟨wr.heap.size, 0, none⟩ = some (.int .u8 (byteAt s at_)) := by rw [block_cell e0]; rfl
      have c1 : w4.cell? ⟨wr.heap.size, 1, none⟩ = some (.int .u8 (byteAt s (at_ + 1))) := by rw [block_cell e0]; rfl
      have c2 : w4.cell? ⟨wr.heap.size, 2, none⟩ = some (.int .u8 (byteAt s (at_ + 2))) := by rw [block_cell e0]; rfl
      have c3 : w4.cell? ⟨wr.heap.size, 3, none⟩ = some (.int .u8 (byteAt s (at_ + 3))) := by rw [block_cell e0]; rfl
      have c4 : w4.cell? ⟨wr.heap.size, 4, none⟩ = some (.int .u8 (byteAt s (at_ + 4))) := by rw [block_cell e0]; rfl
      have c5 : w4.cell? ⟨wr.heap.size, 5, none⟩ = some (.int .u8 (byteAt s (at_ + 5))) := by rw [block_cell e0]; rfl
      have c6 : w4.cell? ⟨wr.heap.size, 6, none⟩ = some (.int .u8 (byteAt s (at_ + 6))) := by rw [block_cell e0]; rfl
      have c7 : w4.cell? ⟨wr.heap.size, 7, none⟩ = some (.int .u8 (byteAt s (at_ + 7))) := by rw [block_cell e0]; rfl
      have HB4 := Lib.hid hb4
      clear e0 hg4 hb4 HBW HBLK
      have HNU := Lib.hid (num8_un s at_)
      have HTK : Hid (mix (textK s k) (num8 s at_) = textK s (k + 1)) := Lib.hid (by rw [← hat]; rfl)
      go_wp2_with fail
      refine (Ct.of_calls _ _ _ _ _ _ _ _ (byteAt_le s at_) (byteAt_le s (at_ + 1)) (byteAt_le s (at_ + 2)) (byteAt_le s (at_ + 3)) (byteAt_le s (at_ + 4)) (byteAt_le s (at_ + 5)) (byteAt_le s (at_ + 6)) (byteAt_le s (at_ + 7)) w4).mono ?_
      rintro e w5 ⟨rfl, hb5⟩
      rw [HNU.out]
      have HB5 : Hid (Below w.heap.size w w5) := Lib.hid (HB4.out.trans (hb5.mono HB4.out.size))
      clear hb5 c0 c1 c2 c3 c4 c5 c6 c7
      go_wp2_with fail
      refine (Ct.mix_calls _ _ _ _ rfl rfl w5).mono ?_
      rintro e _ ⟨rfl, rfl⟩
      rw [HTK.out]
      go_wp2_with fail
      go_roundw
      case rel => exact ⟨k + 1, rfl, by go_num, by omega, HB5.out⟩
      case measure => simp [intOf]; omega
    · have hke : (s.size + 7) / 8 = k := by omega
      have hl2 : (s.size : Int) ≤ ((8 * k : Nat) : Int) := by omega
      go_wp2_with fail
      go_ret
      exact ⟨by unfold textH; rw [hke]; rfl, HB.out⟩
end Go.Proofs.Ytcacgbdnegmfnaa.Ha
