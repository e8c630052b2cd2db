/- hash.node: a node's number, of its kids' numbers. -/
import Derived.Test.YtcacgbdnegmfnaaHashT
import Derived.Test.YtcacgbdnegmfnaaFlat
namespace Go.Proofs.Ytcacgbdnegmfnaa.Ha
open Go Go.RowKit Go.Proofs.Ytcacgbdnegmfnaa.Pl Go.Proofs.Ytcacgbdnegmfnaa.Tr
set_option linter.unusedVariables false

def attrsH (h : BitVec 64) : List (ByteArray × ByteArray) → BitVec 64
  | [] => h
  | a :: al => attrsH (mix (mix h (textH a.1)) (textH a.2)) al
def kidsH (h : BitVec 64) : List (BitVec 64) → BitVec 64
  | [] => h
  | x :: xs => kidsH (mix h x) xs
theorem attrsH_append (h : BitVec 64) (a b : List (ByteArray × ByteArray)) : attrsH h (a ++ b) = attrsH (attrsH h a) b := by
  induction a generalizing h with
  | nil => rfl
  | cons x a ih => exact ih _
theorem kidsH_append (h : BitVec 64) (a b : List (BitVec 64)) : kidsH h (a ++ b) = kidsH (kidsH h a) b := by
  induction a generalizing h with
  | nil => rfl
  | cons x a ih => exact ih _
theorem attrsH_take {h : BitVec 64} {al : List (ByteArray × ByteArray)} {j : Nat} {a : ByteArray × ByteArray} (ha : al[j]? = some a) : mix (mix (attrsH h (al.take j)) (textH a.1)) (textH a.2) = attrsH h (al.take (j + 1)) := by
  rw [List.take_add_one, ha, attrsH_append]; rfl
theorem kidsH_take {h : BitVec 64} {l : List (BitVec 64)} {j : Nat} {x : BitVec 64} (hx : l[j]? = some x) : mix (kidsH h (l.take j)) x = kidsH h (l.take (j + 1)) := by
  rw [List.take_add_one, hx, kidsH_append]; rfl
/-- A node's number. -/
def headH (k : Int) (n s : ByteArray) (al : List (ByteArray × ByteArray)) : BitVec 64 := mix (mix (mix (bv k) (textH n)) (textH s)) (bv al.length)
def nodeH (k : Int) (n s : ByteArray) (al : List (ByteArray × ByteArray)) (hs : List (BitVec 64)) : BitVec 64 := kidsH (mix (attrsH (headH k n s al) al) (bv hs.length)) hs
set_option maxHeartbeats 4000000 in
set_option maxRecDepth 100000 in
theorem node_calls (k : Int) (n s : ByteArray) (al : List (ByteArray × ByteArray)) (A : Option Addr) (ac : Nat) (v4 : Value) (hs : List (BitVec 64)) (B : Option Addr) (bc : Nat) (w : World)
    (hn : n.size ≤ 6000) (hsz : s.size ≤ 6000) (ha : ∀ a ∈ al, a.1.size ≤ 6000 ∧ a.2.size ≤ 6000) (hal : al.length ≤ 1000000) (hhl : hs.length ≤ 1000000) (hv4 : v4 = .slice none 0 0)
    (hA : IsAttrs w w.heap.size al A ac) (hB : ∀ i x, hs[i]? = some x → ∃ g, B = some ⟨g, 0, none⟩ ∧ w.cell? ⟨g, i, none⟩ = some (.int .u64 (un x))) :
    Calls Try.prog 52 #[.agg #[.int .i64 k, .string n, .string s, .slice A al.length ac, v4], .slice B hs.length bc] w fun e w' => e = .returned (.int .u64 (un (nodeH k n s al hs))) ∧ Below w.heap.size w w' := by
  subst hv4
  have hb := alloc_new w (.cells #[.int .i64 k, .string n, .string s, .slice A al.length ac, .slice none 0 0] 25)
  have HBE : Hid (Below w.heap.size w (w.alloc (.cells #[.int .i64 k, .string n, .string s, .slice A al.length ac, .slice none 0 0] 25))) := Lib.hid ((Below.refl _ w).alloc (Nat.le_refl _) _)
  have HBX := Lib.hid hb
  have HA := Lib.hid hA
  have HB := Lib.hid hB
  have HAA := Lib.hid ha
  clear hb hA hB ha
  have hwk : IntKind.u64.wrap k = un (bv k) := wrap_un k
  have hwa : IntKind.u64.wrap (al.length : Int) = un (bv al.length) := wrap_un _
  have hwh : IntKind.u64.wrap (hs.length : Int) = un (bv hs.length) := wrap_un _
  go_enter Try.func52, Try.ntmps52
  go_wp2_with fail
  generalize w.alloc (.cells #[.int .i64 k, .string n, .string s, .slice A al.length ac, .slice none 0 0] 25) = w1 at HBE HBX ⊢
  refine (text_calls n (by omega) w1).mono ?_
  rintro e w2 ⟨rfl, hb2⟩
  have HB2 : Hid (Below w.heap.size w w2) := Lib.hid (HBE.out.trans (hb2.mono HBE.out.size))
  have HX2 := Lib.hid ((hb2.block _ (lt_of_block HBX.out)).trans HBX.out)
  clear hb2
  have c2 : w2.cell? ⟨w.heap.size, 2, none⟩ = some (.string s) := by rw [block_cell HX2.out]; rfl
  go_wp2_with fail
  refine (Ct.mix_calls _ _ _ _ rfl rfl w2).mono ?_
  rintro e _ ⟨rfl, rfl⟩
  go_wp2_with fail
  refine (text_calls s (by omega) w2).mono ?_
  rintro e w3 ⟨rfl, hb3⟩
  have HB3 : Hid (Below w.heap.size w w3) := Lib.hid (HB2.out.trans (hb3.mono HB2.out.size))
  have HX3 := Lib.hid ((hb3.block _ (lt_of_block HX2.out)).trans HX2.out)
  clear hb3 c2
  have c3 : w3.cell? ⟨w.heap.size, 3, none⟩ = some (.slice A al.length ac) := by rw [block_cell HX3.out]; rfl
  go_wp2_with fail
  refine (Ct.mix_calls _ _ _ _ rfl rfl w3).mono ?_
  rintro e _ ⟨rfl, rfl⟩
  go_wp2_with fail
  refine (Ct.mix_calls _ _ _ _ rfl rfl w3).mono ?_
  rintro e _ ⟨rfl, rfl⟩
  have HH : Hid (mix (mix (mix (bv k) (textH n)) (textH s)) (bv al.length) = attrsH (headH k n s al) (al.take 0)) := Lib.hid rfl
  rw [HH.out]
  go_wp2_with fail
  go_loopw [5, 32] (fun h i wr => ∃ j : Nat, j ≤ al.length ∧ h = .int .u64 (un (attrsH (headH k n s al) (al.take j))) ∧ i = .int .i64 (j : Int) ∧ Below w.heap.size w wr) (fun _ i _ => al.length - (intOf i).toNat)
  case atStart => exact ⟨0, Nat.zero_le _, rfl, rfl, HB3.out⟩
  case round =>
    obtain ⟨j, hj, rfl, rfl, hbw⟩ := hrel
    have HBW := Lib.hid hbw
    rcases Nat.lt_or_ge j al.length with hl | hl
    · obtain ⟨a, haj⟩ : ∃ a, al[j]? = some a := ⟨_, List.getElem?_eq_getElem hl⟩
      obtain ⟨_, _, _, hcell⟩ := HA.out
      obtain ⟨ab, ao, rfl, hab, hac⟩ := hcell (by rintro rfl; simp at hl)
      obtain ⟨d0, d1⟩ := hac j a haj
      have e0 : wr.cell? ⟨ab, ao + j * 2, none⟩ = some (.string a.1) := (hbw.cell hab).trans d0
      have e1 : wr.cell? ⟨ab, ao + j * 2 + 1, none⟩ = some (.string a.2) := (hbw.cell hab).trans d1
      obtain ⟨hz1, hz2⟩ := HAA.out a (List.mem_of_getElem? haj)
      have hjl : (j : Int) < (al.length : Int) := by omega
      have HT : Hid _ := Lib.hid (attrsH_take (h := headH k n s al) haj)
      have HN2 := Lib.hid (alloc_new wr (.cells #[.string a.1, .string a.2] 51))
      have HBW2 : Hid (Below w.heap.size w (wr.alloc (.cells #[.string a.1, .string a.2] 51))) := Lib.hid (hbw.alloc hbw.size _)
      clear hbw d0 d1 hac hcell haj
      obtain ⟨x, y⟩ := a
      dsimp only at e0 e1 hz1 hz2
      go_wp2_with fail
      generalize wr.alloc (.cells #[.string x, .string y] 51) = w5 at HN2 HBW2 ⊢
      refine (text_calls x (by omega) w5).mono ?_
      rintro e w6 ⟨rfl, hb6⟩
      have HB6 : Hid (Below w.heap.size w w6) := Lib.hid (HBW2.out.trans (hb6.mono HBW2.out.size))
      have HX6 := Lib.hid ((hb6.block _ (lt_of_block HN2.out)).trans HN2.out)
      clear hb6
      have c6 : w6.cell? ⟨wr.heap.size, 1, none⟩ = some (.string y) := by rw [block_cell HX6.out]; rfl
      go_wp2_with fail
      refine (Ct.mix_calls _ _ _ _ rfl rfl w6).mono ?_
      rintro e _ ⟨rfl, rfl⟩
      go_wp2_with fail
      refine (text_calls y (by omega) w6).mono ?_
      rintro e w7 ⟨rfl, hb7⟩
      have HB7 : Hid (Below w.heap.size w w7) := Lib.hid (HB6.out.trans (hb7.mono HB6.out.size))
      clear hb7 c6
      go_wp2_with fail
      refine (Ct.mix_calls _ _ _ _ rfl rfl w7).mono ?_
      rintro e _ ⟨rfl, rfl⟩
      rw [HT.out]
      go_wp2_with fail
      go_roundw
      case rel => exact ⟨j + 1, by omega, rfl, by go_num, HB7.out⟩
      case measure => simp [intOf]; omega
    · obtain rfl : j = al.length := by omega
      rw [List.take_length]
      clear hbw c3
      go_wp2_with fail
      refine (Ct.mix_calls _ _ _ _ rfl rfl wr).mono ?_
      rintro e _ ⟨rfl, rfl⟩
      have HH2 : Hid (mix (attrsH (headH k n s al) al) (bv hs.length) = kidsH (mix (attrsH (headH k n s al) al) (bv hs.length)) (hs.take 0)) := Lib.hid rfl
      rw [HH2.out]
      generalize hgd : mix (attrsH (headH k n s al) al) (bv hs.length) = h0 at *
      go_wp2_with fail
      obtain ⟨wq, hwq⟩ : ∃ q, q = wr := ⟨wr, rfl⟩
      subst hwq
      go_loopw [5, 54] (fun h i wr => ∃ j : Nat, j ≤ hs.length ∧ h = .int .u64 (un (kidsH h0 (hs.take j))) ∧ i = .int .i64 (j : Int) ∧ wr = wq) (fun _ i _ => hs.length - (intOf i).toNat)
      case atStart => exact ⟨0, Nat.zero_le _, rfl, rfl, by first | rfl | trivial⟩
      case round =>
        obtain ⟨j, hj, rfl, rfl, rfl⟩ := hrel
        rcases Nat.lt_or_ge j hs.length with hl2 | hl2
        · obtain ⟨x, hx⟩ : ∃ x, hs[j]? = some x := ⟨_, List.getElem?_eq_getElem hl2⟩
          obtain ⟨gb, rfl, hgc⟩ := HB.out j x hx
          have e0 : wr.cell? ⟨gb, j, none⟩ = some (.int .u64 (un x)) := (HBW.out.cell (cell_lt hgc).1).trans hgc
          have hjl : (j : Int) < (hs.length : Int) := by omega
          have HT : Hid _ := Lib.hid (kidsH_take (h := h0) hx)
          clear hgc hx
          go_wp2_with fail
          refine (Ct.mix_calls _ _ _ _ rfl rfl wr).mono ?_
          rintro e _ ⟨rfl, rfl⟩
          rw [HT.out]
          go_wp2_with fail
          go_roundw
          case rel => exact ⟨j + 1, by omega, rfl, by go_num, by first | rfl | trivial⟩
          case measure => simp [intOf]; omega
        · obtain rfl : j = hs.length := by omega
          rw [List.take_length]
          go_wp2_with fail
          go_ret
          exact ⟨by unfold nodeH; rw [hgd]; rfl, HBW.out⟩
end Go.Proofs.Ytcacgbdnegmfnaa.Ha
