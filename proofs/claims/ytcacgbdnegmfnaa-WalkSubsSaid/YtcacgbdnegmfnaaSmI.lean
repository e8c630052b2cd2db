/- topiarylaw00.SameInts and walk.Within. -/
import Derived.Test.YtcacgbdnegmfnaaLawW
namespace Go.Proofs.Ytcacgbdnegmfnaa.Tr
open Go Go.RowKit Go.Proofs.Ytcacgbdnegmfnaa.Wk
set_option linter.unusedVariables false
/-- A slice's numbers. -/
def NumsAt (w : World) (A : Option Addr) (l : List Nat) : Prop := ∀ (i x : Nat), l[i]? = some x → ∃ g, A = some ⟨g, 0, none⟩ ∧ g < w.heap.size ∧ w.cell? ⟨g, i, none⟩ = some (.int .i64 (x : Int))
theorem NumsAt.keep {w w' : World} {A : Option Addr} {l : List Nat} (h : NumsAt w A l) (hb : Below w.heap.size w w') : NumsAt w' A l := fun i x hx => by
  obtain ⟨g, h1, h2, h3⟩ := h i x hx
  exact ⟨g, h1, Nat.lt_of_lt_of_le h2 hb.size, (hb.cell h2).trans h3⟩
set_option maxHeartbeats 4000000 in
set_option maxRecDepth 100000 in
theorem sameInts_calls (l : List Nat) (A B : Option Addr) (ca cb : Nat) (w : World) (hN : l.length ≤ 1000000) (hA : NumsAt w A l) (hB : NumsAt w B l) :
    Calls Try.prog 37 #[.slice A l.length ca, .slice B l.length cb] w fun e w' => e = .returned (.bool true) ∧ Below w.heap.size w w' := by
  have HA := Lib.hid hA
  have HB := Lib.hid hB
  clear hA hB
  go_enter Try.func37, Try.ntmps37
  go_wp2_with fail
  go_loopw [5] (fun i wr => ∃ j : Nat, j ≤ l.length ∧ i = .int .i64 (j : Int) ∧ Below w.heap.size w wr) (fun i _ => l.length - (intOf i).toNat)
  case atStart => exact ⟨0, Nat.zero_le _, rfl, Below.refl _ _⟩
  case round =>
    obtain ⟨j, hj, rfl, hb⟩ := hrel
    have HBW := Lib.hid hb
    clear hb
    rcases Nat.lt_or_ge j l.length with hl | hl
    · have hx : l[j]? = some l[j] := List.getElem?_eq_getElem hl
      obtain ⟨ga, rfl, hga, qa⟩ := (HA.out.keep HBW.out) j _ hx
      obtain ⟨gb, rfl, hgb, qb⟩ := (HB.out.keep HBW.out) j _ hx
      clear hx
      generalize l[j] = x at qa qb
      have hxx : ((x : Int) != (x : Int)) = false := by simp
      have hjl : (j : Int) < (l.length : Int) := by omega
      go_wp2_with fail
      go_quiet (fail)
      go_wp2_with fail
      go_roundw
      case rel => exact ⟨j + 1, by omega, by go_num, below_drewN HBW.out _⟩
      case measure => simp [intOf]; omega
    · obtain rfl : j = l.length := by omega
      go_wp2_with fail
      go_ret
      exact ⟨rfl, HBW.out⟩
def withinB (t : Nd) (id of_ : Int) : Bool := decide (0 ≤ id ∧ id < cntT t ∧ 0 ≤ of_ ∧ of_ ≤ id ∧ id - of_ < ((finOf (allP t) of_.toNat).1 : Nat))
set_option maxHeartbeats 4000000 in
set_option maxRecDepth 100000 in
theorem within_calls (t : Nd) (g cap : Nat) (id of_ : Int) (w : World) (h : IRow g (allP t) (finOf (allP t)) w) (hN : cntT t ≤ 1000000) :
    Calls Try.prog 22 #[.slice (some ⟨g, 0, none⟩) (cntT t : Nat) cap, .int .i64 id, .int .i64 of_] w fun e w' => e = .returned (.bool (withinB t id of_)) ∧ w = w' := by
  have H := Lib.hid h
  clear h
  have HU : Hid (withinB t id of_ = decide (0 ≤ id ∧ id < cntT t ∧ 0 ≤ of_ ∧ of_ ≤ id ∧ id - of_ < ((finOf (allP t) of_.toNat).1 : Nat))) := Lib.hid rfl
  go_enter Try.func22, Try.ntmps22
  by_cases h0 : (0 : Int) ≤ id
  · by_cases h1 : id < (cntT t : Int)
    · by_cases h2 : (0 : Int) ≤ of_
      · by_cases h3 : of_ ≤ id
        · obtain ⟨i, rfl⟩ : ∃ i : Nat, id = i := ⟨id.toNat, by omega⟩
          obtain ⟨o, rfl⟩ : ∃ o : Nat, of_ = o := ⟨of_.toNat, by omega⟩
          have ho : o < cntT t := by omega
          have ho2 : (o : Int) < (cntT t : Int) := by omega
          obtain ⟨x, hx⟩ : ∃ x, (allP t)[o]? = some x := ⟨_, List.getElem?_eq_getElem (by rw [allP_length]; omega)⟩
          obtain ⟨av, _, _, _, d1, _⟩ := H.out.at_ o x hx
          have hw : IntKind.i64.wrap ((i : Int) - (o : Int)) = (i : Int) - (o : Int) := IntWalk.i64_in _ (by omega)
          rw [Int.toNat_natCast] at HU
          generalize (finOf (allP t) o).1 = sz at HU d1
          clear hx
          by_cases h4 : (i : Int) - (o : Int) < (sz : Int)
          · go_wp2_with fail
            go_ret
            exact ⟨by rw [HU.out, decide_eq_true (by omega)]; rfl, rfl⟩
          · have h4' : decide ((i : Int) - (o : Int) < (sz : Int)) = false := by simpa using h4
            go_wp2_with fail
            go_ret
            exact ⟨by rw [HU.out, decide_eq_false (by omega)]; rfl, rfl⟩
        · have h3' : decide (of_ ≤ id) = false := by simpa using h3
          go_wp2_with fail
          go_ret
          exact ⟨by rw [HU.out, decide_eq_false (by omega)]; rfl, rfl⟩
      · have h2' : decide ((0 : Int) ≤ of_) = false := by simpa using h2
        go_wp2_with fail
        go_ret
        exact ⟨by rw [HU.out, decide_eq_false (by omega)]; rfl, rfl⟩
    · have h1' : decide (id < (cntT t : Int)) = false := by simpa using h1
      go_wp2_with fail
      go_ret
      exact ⟨by rw [HU.out, decide_eq_false (by omega)]; rfl, rfl⟩
  · have h0' : decide ((0 : Int) ≤ id) = false := by simpa using h0
    go_wp2_with fail
    go_ret
    exact ⟨by rw [HU.out, decide_eq_false (by omega)]; rfl, rfl⟩
end Go.Proofs.Ytcacgbdnegmfnaa.Tr
