/- hash.Of: a tree's number. -/
import Derived.Test.YtcacgbdnegmfnaaHashA
namespace Go.Proofs.Ytcacgbdnegmfnaa.Ha
open Go Go.RowKit Go.Proofs.Ytcacgbdnegmfnaa.Pl Go.Proofs.Ytcacgbdnegmfnaa.Tr
set_option linter.unusedVariables false
mutual
theorem okT_sh (id d : Nat) (par dep pl : Int) : ∀ t, okT d t → ∀ x ∈ preT id par dep pl t, shP x.t
  | .mk k n s al ks, h, x, hx => by
    unfold preT at hx
    unfold okT at h
    rcases List.mem_cons.1 hx with rfl | hx
    · exact ⟨by have := h.2.2.1; show n.size ≤ 6000; omega, h.2.2.2.1, fun a ha => by have := h.2.2.2.2.1 a ha; omega, by have := h.2.1; show al.length ≤ 1000000; omega⟩
    · exact okL_sh _ (d + 1) _ _ _ ks h.2.2.2.2.2 x hx
theorem okL_sh (id d : Nat) (par dep pl : Int) : ∀ ts, okL d ts → ∀ x ∈ preL id par dep pl ts, shP x.t
  | [], _, x, hx => by unfold preL at hx; simp at hx
  | t :: ts, h, x, hx => by
    unfold preL at hx
    unfold okL at h
    rcases List.mem_append.1 hx with hx | hx
    · exact okT_sh _ d _ _ _ t h.1 x hx
    · exact okL_sh _ d _ _ _ ts h.2 x hx
end
set_option maxHeartbeats 2000000 in
set_option maxRecDepth 100000 in
theorem of_calls (t : Nd) (v0 v1 v2 v3 v4 : Value) (w : World) (h : IsTree w w.heap.size t v0 v1 v2 v3 v4) (hN : cntT t ≤ 1000000) (ht : attT t) (hsh : ∀ x ∈ allP t, shP x.t) :
    Calls Try.prog 28 #[.agg #[v0, v1, v2, v3, v4]] w fun e w' => e = .returned (.int .u64 (un (treeH t))) ∧ Below w.heap.size w w' := by
  have HT : Hid (IsTree (w.alloc (.cells #[v0, v1, v2, v3, v4] 25)) (w.alloc (.cells #[v0, v1, v2, v3, v4] 25)).heap.size t v0 v1 v2 v3 v4) := Lib.hid (h.keep (fun p hp => World.cell?_of_block (Below.heap_alloc w _ p.block hp)) (by simp))
  have HB0 : Hid (Below w.heap.size w (w.alloc (.cells #[v0, v1, v2, v3, v4] 25))) := Lib.hid ((Below.refl _ w).alloc (Nat.le_refl _) _)
  have HSH := Lib.hid hsh
  clear h hsh
  go_enter Try.func28, Try.ntmps28
  go_wp2_with fail
  refine (all_calls t v0 v1 v2 v3 v4 _ HT.out hN ht HSH.out).mono ?_
  rintro e w2 ⟨g, rfl, h1, h2, h3, h4⟩
  have c0 : w2.cell? ⟨g, 0, none⟩ = some (.int .u64 (un (treeH t))) := h3 0 _ (allP_zero t)
  have HB2 : Hid (Below w.heap.size w w2) := Lib.hid (HB0.out.trans (h4.mono HB0.out.size))
  have hpos := cntT_pos t
  clear h1 h2 h3 h4
  go_wp2_with fail
  go_ret
  exact ⟨rfl, HB2.out⟩
end Go.Proofs.Ytcacgbdnegmfnaa.Ha
