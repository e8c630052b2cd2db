/- TokenTags, walked. -/
import Derived.Test.YtpbdkloohhjapaaGreatTkPv
namespace Go.Proofs.YtpbdkloohhjapaaGreat.Wk
open Go Go.RowKit Go.Proofs.YtpbdkloohhjapaaGreat.Tk Go.Proofs.YtpbdkloohhjapaaGreat.Tr
set_option linter.unusedVariables false
set_option maxRecDepth 100000

theorem dig_sl (i : Nat) (hi : i < 8) (w : World) : (Instr.slice 9 (.string ⟨#[48, 49, 50, 51, 52, 53, 54, 55]⟩) (some (.int .i64 (i : Int))) (some (.int .i64 ((i : Int) + 1))) none).run Tryz.prog w = .ok (.string (digB.extract i (i + 1))) w := by
  have := run_slice_string (P := Tryz.prog) w 9 digB .i64 .i64 (i : Int) ((i : Int) + 1) Tryz.underlying9 (by omega) (by omega) (by have : digB.size = 8 := rfl; omega)
  rw [show ((i : Int)).toNat = i by omega, show ((i : Int) + 1).toNat = i + 1 by omega] at this
  exact this
theorem val_sl (k : Nat) (hk : k < 5) (w : World) : (Instr.slice 9 (.string ⟨#[118, 97, 108, 117, 101]⟩) none (some (.int .i64 ((k : Int) + 1))) none).run Tryz.prog w = .ok (.string (valB.extract 0 (k + 1))) w := by
  have h : k = 0 ∨ k = 1 ∨ k = 2 ∨ k = 3 ∨ k = 4 := by omega
  rcases h with rfl | rfl | rfl | rfl | rfl <;> (show _ = _; kernel_rfl)
def acT (start : Bool) (cs : List Chk) : List (ByteArray × ByteArray) := if start then cs.map atC else []
/-- What is known at the loop's head. -/
structure TtI (start : Bool) (tb : Nat) (n : ByteArray) (cs : List Chk) (v : Value) (w0 wr : World) : Prop where
  tok : wr.heap[tb]? = some (.cells #[.int .i64 (kindOf start), .string n, .string ⟨#[]⟩, v, .bool false] 25 (0, 0))
  row : wr.ownsRow (tb + 1) 34 2 v (acT start cs).length (cellsA2 (acT start cs))
  bel : Below w0.heap.size w0 wr
  lt : w0.heap.size ≤ tb ∧ tb < wr.heap.size
theorem TtI.keep {start : Bool} {tb : Nat} {n : ByteArray} {cs : List Chk} {v : Value} {w0 wr w' : World} (h : TtI start tb n cs v w0 wr) (hb : Below wr.heap.size wr w') : TtI start tb n cs v w0 w' := by
  refine ⟨(hb.block _ h.lt.2).trans h.tok, ⟨h.row.1, ?_⟩, h.bel.trans (hb.mono h.bel.size), h.lt.1, Nat.lt_of_lt_of_le h.lt.2 hb.size⟩
  rcases h.row.2 with h2 | ⟨g, cap, cur, h1, h5, h6, h7⟩
  · exact .inl h2
  · exact .inr ⟨g, cap, cur, h1, h5, (hb.block g (h.row.lt g (by rw [h1]; rfl)).2).trans h6, h7⟩
theorem TtI.push {tb : Nat} {n : ByteArray} {cs : List Chk} {c : Chk} {v v' : Value} {w0 w6 w8 : World} (h : TtI true tb n cs v w0 w6)
    (hr : w8.ownsRow (tb + 1) 34 2 v' ((acT true cs).length + 1) (cellsA2 (acT true cs) ++ [.string c.nm, .string c.v])) (g8 : (w6.alloc (.cells #[.string c.nm, .string c.v] 34)).grownBy w8 v.ownBlock) :
    TtI true tb n (cs ++ [c]) v' w0 (w8.setCell ⟨tb, 3, none⟩ v') := by
  obtain ⟨o1, o2⟩ := h.lt
  have s8 := g8.size
  have e7 : (w6.alloc (.cells #[.string c.nm, .string c.v] 34)).heap.size = w6.heap.size + 1 := by simp
  have hv : some tb ≠ v.ownBlock := fun e => by have := (h.row.lt tb e.symm).1; omega
  have htok := (g8.block tb (by omega) hv).trans ((Below.heap_alloc w6 _ tb o2).trans h.tok)
  have b8 : Below w0.heap.size w0 w8 := (h.bel.alloc h.bel.size _).grown g8 (by omega) (fun k hk => by have := (h.row.lt k hk).1; omega)
  refine ⟨heap_setCell_same w8 tb 3 _ _ v' htok, ?_, b8.setCell (p := ⟨tb, 3, none⟩) o1 _, o1, by simp; omega⟩
  have el : (acT true (cs ++ [c])).length = (acT true cs).length + 1 := by simp [acT]
  have ec : cellsA2 (acT true (cs ++ [c])) = cellsA2 (acT true cs) ++ [.string c.nm, .string c.v] := by simp [acT, cellsA2, atC]
  rw [el, ec]
  refine ⟨hr.1, ?_⟩
  rcases hr.2 with h2 | ⟨g, cap, cur, h1, h5, h6, h7⟩
  · exact .inl h2
  · exact .inr ⟨g, cap, cur, h1, h5, (Below.heap_setCell _ _ _ g (by show g ≠ tb; omega)).trans h6, h7⟩
theorem TtI.skip {tb : Nat} {n : ByteArray} {cs : List Chk} (c : Chk) {v : Value} {w0 wr : World} (h : TtI false tb n cs v w0 wr) : TtI false tb n (cs ++ [c]) v w0 wr := ⟨h.tok, h.row, h.bel, h.lt⟩
theorem cells_at : ∀ (acc : List (ByteArray × ByteArray)) (i : Nat) (x : ByteArray × ByteArray), acc[i]? = some x → (cellsA2 acc)[i * 2]? = some (.string x.1) ∧ (cellsA2 acc)[i * 2 + 1]? = some (.string x.2)
  | [], i, x, h => by simp at h
  | y :: r, 0, x, h => by simp at h; subst h; exact ⟨rfl, rfl⟩
  | y :: r, i + 1, x, h => by
    have ih := cells_at r i x (by simpa using h)
    have e : cellsA2 (y :: r) = .string y.1 :: .string y.2 :: cellsA2 r := rfl
    rw [e, show (i + 1) * 2 = i * 2 + 1 + 1 by omega]
    exact ih
theorem row_attrs {W : World} {R : Nat} {v : Value} {acc : List (ByteArray × ByteArray)} (h : W.ownsRow R 34 2 v acc.length (cellsA2 acc)) (hsz : ∀ x ∈ acc, x.1.size ≤ maxLen ∧ x.2.size ≤ maxLen) :
    ∃ A ac, v = .slice A acc.length ac ∧ IsAttrs W W.heap.size acc A ac := by
  rcases h.2 with ⟨hv, hnil⟩ | ⟨g, cap, cur, hv, hg, hblk, hc1, hc2, hc3, hx⟩
  · have h0 : acc = [] := List.eq_nil_of_length_eq_zero hnil
    subst h0
    exact ⟨none, 0, hv, isAttrs_nil _ _⟩
  · refine ⟨some ⟨g, 0, none⟩, cap, hv, hc1, hc2, hsz, fun _ => ⟨g, 0, rfl, lt_of_block hblk, fun i x hi => ?_⟩⟩
    obtain ⟨k1, k2⟩ := cells_at acc i x hi
    have hl : i < acc.length := by
      rcases Nat.lt_or_ge i acc.length with h | h
      · exact h
      · rw [List.getElem?_eq_none h] at hi; cases hi
    rw [← hx, List.getElem?_take_of_lt (by omega)] at k1
    rw [← hx, List.getElem?_take_of_lt (by omega)] at k2
    rw [Nat.zero_add, block_cell hblk, block_cell hblk, ← Array.getElem?_toList, ← Array.getElem?_toList]
    exact ⟨k1, k2⟩
theorem app_nil (s : ByteArray) : s ++ tailN = s := by apply Sr.bytes_eq.1; simp [tailN]
theorem same_own (o : Tok) (A B : Option Addr) (ac bc : Nat) (W : World) (hN : o.attrs.length ≤ 1000000) (hA : IsAttrs W W.heap.size o.attrs A ac) (hB : IsAttrs W W.heap.size o.attrs B bc) :
    Calls Tryz.prog 12 #[.agg #[.int .i64 o.kind, .string o.name, .string o.text, .slice A o.attrs.length ac, .bool o.raw], .agg #[.int .i64 o.kind, .string o.name, .string o.text, .slice B o.attrs.length bc, .bool o.raw]] W fun e w' => e = .returned (.bool true) ∧ Below W.heap.size W w' := by
  have := same_token o o A B ac bc W hN hA hB
  rw [decide_eq_true rfl] at this
  exact this
set_option maxHeartbeats 8000000 in
theorem tokenTags (name : Int) (a : Option Addr) (len cap : Nat) (zs : List Int) (quote : Int) (end_ : Bool) (w : World) (u0 : (Lit.int .i64 name).wf = true) (hrow : IsRow .i64 w a len cap zs) (u2 : (Lit.int .i64 quote).wf = true) :
    Calls Tryz.prog 4 #[.int .i64 name, .slice a len cap, .int .i64 quote, .bool end_] w fun e w' => e = .returned (.bool true) ∧ Below w.heap.size w w' := by
  have P1 := Lib.hid (placeN_calls name 5 (by decide) (by decide) 5 rfl)
  obtain ⟨n, X1, hn, hnz⟩ := nm_ix (placeN name 5) (placeN_lt name (by decide))
  generalize placeN name 5 = pn at *
  have HN := Lib.hid hn
  have HNZ := Lib.hid hnz
  have HROW := Lib.hid hrow
  have g1 := alloc_new w (.cells #[.int .i64 1, .string n, .string ⟨#[]⟩, .slice none 0 0, .bool false] 25)
  have g0 := (Below.refl _ w).alloc (Nat.le_refl _) (.cells #[.int .i64 1, .string n, .string ⟨#[]⟩, .slice none 0 0, .bool false] 25)
  clear hn hrow u0 u2
  cases end_ with
  | false =>
    have HT : Hid (TtI true w.heap.size n [] (.slice none 0 0) w (w.alloc (.cells #[.int .i64 1, .string n, .string ⟨#[]⟩, .slice none 0 0, .bool false] 25))) := Lib.hid ⟨alloc_new w _, ⟨rfl, .inl ⟨rfl, rfl⟩⟩, (Below.refl _ w).alloc (Nat.le_refl _) _, Nat.le_refl _, by simp⟩
    obtain ⟨base, hbase⟩ : ∃ base, (⟨#[60]⟩ : ByteArray) ++ n = base := ⟨_, rfl⟩
    have HBASE : Hid (preB true ++ n = base) := Lib.hid hbase
    have HBZ : Hid (base.size ≤ 7) := Lib.hid (by rw [← hbase, ByteArray.size_append]; have : (⟨#[60]⟩ : ByteArray).size = 1 := rfl; omega)
    have hc1 : (w.alloc (.cells #[.int .i64 1, .string n, .string ⟨#[]⟩, .slice none 0 0, .bool false] 25)).frozen? ⟨w.heap.size, 0, none⟩ = false := Lib.frozen_of_heap g1 0
    clear g0
    go_enter Tryz.func4, Tryz.ntmps4
    go_wp2_with fail
    refine (P1.out _).mono ?_
    rintro e w1 ⟨rfl, rfl⟩
    go_wp2_with fail

    generalize w.alloc (.cells #[.int .i64 1, .string n, .string ⟨#[]⟩, .slice none 0 0, .bool false] 25) = w1 at *
    obtain ⟨tb, htb⟩ : ∃ tb, w.heap.size = tb := ⟨_, rfl⟩
    rw [htb] at HT ⊢
    clear hc1 g1 hbase P1 X1 hnz
    go_loopw [10, 12] (fun t10 t12 wr => ∃ (cs : List Chk) (v : Value), Hid (Made cs) ∧ Hid (cs.length ≤ len) ∧ t10 = .string (srcC base cs) ∧ t12 = .int .i64 (cs.length : Int) ∧ Hid (TtI true tb n cs v w wr)) (fun _ t12 _ => 8 - (intOf t12).toNat)
    case atStart => exact ⟨[], _, Lib.hid ⟨fun c h => by simp at h, fun j c h => by simp at h, fun c h => by simp at h, Nat.zero_le _⟩, Lib.hid (Nat.zero_le _), rfl, rfl, HT⟩
    case round =>
      clear HT
      obtain ⟨cs, v, HM, HL, rfl, rfl, HT⟩ := hrel
      obtain ⟨i, hi⟩ : ∃ i, cs.length = i := ⟨_, rfl⟩
      have HI := Lib.hid hi
      have hi8 : i ≤ 8 := by have := HM.out.len; omega
      rw [hi] at HL ⊢
      clear hi
      by_cases c1 : i < len
      · have q1 : (i : Int) < (len : Int) := by omega
        by_cases c2 : i < 8
        · have q2 : (i : Int) < 8 := by omega
          obtain ⟨lb, lo, z, rfl, hlb, hlc, hz0, hz1⟩ := row_at HROW.out c1
          go_wp2_with fail
          obtain ⟨wd, hwd⟩ : ∃ wd, wd = wr.drew := ⟨_, rfl⟩
          have HTD : Hid (TtI true tb n cs v w wd) := Lib.hid (hwd ▸ HT.out.keep (Below.refl _ wr).drew)
          have hcl : wd.cell? ⟨lb, lo + i, none⟩ = some (.int .i64 z) := (HTD.out.bel.cell (p := ⟨lb, lo + i, none⟩) hlb).trans hlc
          have rl := cell_regrown hcl
          have HCL0 := Lib.hid hlc
          have hwi : IntKind.i64.wrap ((i : Int) + 1) = (i : Int) + 1 := IntWalk.i64_in _ (by omega)
          have PV := Lib.hid (placeN_calls z 5 (by decide) (by decide) 5 rfl)
          have hpv := placeN_lt z (n := 5) (by decide)
          obtain ⟨v1, v2, v3⟩ := vl_ok _ hpv
          obtain ⟨pv, hpve⟩ : ∃ pv, placeN z 5 = pv := ⟨_, rfl⟩
          rw [hpve] at PV hpv v1 v2 v3
          have hwv : IntKind.i64.wrap ((pv : Int) + 1) = (pv : Int) + 1 := IntWalk.i64_in _ (by omega)
          have ds := dig_sl i c2
          have vs := val_sl pv hpv
          have hnm : (⟨#[107]⟩ : ByteArray) ++ digB.extract i (i + 1) = nmK i := rfl
          obtain ⟨m0, m1, m2⟩ := nmK_ok i c2
          generalize valB.extract 0 (pv + 1) = vv at *
          have zd : (digB.extract i (i + 1)).size ≤ 8 := ext_size digB i (i + 1)
          clear hpve hcl
          refine Kr.wp_region_T 14 [14] [(9, fun v _ => v = .int .i64 (pv : Int)), (13, fun v W => ∃ b, v = .pointer (some ⟨b, 0, none⟩) ∧ wd.heap.size ≤ b ∧ W.heap[b]? = some (.cells #[.string ⟨#[]⟩, .string ⟨#[]⟩] 34 (0, 0)))]
            (by simp only [List.take_succ_cons, List.take_zero] <;> rfl) (by simp only [Kr.takeI, List.getElem?_cons_succ, List.getElem?_cons_zero] <;> rfl) mixedT (by kernel_rfl) ?_
          rw [← hwd]
          clear hwd
          repeat (refine Kr.wpR_one rfl rfl ?_; go_big_quiet_step (fail); refine wpQuiet_nil ?_)
          refine Kr.wpR_call _ rfl rfl rfl ?_ ?_
          · intro W hW hk
            go_simp
            refine Kr.upMany_enter ((PV.out W).mono ?_)
            rintro e w' ⟨rfl, rfl⟩
            exact ⟨_, rfl, rfl, Below.refl _ _⟩
          rintro x ⟨_, _, _, _, hS, _⟩
          obtain rfl := hS
          go_frame
          repeat (refine Kr.wpR_one rfl rfl ?_; go_big_quiet_step (fail); refine wpQuiet_nil ?_)
          refine Kr.wpR_call _ rfl rfl rfl ?_ ?_
          · intro W hW hk
            have HBW := Lib.hid (Kr.later_iff.1 hW).size
            go_simp
            exact ⟨⟨_, rfl, HBW.out, alloc_new W _⟩, (Below.refl _ W).alloc (Nat.le_refl _) _⟩
          rintro x ⟨_, _, _, _, hS, _⟩
          obtain ⟨b, rfl, hb1, _⟩ := hS
          go_frame
          refine Kr.wpR_nil ?_
          intro w3 hb3 hH
          have fB := hH _ _ (.inl ⟨rfl, rfl⟩)
          have hblk : w3.heap[b]? = some (.cells #[.string ⟨#[]⟩, .string ⟨#[]⟩] 34 (0, 0)) := by
            obtain ⟨W0, ⟨b', e, _, h2⟩, hbel⟩ := fB
            injection e with e
            injection e with e
            injection e with e _ _
            subst e
            exact (hbel.block _ (lt_of_block h2)).trans h2
          have HT3 := Lib.hid (HTD.out.keep hb3)
          have HBB := Lib.hid hb1
          have hk0 : w3.frozen? ⟨b, 0, none⟩ = false := Lib.frozen_of_heap hblk 0
          have hk1 : w3.frozen? ⟨b, 1, none⟩ = false := Lib.frozen_of_heap hblk 1
          have y0 : w3.cell? ⟨b, 0, none⟩ = some (.string ⟨#[]⟩) := by rw [block_cell hblk]; rfl
          have y1 : w3.cell? ⟨b, 1, none⟩ = some (.string ⟨#[]⟩) := by rw [block_cell hblk]; rfl
          have HBK : Hid (((w3.setCell ⟨b, 0, none⟩ (.string (nmK i))).setCell ⟨b, 1, none⟩ (.string vv)).heap[b]? = some (.cells #[.string (nmK i), .string vv] 34 (0, 0))) := Lib.hid (by
            simp only [World.setCell, Array.getElem?_modify, ↓reduceIte, hblk, Option.map_some]
            rfl)
          have HT4 : Hid (TtI true tb n cs v w ((w3.setCell ⟨b, 0, none⟩ (.string (nmK i))).setCell ⟨b, 1, none⟩ (.string vv))) := Lib.hid (HTD.out.keep ((hb3.setCell (p := ⟨b, 0, none⟩) hb1 _).setCell (p := ⟨b, 1, none⟩) hb1 _))
          obtain ⟨mq, hmq⟩ : ∃ mq, IntKind.i64.wrap (quote + (i : Int)) = mq := ⟨_, rfl⟩
          have PQ := Lib.hid (placeN_calls mq 3 (by decide) (by decide) 3 rfl)
          have PS := Lib.hid (placeN_calls (z.tdiv 8) 4 (by decide) (by decide) 4 rfl)
          obtain ⟨q, X3, hq, hqz⟩ := qt_ix (placeN mq 3) (placeN_lt mq (by decide))
          obtain ⟨sep, X4, hs0, hs1, hs2, hsz⟩ := sp_ix (placeN (z.tdiv 8) 4) (placeN_lt _ (by decide))
          generalize placeN mq 3 = pq at *
          generalize placeN (z.tdiv 8) 4 = ps at *
          have HCHK : Hid (ChkOk ⟨sep, nmK i, q, vv⟩) := Lib.hid ⟨hs0, hs1, hs2, m0, m1, m2, hq, v1, v2⟩
          clear rl hb3 hH fB hblk hb1 ds vs hpv hwv PV hs0 hs1 hs2 hq v1 v2
          go_wp2_with fail
          generalize (w3.setCell ⟨b, 0, none⟩ (.string (nmK i))).setCell ⟨b, 1, none⟩ (.string vv) = w4 at *
          clear hk0 hk1 y0 y1 HT3 HTD
          refine (PQ.out _).mono ?_
          rintro e w5 ⟨rfl, rfl⟩
          go_wp2_with fail
          have hcl := (HT4.out.bel.cell (p := ⟨lb, lo + i, none⟩) hlb).trans HCL0.out
          have rl := cell_regrown hcl
          have y0 : w4.cell? ⟨b, 0, none⟩ = some (.string (nmK i)) := by rw [block_cell HBK.out]; rfl
          have y1 : w4.cell? ⟨b, 1, none⟩ = some (.string vv) := by rw [block_cell HBK.out]; rfl
          have r0 := cell_regrown y0
          have r1 := cell_regrown y1
          have zs := Nat.le_trans (src_size cs base HM.out.sz) (show base.size + 13 * cs.length ≤ 111 by have := HM.out.len; have := HBZ.out; omega)
          clear hcl y0 y1
          refine wp_region_quiet_below mixedT (by kernel_rfl) ?_
          iterate 7 (go_big_quiet_step (fail))
          go_big_quiet_step ((go_at_call 13; exact Calls.regrown_of ((PS.out _).mono fun e w' ⟨h1, h2⟩ => ⟨h1, by rw [h2]; exact Below.refl _ _⟩)))
          repeat (go_big_quiet_step (fail))
          refine wpQuiet_nil ?_
          rintro w6 ⟨g, hg⟩
          have hb6 : Below w4.heap.size w4 w6 := hg ▸ below_regrown w4 g.d g.os
          replace HBK := Lib.hid ((hb6.block _ (lt_of_block HBK.out)).trans HBK.out)
          have HT6 := Lib.hid (HT4.out.keep hb6)
          clear hg g hb6 rl r0 r1 X3 X4 HT4
          have HLC := Lib.hid (show i + 1 ≤ 8 ∧ i + 1 ≤ len by omega)
          have HM2 : Hid (Made (cs ++ [⟨sep, nmK i, q, vv⟩])) := Lib.hid (HM.out.snoc (by have := HI.out; omega) HCHK.out (by rw [HI.out]) ⟨hsz, Nat.le_of_eq m0, hqz, v3⟩)
          have x3 : w6.cell? ⟨tb, 3, none⟩ = some v := (tbox5 HT6.out.tok).2.2.2.1
          have y0 : w6.cell? ⟨b, 0, none⟩ = some (.string (nmK i)) := by rw [block_cell HBK.out]; rfl
          have y1 : w6.cell? ⟨b, 1, none⟩ = some (.string vv) := by rw [block_cell HBK.out]; rfl
          have HROW6 : Hid ((w6.alloc (.cells #[.string (nmK i), .string vv] 34)).ownsRow (tb + 1) 34 2 v (acT true cs).length (cellsA2 (acT true cs))) := Lib.hid ((HT6.out.keep ((Below.refl _ w6).alloc (Nat.le_refl _) _)).row)
          have HN2 : Hid (∀ j u, ([.string (nmK i), .string vv] : List Value)[j]? = some u → (w6.alloc (.cells #[.string (nmK i), .string vv] 34)).cell? ((⟨w6.heap.size, 0, none⟩ : Addr).add j) = some u) := Lib.hid fun j u hj => by
            have ha : (⟨w6.heap.size, 0, none⟩ : Addr).add j = ⟨w6.heap.size, j, none⟩ := by unfold Addr.add; split <;> simp_all
            rw [ha, block_cell (alloc_new w6 _)]
            simpa using hj
          have HONE : Hid (∀ u ∈ ([.string (nmK i), .string vv] : List Value), u.oneCell' = true) := Lib.hid fun u hu => by
            simp at hu
            rcases hu with rfl | rfl <;> rfl
          have hln : (acT true cs).length ≤ 8 := by have := HM.out.len; simpa [acT] using this
          have htb6 : tb + 1 ≤ w6.heap.size := HT6.out.lt.2
          obtain ⟨i0, hi0, hz0', hz1', hz2'⟩ := info_parts attr_info2
          go_wp2_with (at_builtin; refine wpList_append_own_at _ rfl (.tmp 85) (.tmp 87) 23 rfl (tb + 1) 34 i0 _ 2 32 Tryz.underlying23 hi0 hz0' hz1' hz2' rfl (by decide) _ _ _ rfl HROW6.out ⟨w6.heap.size, 0, none⟩ 1 1 [.string (nmK i), .string vv] rfl rfl HN2.out HONE.out (by unfold maxLen; omega) (by omega) (by simp; omega) ?_)
          intro v' w8 gr1 gr2 _ gr3
          have HT8 := Lib.hid (TtI.push (c := ⟨sep, nmK i, q, vv⟩) HT6.out gr1 gr2)
          have htok8 : w8.heap[tb]? = some (.cells #[.int .i64 (kindOf true), .string n, .string ⟨#[]⟩, v, .bool false] 25 (0, 0)) := by
            have hv : some tb ≠ v.ownBlock := fun e => by have := (HT6.out.row.lt tb e.symm).1; omega
            exact (gr2.block tb (by simp; omega) hv).trans ((Below.heap_alloc w6 _ tb HT6.out.lt.2).trans HT6.out.tok)
          have hf3 : w8.frozen? ⟨tb, 3, none⟩ = false := Lib.frozen_of_heap htok8 3
          have x38 : w8.cell? ⟨tb, 3, none⟩ = some v := (tbox5 htok8).2.2.2.1
          obtain ⟨ao, n', cp, rfl⟩ : ∃ ao n' cp, v' = .slice ao n' cp := by
            rcases gr1.2 with ⟨hv, _⟩ | ⟨g, cap, cur, hv, _⟩
            · exact ⟨_, _, _, hv⟩
            · exact ⟨_, _, _, hv⟩
          clear gr1 gr2 gr3 x3 y0 y1 htok8
          go_wp2_with fail
          go_roundw
          case rel => exact ⟨cs ++ [⟨sep, nmK i, q, vv⟩], _, HM2, Lib.hid (by simp; have := HLC.out; have := HI.out; omega), by rw [srcC_snoc]; rfl, by simp [HI.out], HT8⟩
          case measure => simp [intOf]; omega
        · have q2 : ¬ (i : Int) < 8 := by omega
          obtain ⟨A', ac', rfl, hat'⟩ := row_attrs HT.out.row (fun x hx => by
            have : ∃ c ∈ cs, atC c = x := by unfold acT at hx; first | (simp at hx; done) | simpa using hx
            obtain ⟨c, hc, rfl⟩ := this
            have := HM.out.sz c hc
            exact ⟨Nat.le_trans this.2.1 (by unfold maxLen; omega), Nat.le_trans this.2.2.2 (by unfold maxLen; omega)⟩)
          obtain ⟨t1, t2⟩ := tags true HN.out HM.out.ok HM.out.pair.1 HM.out.pair.2
          rw [HBASE.out] at t1 t2
          rw [app_nil] at t2
          have zs := Nat.le_trans (src_size cs base HM.out.sz) (show base.size + 13 * cs.length ≤ 111 by have := HM.out.len; have := HBZ.out; omega)
          have hal : (acT true cs).length ≤ 8 := by have := HM.out.len; unfold acT; simp; try omega
          have HAL := Lib.hid hal
          have zb : (srcC base cs ++ tailB).size ≤ 900000 := by rw [ByteArray.size_append]; have : tailB.size = 3 := rfl; omega
          have N1 := next_as (srcC base cs ++ tailB) ⟨#[]⟩ zb (by decide) 0 (by decide) 0 rfl ⟨kindOf true, n, ⟨#[]⟩, acT true cs, false⟩ ((srcC base cs).size + 2) true t1 (((srcC base cs).size : Int) + 2) (by omega)
          have N2 := next_as (srcC base cs) ⟨#[]⟩ (by omega) (by decide) 0 (by decide) 0 rfl tok0 (srcC base cs).size false t2 ((srcC base cs).size : Int) rfl
          unfold tokV at N1 N2
          unfold tailB at N1
          dsimp only at N1
          have SN1 := Lib.hid N1
          have SN2 : Hid (∀ W, Calls Tryz.prog 11 #[.string (srcC base cs), .int .i64 0, .string ⟨#[]⟩] W fun e w' => ∃ A ac, e = .returned (.tuple #[.agg #[.int .i64 0, .string ⟨#[]⟩, .string ⟨#[]⟩, .slice A 0 ac, .bool false], .int .i64 ((srcC base cs).size : Int), .bool false]) ∧ Below W.heap.size W w') := Lib.hid fun W => (N2 W).mono fun e w' ⟨A, ac, h1, h2, h3, h4⟩ => ⟨A, ac, h1, h3⟩
          have HAT' := Lib.hid hat'
          have hw2 : IntKind.i64.wrap (((srcC base cs).size : Int) + 2) = ((srcC base cs).size : Int) + 2 := IntWalk.i64_in _ (by omega)
          clear t1 t2 N1 N2 hat' zb hal
          generalize srcC base cs = S at *
          generalize acT true cs = al at *
          go_wp2_with fail
          refine (SN1.out _).mono ?_
          rintro e w2 ⟨A1, k1, rfl, ha1, hb1, _⟩
          have T1B := ((Below.refl _ w2).alloc (Nat.le_refl _) (.cells #[.int .i64 (kindOf true), .string n, .string ⟨#[]⟩, .slice A1 al.length k1, .bool false] 25))
          have hb2 := hb1.trans (T1B.mono hb1.size)
          have HT2 := Lib.hid ((HT.out.keep hb2))
          replace HAT' := Lib.hid (isAttrs_below HAT'.out hb2)
          have HA1 := Lib.hid (isAttrs_below ha1 T1B)
          have HK1 := Lib.hid (alloc_new w2 (.cells #[.int .i64 (kindOf true), .string n, .string ⟨#[]⟩, .slice A1 al.length k1, .bool false] 25))
          clear ha1 hb1 hb2 T1B
          go_wp2_with fail
          refine (SN2.out _).mono ?_
          rintro e w3 ⟨A2, k2, rfl, hb3⟩
          have hb4 := hb3.trans ((Below.refl _ w3).alloc hb3.size (.cells #[.int .i64 0, .string ⟨#[]⟩, .string ⟨#[]⟩, .slice A2 0 k2, .bool false] 25))
          have HT4 := Lib.hid (HT2.out.keep hb4)
          replace HAT' := Lib.hid (isAttrs_below HAT'.out hb4)
          replace HA1 := Lib.hid (isAttrs_below HA1.out hb4)
          replace HK1 := Lib.hid ((hb4.block _ (lt_of_block HK1.out)).trans HK1.out)
          obtain ⟨x0, x1, x2, x3, x4⟩ := tbox5 HK1.out
          obtain ⟨y0, y1, y2, y3, y4⟩ := tbox5 HT4.out.tok
          have HB4 := Lib.hid HT4.out.bel
          clear hb3 hb4
          go_wp2_with fail
          refine (same_own ⟨kindOf true, n, ⟨#[]⟩, al, false⟩ A1 A' k1 ac' _ (Nat.le_trans HAL.out (by decide)) HA1.out HAT'.out).mono ?_
          rintro e w5 ⟨rfl, hb⟩
          have HB5 := Lib.hid (HB4.out.trans (hb.mono HB4.out.size))
          clear hb
          go_wp2_with fail
          refine (awake_calls _).mono ?_
          rintro e w6 ⟨rfl, hb⟩
          have HB6 := Lib.hid (HB5.out.trans (hb.mono HB5.out.size))
          clear hb
          go_wp2_with fail
          go_ret
          exact ⟨rfl, HB6.out⟩
      · have q1 : ¬ (i : Int) < (len : Int) := by omega
        obtain ⟨A', ac', rfl, hat'⟩ := row_attrs HT.out.row (fun x hx => by
          have : ∃ c ∈ cs, atC c = x := by unfold acT at hx; first | (simp at hx; done) | simpa using hx
          obtain ⟨c, hc, rfl⟩ := this
          have := HM.out.sz c hc
          exact ⟨Nat.le_trans this.2.1 (by unfold maxLen; omega), Nat.le_trans this.2.2.2 (by unfold maxLen; omega)⟩)
        obtain ⟨t1, t2⟩ := tags true HN.out HM.out.ok HM.out.pair.1 HM.out.pair.2
        rw [HBASE.out] at t1 t2
        rw [app_nil] at t2
        have zs := Nat.le_trans (src_size cs base HM.out.sz) (show base.size + 13 * cs.length ≤ 111 by have := HM.out.len; have := HBZ.out; omega)
        have hal : (acT true cs).length ≤ 8 := by have := HM.out.len; unfold acT; simp; try omega
        have HAL := Lib.hid hal
        have zb : (srcC base cs ++ tailB).size ≤ 900000 := by rw [ByteArray.size_append]; have : tailB.size = 3 := rfl; omega
        have N1 := next_as (srcC base cs ++ tailB) ⟨#[]⟩ zb (by decide) 0 (by decide) 0 rfl ⟨kindOf true, n, ⟨#[]⟩, acT true cs, false⟩ ((srcC base cs).size + 2) true t1 (((srcC base cs).size : Int) + 2) (by omega)
        have N2 := next_as (srcC base cs) ⟨#[]⟩ (by omega) (by decide) 0 (by decide) 0 rfl tok0 (srcC base cs).size false t2 ((srcC base cs).size : Int) rfl
        unfold tokV at N1 N2
        unfold tailB at N1
        dsimp only at N1
        have SN1 := Lib.hid N1
        have SN2 : Hid (∀ W, Calls Tryz.prog 11 #[.string (srcC base cs), .int .i64 0, .string ⟨#[]⟩] W fun e w' => ∃ A ac, e = .returned (.tuple #[.agg #[.int .i64 0, .string ⟨#[]⟩, .string ⟨#[]⟩, .slice A 0 ac, .bool false], .int .i64 ((srcC base cs).size : Int), .bool false]) ∧ Below W.heap.size W w') := Lib.hid fun W => (N2 W).mono fun e w' ⟨A, ac, h1, h2, h3, h4⟩ => ⟨A, ac, h1, h3⟩
        have HAT' := Lib.hid hat'
        have hw2 : IntKind.i64.wrap (((srcC base cs).size : Int) + 2) = ((srcC base cs).size : Int) + 2 := IntWalk.i64_in _ (by omega)
        clear t1 t2 N1 N2 hat' zb hal
        generalize srcC base cs = S at *
        generalize acT true cs = al at *
        go_wp2_with fail
        refine (SN1.out _).mono ?_
        rintro e w2 ⟨A1, k1, rfl, ha1, hb1, _⟩
        have T1B := ((Below.refl _ w2).alloc (Nat.le_refl _) (.cells #[.int .i64 (kindOf true), .string n, .string ⟨#[]⟩, .slice A1 al.length k1, .bool false] 25))
        have hb2 := hb1.trans (T1B.mono hb1.size)
        have HT2 := Lib.hid ((HT.out.keep hb2))
        replace HAT' := Lib.hid (isAttrs_below HAT'.out hb2)
        have HA1 := Lib.hid (isAttrs_below ha1 T1B)
        have HK1 := Lib.hid (alloc_new w2 (.cells #[.int .i64 (kindOf true), .string n, .string ⟨#[]⟩, .slice A1 al.length k1, .bool false] 25))
        clear ha1 hb1 hb2 T1B
        go_wp2_with fail
        refine (SN2.out _).mono ?_
        rintro e w3 ⟨A2, k2, rfl, hb3⟩
        have hb4 := hb3.trans ((Below.refl _ w3).alloc hb3.size (.cells #[.int .i64 0, .string ⟨#[]⟩, .string ⟨#[]⟩, .slice A2 0 k2, .bool false] 25))
        have HT4 := Lib.hid (HT2.out.keep hb4)
        replace HAT' := Lib.hid (isAttrs_below HAT'.out hb4)
        replace HA1 := Lib.hid (isAttrs_below HA1.out hb4)
        replace HK1 := Lib.hid ((hb4.block _ (lt_of_block HK1.out)).trans HK1.out)
        obtain ⟨x0, x1, x2, x3, x4⟩ := tbox5 HK1.out
        obtain ⟨y0, y1, y2, y3, y4⟩ := tbox5 HT4.out.tok
        have HB4 := Lib.hid HT4.out.bel
        clear hb3 hb4
        go_wp2_with fail
        refine (same_own ⟨kindOf true, n, ⟨#[]⟩, al, false⟩ A1 A' k1 ac' _ (Nat.le_trans HAL.out (by decide)) HA1.out HAT'.out).mono ?_
        rintro e w5 ⟨rfl, hb⟩
        have HB5 := Lib.hid (HB4.out.trans (hb.mono HB4.out.size))
        clear hb
        go_wp2_with fail
        refine (awake_calls _).mono ?_
        rintro e w6 ⟨rfl, hb⟩
        have HB6 := Lib.hid (HB5.out.trans (hb.mono HB5.out.size))
        clear hb
        go_wp2_with fail
        go_ret
        exact ⟨rfl, HB6.out⟩
  | true =>
    have HT : Hid (TtI false w.heap.size n [] (.slice none 0 0) w (w.alloc (.cells #[.int .i64 2, .string n, .string ⟨#[]⟩, .slice none 0 0, .bool false] 25))) := Lib.hid ⟨alloc_new w _, ⟨rfl, .inl ⟨rfl, rfl⟩⟩, (Below.refl _ w).alloc (Nat.le_refl _) _, Nat.le_refl _, by simp⟩
    obtain ⟨base, hbase⟩ : ∃ base, (⟨#[60, 47]⟩ : ByteArray) ++ n = base := ⟨_, rfl⟩
    have HBASE : Hid (preB false ++ n = base) := Lib.hid hbase
    have HBZ : Hid (base.size ≤ 7) := Lib.hid (by rw [← hbase, ByteArray.size_append]; have : (⟨#[60, 47]⟩ : ByteArray).size = 2 := rfl; omega)
    have hc1 : (w.alloc (.cells #[.int .i64 1, .string n, .string ⟨#[]⟩, .slice none 0 0, .bool false] 25)).frozen? ⟨w.heap.size, 0, none⟩ = false := Lib.frozen_of_heap g1 0
    clear g0
    go_enter Tryz.func4, Tryz.ntmps4
    go_wp2_with fail
    refine (P1.out _).mono ?_
    rintro e w1 ⟨rfl, rfl⟩
    go_wp2_with fail

    generalize w.alloc (.cells #[.int .i64 2, .string n, .string ⟨#[]⟩, .slice none 0 0, .bool false] 25) = w1 at *
    obtain ⟨tb, htb⟩ : ∃ tb, w.heap.size = tb := ⟨_, rfl⟩
    rw [htb] at HT ⊢
    clear hc1 g1 hbase P1 X1 hnz
    go_loopw [10, 12] (fun t10 t12 wr => ∃ (cs : List Chk) (v : Value), Hid (Made cs) ∧ Hid (cs.length ≤ len) ∧ t10 = .string (srcC base cs) ∧ t12 = .int .i64 (cs.length : Int) ∧ Hid (TtI false tb n cs v w wr)) (fun _ t12 _ => 8 - (intOf t12).toNat)
    case atStart => exact ⟨[], _, Lib.hid ⟨fun c h => by simp at h, fun j c h => by simp at h, fun c h => by simp at h, Nat.zero_le _⟩, Lib.hid (Nat.zero_le _), rfl, rfl, HT⟩
    case round =>
      clear HT
      obtain ⟨cs, v, HM, HL, rfl, rfl, HT⟩ := hrel
      obtain ⟨i, hi⟩ : ∃ i, cs.length = i := ⟨_, rfl⟩
      have HI := Lib.hid hi
      have hi8 : i ≤ 8 := by have := HM.out.len; omega
      rw [hi] at HL ⊢
      clear hi
      by_cases c1 : i < len
      · have q1 : (i : Int) < (len : Int) := by omega
        by_cases c2 : i < 8
        · have q2 : (i : Int) < 8 := by omega
          obtain ⟨lb, lo, z, rfl, hlb, hlc, hz0, hz1⟩ := row_at HROW.out c1
          go_wp2_with fail
          obtain ⟨wd, hwd⟩ : ∃ wd, wd = wr.drew := ⟨_, rfl⟩
          have HTD : Hid (TtI false tb n cs v w wd) := Lib.hid (hwd ▸ HT.out.keep (Below.refl _ wr).drew)
          have hcl : wd.cell? ⟨lb, lo + i, none⟩ = some (.int .i64 z) := (HTD.out.bel.cell (p := ⟨lb, lo + i, none⟩) hlb).trans hlc
          have rl := cell_regrown hcl
          have HCL0 := Lib.hid hlc
          have hwi : IntKind.i64.wrap ((i : Int) + 1) = (i : Int) + 1 := IntWalk.i64_in _ (by omega)
          have PV := Lib.hid (placeN_calls z 5 (by decide) (by decide) 5 rfl)
          have hpv := placeN_lt z (n := 5) (by decide)
          obtain ⟨v1, v2, v3⟩ := vl_ok _ hpv
          obtain ⟨pv, hpve⟩ : ∃ pv, placeN z 5 = pv := ⟨_, rfl⟩
          rw [hpve] at PV hpv v1 v2 v3
          have hwv : IntKind.i64.wrap ((pv : Int) + 1) = (pv : Int) + 1 := IntWalk.i64_in _ (by omega)
          have ds := dig_sl i c2
          have vs := val_sl pv hpv
          have hnm : (⟨#[107]⟩ : ByteArray) ++ digB.extract i (i + 1) = nmK i := rfl
          obtain ⟨m0, m1, m2⟩ := nmK_ok i c2
          generalize valB.extract 0 (pv + 1) = vv at *
          have zd : (digB.extract i (i + 1)).size ≤ 8 := ext_size digB i (i + 1)
          clear hpve hcl
          refine Kr.wp_region_T 14 [14] [(9, fun v _ => v = .int .i64 (pv : Int)), (13, fun v W => ∃ b, v = .pointer (some ⟨b, 0, none⟩) ∧ wd.heap.size ≤ b ∧ W.heap[b]? = some (.cells #[.string ⟨#[]⟩, .string ⟨#[]⟩] 34 (0, 0)))]
            (by simp only [List.take_succ_cons, List.take_zero] <;> rfl) (by simp only [Kr.takeI, List.getElem?_cons_succ, List.getElem?_cons_zero] <;> rfl) mixedT (by kernel_rfl) ?_
          rw [← hwd]
          clear hwd
          repeat (refine Kr.wpR_one rfl rfl ?_; go_big_quiet_step (fail); refine wpQuiet_nil ?_)
          refine Kr.wpR_call _ rfl rfl rfl ?_ ?_
          · intro W hW hk
            go_simp
            refine Kr.upMany_enter ((PV.out W).mono ?_)
            rintro e w' ⟨rfl, rfl⟩
            exact ⟨_, rfl, rfl, Below.refl _ _⟩
          rintro x ⟨_, _, _, _, hS, _⟩
          obtain rfl := hS
          go_frame
          repeat (refine Kr.wpR_one rfl rfl ?_; go_big_quiet_step (fail); refine wpQuiet_nil ?_)
          refine Kr.wpR_call _ rfl rfl rfl ?_ ?_
          · intro W hW hk
            have HBW := Lib.hid (Kr.later_iff.1 hW).size
            go_simp
            exact ⟨⟨_, rfl, HBW.out, alloc_new W _⟩, (Below.refl _ W).alloc (Nat.le_refl _) _⟩
          rintro x ⟨_, _, _, _, hS, _⟩
          obtain ⟨b, rfl, hb1, _⟩ := hS
          go_frame
          refine Kr.wpR_nil ?_
          intro w3 hb3 hH
          have fB := hH _ _ (.inl ⟨rfl, rfl⟩)
          have hblk : w3.heap[b]? = some (.cells #[.string ⟨#[]⟩, .string ⟨#[]⟩] 34 (0, 0)) := by
            obtain ⟨W0, ⟨b', e, _, h2⟩, hbel⟩ := fB
            injection e with e
            injection e with e
            injection e with e _ _
            subst e
            exact (hbel.block _ (lt_of_block h2)).trans h2
          have HT3 := Lib.hid (HTD.out.keep hb3)
          have HBB := Lib.hid hb1
          have hk0 : w3.frozen? ⟨b, 0, none⟩ = false := Lib.frozen_of_heap hblk 0
          have hk1 : w3.frozen? ⟨b, 1, none⟩ = false := Lib.frozen_of_heap hblk 1
          have y0 : w3.cell? ⟨b, 0, none⟩ = some (.string ⟨#[]⟩) := by rw [block_cell hblk]; rfl
          have y1 : w3.cell? ⟨b, 1, none⟩ = some (.string ⟨#[]⟩) := by rw [block_cell hblk]; rfl
          have HBK : Hid (((w3.setCell ⟨b, 0, none⟩ (.string (nmK i))).setCell ⟨b, 1, none⟩ (.string vv)).heap[b]? = some (.cells #[.string (nmK i), .string vv] 34 (0, 0))) := Lib.hid (by
            simp only [World.setCell, Array.getElem?_modify, ↓reduceIte, hblk, Option.map_some]
            rfl)
          have HT4 : Hid (TtI false tb n cs v w ((w3.setCell ⟨b, 0, none⟩ (.string (nmK i))).setCell ⟨b, 1, none⟩ (.string vv))) := Lib.hid (HTD.out.keep ((hb3.setCell (p := ⟨b, 0, none⟩) hb1 _).setCell (p := ⟨b, 1, none⟩) hb1 _))
          obtain ⟨mq, hmq⟩ : ∃ mq, IntKind.i64.wrap (quote + (i : Int)) = mq := ⟨_, rfl⟩
          have PQ := Lib.hid (placeN_calls mq 3 (by decide) (by decide) 3 rfl)
          have PS := Lib.hid (placeN_calls (z.tdiv 8) 4 (by decide) (by decide) 4 rfl)
          obtain ⟨q, X3, hq, hqz⟩ := qt_ix (placeN mq 3) (placeN_lt mq (by decide))
          obtain ⟨sep, X4, hs0, hs1, hs2, hsz⟩ := sp_ix (placeN (z.tdiv 8) 4) (placeN_lt _ (by decide))
          generalize placeN mq 3 = pq at *
          generalize placeN (z.tdiv 8) 4 = ps at *
          have HCHK : Hid (ChkOk ⟨sep, nmK i, q, vv⟩) := Lib.hid ⟨hs0, hs1, hs2, m0, m1, m2, hq, v1, v2⟩
          clear rl hb3 hH fB hblk hb1 ds vs hpv hwv PV hs0 hs1 hs2 hq v1 v2
          go_wp2_with fail
          generalize (w3.setCell ⟨b, 0, none⟩ (.string (nmK i))).setCell ⟨b, 1, none⟩ (.string vv) = w4 at *
          clear hk0 hk1 y0 y1 HT3 HTD
          refine (PQ.out _).mono ?_
          rintro e w5 ⟨rfl, rfl⟩
          go_wp2_with fail
          have hcl := (HT4.out.bel.cell (p := ⟨lb, lo + i, none⟩) hlb).trans HCL0.out
          have rl := cell_regrown hcl
          have y0 : w4.cell? ⟨b, 0, none⟩ = some (.string (nmK i)) := by rw [block_cell HBK.out]; rfl
          have y1 : w4.cell? ⟨b, 1, none⟩ = some (.string vv) := by rw [block_cell HBK.out]; rfl
          have r0 := cell_regrown y0
          have r1 := cell_regrown y1
          have zs := Nat.le_trans (src_size cs base HM.out.sz) (show base.size + 13 * cs.length ≤ 111 by have := HM.out.len; have := HBZ.out; omega)
          clear hcl y0 y1
          refine wp_region_quiet_below mixedT (by kernel_rfl) ?_
          iterate 7 (go_big_quiet_step (fail))
          go_big_quiet_step ((go_at_call 13; exact Calls.regrown_of ((PS.out _).mono fun e w' ⟨h1, h2⟩ => ⟨h1, by rw [h2]; exact Below.refl _ _⟩)))
          repeat (go_big_quiet_step (fail))
          refine wpQuiet_nil ?_
          rintro w6 ⟨g, hg⟩
          have hb6 : Below w4.heap.size w4 w6 := hg ▸ below_regrown w4 g.d g.os
          replace HBK := Lib.hid ((hb6.block _ (lt_of_block HBK.out)).trans HBK.out)
          have HT6 := Lib.hid (HT4.out.keep hb6)
          clear hg g hb6 rl r0 r1 X3 X4 HT4
          have HLC := Lib.hid (show i + 1 ≤ 8 ∧ i + 1 ≤ len by omega)
          have HM2 : Hid (Made (cs ++ [⟨sep, nmK i, q, vv⟩])) := Lib.hid (HM.out.snoc (by have := HI.out; omega) HCHK.out (by rw [HI.out]) ⟨hsz, Nat.le_of_eq m0, hqz, v3⟩)
          have HT8 := Lib.hid (TtI.skip ⟨sep, nmK i, q, vv⟩ HT6.out)
          go_wp2_with fail
          go_roundw
          case rel => exact ⟨cs ++ [⟨sep, nmK i, q, vv⟩], _, HM2, Lib.hid (by simp; have := HLC.out; have := HI.out; omega), by rw [srcC_snoc]; rfl, by simp [HI.out], HT8⟩
          case measure => simp [intOf]; omega
        · have q2 : ¬ (i : Int) < 8 := by omega
          obtain ⟨A', ac', rfl, hat'⟩ := row_attrs HT.out.row (fun x hx => by
            have : ∃ c ∈ cs, atC c = x := by unfold acT at hx; first | (simp at hx; done) | simpa using hx
            obtain ⟨c, hc, rfl⟩ := this
            have := HM.out.sz c hc
            exact ⟨Nat.le_trans this.2.1 (by unfold maxLen; omega), Nat.le_trans this.2.2.2 (by unfold maxLen; omega)⟩)
          obtain ⟨t1, t2⟩ := tags false HN.out HM.out.ok HM.out.pair.1 HM.out.pair.2
          rw [HBASE.out] at t1 t2
          rw [app_nil] at t2
          have zs := Nat.le_trans (src_size cs base HM.out.sz) (show base.size + 13 * cs.length ≤ 111 by have := HM.out.len; have := HBZ.out; omega)
          have hal : (acT false cs).length ≤ 8 := by have := HM.out.len; unfold acT; simp; try omega
          have HAL := Lib.hid hal
          have zb : (srcC base cs ++ tailB).size ≤ 900000 := by rw [ByteArray.size_append]; have : tailB.size = 3 := rfl; omega
          have N1 := next_as (srcC base cs ++ tailB) ⟨#[]⟩ zb (by decide) 0 (by decide) 0 rfl ⟨kindOf false, n, ⟨#[]⟩, acT false cs, false⟩ ((srcC base cs).size + 2) true t1 (((srcC base cs).size : Int) + 2) (by omega)
          have N2 := next_as (srcC base cs) ⟨#[]⟩ (by omega) (by decide) 0 (by decide) 0 rfl tok0 (srcC base cs).size false t2 ((srcC base cs).size : Int) rfl
          unfold tokV at N1 N2
          unfold tailB at N1
          dsimp only at N1
          have SN1 := Lib.hid N1
          have SN2 : Hid (∀ W, Calls Tryz.prog 11 #[.string (srcC base cs), .int .i64 0, .string ⟨#[]⟩] W fun e w' => ∃ A ac, e = .returned (.tuple #[.agg #[.int .i64 0, .string ⟨#[]⟩, .string ⟨#[]⟩, .slice A 0 ac, .bool false], .int .i64 ((srcC base cs).size : Int), .bool false]) ∧ Below W.heap.size W w') := Lib.hid fun W => (N2 W).mono fun e w' ⟨A, ac, h1, h2, h3, h4⟩ => ⟨A, ac, h1, h3⟩
          have HAT' := Lib.hid hat'
          have hw2 : IntKind.i64.wrap (((srcC base cs).size : Int) + 2) = ((srcC base cs).size : Int) + 2 := IntWalk.i64_in _ (by omega)
          clear t1 t2 N1 N2 hat' zb hal
          generalize srcC base cs = S at *
          generalize acT false cs = al at *
          go_wp2_with fail
          refine (SN1.out _).mono ?_
          rintro e w2 ⟨A1, k1, rfl, ha1, hb1, _⟩
          have T1B := ((Below.refl _ w2).alloc (Nat.le_refl _) (.cells #[.int .i64 (kindOf false), .string n, .string ⟨#[]⟩, .slice A1 al.length k1, .bool false] 25))
          have hb2 := hb1.trans (T1B.mono hb1.size)
          have HT2 := Lib.hid ((HT.out.keep hb2))
          replace HAT' := Lib.hid (isAttrs_below HAT'.out hb2)
          have HA1 := Lib.hid (isAttrs_below ha1 T1B)
          have HK1 := Lib.hid (alloc_new w2 (.cells #[.int .i64 (kindOf false), .string n, .string ⟨#[]⟩, .slice A1 al.length k1, .bool false] 25))
          clear ha1 hb1 hb2 T1B
          go_wp2_with fail
          refine (SN2.out _).mono ?_
          rintro e w3 ⟨A2, k2, rfl, hb3⟩
          have hb4 := hb3.trans ((Below.refl _ w3).alloc hb3.size (.cells #[.int .i64 0, .string ⟨#[]⟩, .string ⟨#[]⟩, .slice A2 0 k2, .bool false] 25))
          have HT4 := Lib.hid (HT2.out.keep hb4)
          replace HAT' := Lib.hid (isAttrs_below HAT'.out hb4)
          replace HA1 := Lib.hid (isAttrs_below HA1.out hb4)
          replace HK1 := Lib.hid ((hb4.block _ (lt_of_block HK1.out)).trans HK1.out)
          obtain ⟨x0, x1, x2, x3, x4⟩ := tbox5 HK1.out
          obtain ⟨y0, y1, y2, y3, y4⟩ := tbox5 HT4.out.tok
          have HB4 := Lib.hid HT4.out.bel
          clear hb3 hb4
          go_wp2_with fail
          refine (same_own ⟨kindOf false, n, ⟨#[]⟩, al, false⟩ A1 A' k1 ac' _ (Nat.le_trans HAL.out (by decide)) HA1.out HAT'.out).mono ?_
          rintro e w5 ⟨rfl, hb⟩
          have HB5 := Lib.hid (HB4.out.trans (hb.mono HB4.out.size))
          clear hb
          go_wp2_with fail
          refine (awake_calls _).mono ?_
          rintro e w6 ⟨rfl, hb⟩
          have HB6 := Lib.hid (HB5.out.trans (hb.mono HB5.out.size))
          clear hb
          go_wp2_with fail
          go_ret
          exact ⟨rfl, HB6.out⟩
      · have q1 : ¬ (i : Int) < (len : Int) := by omega
        obtain ⟨A', ac', rfl, hat'⟩ := row_attrs HT.out.row (fun x hx => by
          have : ∃ c ∈ cs, atC c = x := by unfold acT at hx; first | (simp at hx; done) | simpa using hx
          obtain ⟨c, hc, rfl⟩ := this
          have := HM.out.sz c hc
          exact ⟨Nat.le_trans this.2.1 (by unfold maxLen; omega), Nat.le_trans this.2.2.2 (by unfold maxLen; omega)⟩)
        obtain ⟨t1, t2⟩ := tags false HN.out HM.out.ok HM.out.pair.1 HM.out.pair.2
        rw [HBASE.out] at t1 t2
        rw [app_nil] at t2
        have zs := Nat.le_trans (src_size cs base HM.out.sz) (show base.size + 13 * cs.length ≤ 111 by have := HM.out.len; have := HBZ.out; omega)
        have hal : (acT false cs).length ≤ 8 := by have := HM.out.len; unfold acT; simp; try omega
        have HAL := Lib.hid hal
        have zb : (srcC base cs ++ tailB).size ≤ 900000 := by rw [ByteArray.size_append]; have : tailB.size = 3 := rfl; omega
        have N1 := next_as (srcC base cs ++ tailB) ⟨#[]⟩ zb (by decide) 0 (by decide) 0 rfl ⟨kindOf false, n, ⟨#[]⟩, acT false cs, false⟩ ((srcC base cs).size + 2) true t1 (((srcC base cs).size : Int) + 2) (by omega)
        have N2 := next_as (srcC base cs) ⟨#[]⟩ (by omega) (by decide) 0 (by decide) 0 rfl tok0 (srcC base cs).size false t2 ((srcC base cs).size : Int) rfl
        unfold tokV at N1 N2
        unfold tailB at N1
        dsimp only at N1
        have SN1 := Lib.hid N1
        have SN2 : Hid (∀ W, Calls Tryz.prog 11 #[.string (srcC base cs), .int .i64 0, .string ⟨#[]⟩] W fun e w' => ∃ A ac, e = .returned (.tuple #[.agg #[.int .i64 0, .string ⟨#[]⟩, .string ⟨#[]⟩, .slice A 0 ac, .bool false], .int .i64 ((srcC base cs).size : Int), .bool false]) ∧ Below W.heap.size W w') := Lib.hid fun W => (N2 W).mono fun e w' ⟨A, ac, h1, h2, h3, h4⟩ => ⟨A, ac, h1, h3⟩
        have HAT' := Lib.hid hat'
        have hw2 : IntKind.i64.wrap (((srcC base cs).size : Int) + 2) = ((srcC base cs).size : Int) + 2 := IntWalk.i64_in _ (by omega)
        clear t1 t2 N1 N2 hat' zb hal
        generalize srcC base cs = S at *
        generalize acT false cs = al at *
        go_wp2_with fail
        refine (SN1.out _).mono ?_
        rintro e w2 ⟨A1, k1, rfl, ha1, hb1, _⟩
        have T1B := ((Below.refl _ w2).alloc (Nat.le_refl _) (.cells #[.int .i64 (kindOf false), .string n, .string ⟨#[]⟩, .slice A1 al.length k1, .bool false] 25))
        have hb2 := hb1.trans (T1B.mono hb1.size)
        have HT2 := Lib.hid ((HT.out.keep hb2))
        replace HAT' := Lib.hid (isAttrs_below HAT'.out hb2)
        have HA1 := Lib.hid (isAttrs_below ha1 T1B)
        have HK1 := Lib.hid (alloc_new w2 (.cells #[.int .i64 (kindOf false), .string n, .string ⟨#[]⟩, .slice A1 al.length k1, .bool false] 25))
        clear ha1 hb1 hb2 T1B
        go_wp2_with fail
        refine (SN2.out _).mono ?_
        rintro e w3 ⟨A2, k2, rfl, hb3⟩
        have hb4 := hb3.trans ((Below.refl _ w3).alloc hb3.size (.cells #[.int .i64 0, .string ⟨#[]⟩, .string ⟨#[]⟩, .slice A2 0 k2, .bool false] 25))
        have HT4 := Lib.hid (HT2.out.keep hb4)
        replace HAT' := Lib.hid (isAttrs_below HAT'.out hb4)
        replace HA1 := Lib.hid (isAttrs_below HA1.out hb4)
        replace HK1 := Lib.hid ((hb4.block _ (lt_of_block HK1.out)).trans HK1.out)
        obtain ⟨x0, x1, x2, x3, x4⟩ := tbox5 HK1.out
        obtain ⟨y0, y1, y2, y3, y4⟩ := tbox5 HT4.out.tok
        have HB4 := Lib.hid HT4.out.bel
        clear hb3 hb4
        go_wp2_with fail
        refine (same_own ⟨kindOf false, n, ⟨#[]⟩, al, false⟩ A1 A' k1 ac' _ (Nat.le_trans HAL.out (by decide)) HA1.out HAT'.out).mono ?_
        rintro e w5 ⟨rfl, hb⟩
        have HB5 := Lib.hid (HB4.out.trans (hb.mono HB4.out.size))
        clear hb
        go_wp2_with fail
        refine (awake_calls _).mono ?_
        rintro e w6 ⟨rfl, hb⟩
        have HB6 := Lib.hid (HB5.out.trans (hb.mono HB5.out.size))
        clear hb
        go_wp2_with fail
        go_ret
        exact ⟨rfl, HB6.out⟩
end Go.Proofs.YtpbdkloohhjapaaGreat.Wk
