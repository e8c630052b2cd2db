/- Maps. -/
import Derived.Test.YtioaigedcoapcaaGreatDoorAxGd
import Derived.RangeFuncRecord
namespace Go.Ax
open Go
variable {P : Program}
theorem keySh_desc {t : Nat} {k : KeyK} (h : keySh P t = some k) :
    (k.agg = false ∧ ((∃ q, undl P t = .int q ∧ k.sh = [kNum q]) ∨ (undl P t = .string ∧ k.sh = [8]) ∨ (undl P t = .bool ∧ k.sh = [9]))) ∨ (k.agg = true ∧ ((∃ fs, undl P t = .struct fs) ∨ ∃ n e, undl P t = .array n e)) := by
  unfold keySh at h
  split at h
  · rename_i s hs
    split at h
    · cases h
      have hag : ∀ dd, undl P t = dd → isAggB P t = isAggD dd := fun dd e => by unfold isAggB; rw [e]
      have hs : (match undl P t with
        | .int k => some [kNum k]
        | .string => some [8]
        | .bool => some [9]
        | .struct fs => (match P.stoodInHeld t with
          | true => none
          | false => shFs P (shT P 3) 0 fs.toList)
        | .array n e => (match shT P 3 e with
          | some s => (match Nat.beq (len s) (szOf P e) with
            | true => some (repS n s)
            | false => none)
          | none => none)
        | _ => none) = some s := hs
      split at hs
      · rename_i q hu; cases hs; exact .inl ⟨hag _ hu, .inl ⟨q, hu, rfl⟩⟩
      · rename_i hu; cases hs; exact .inl ⟨hag _ hu, .inr (.inl ⟨hu, rfl⟩)⟩
      · rename_i hu; cases hs; exact .inl ⟨hag _ hu, .inr (.inr ⟨hu, rfl⟩)⟩
      · rename_i fs hu; exact .inr ⟨hag _ hu, .inl ⟨fs, hu⟩⟩
      · rename_i n e hu; exact .inr ⟨hag _ hu, .inr ⟨n, e, hu⟩⟩
      · cases hs
    · cases h
  · cases h
theorem sameNow_ok {t : Nat} {k : KeyK} (hk : keySh P t = some k) (hg : k.agg = false) {φ : Phi} {x y : AV} {u v : Value} (hx : okKey k x = true) (hy : okKey k y = true) (hu : V φ x u) (hv : V φ y v) : ∃ r, Instr.sameNow (undl P t) u v = some r ∧ (r = true ↔ x = y) := by
  unfold okKey at hx hy
  rw [hg] at hx hy
  obtain ⟨c, hc, hx⟩ := fits_one (show fits k.sh [x] = true from hx)
  obtain ⟨c', hc', hy⟩ := fits_one (show fits k.sh [y] = true from hy)
  rw [hc] at hc'
  cases hc'
  rcases keySh_desc hk with ⟨_, hd⟩ | ⟨h, _⟩
  · rcases fit1_ok hx with ⟨j, n, rfl, h1⟩ | ⟨s, rfl, h1⟩ | ⟨b, rfl, h1⟩
    · rcases fit1_ok hy with ⟨j', m, rfl, h2⟩ | ⟨s, rfl, h2⟩ | ⟨b, rfl, h2⟩
      · have : j = j' := kNum_inj (h1.symm.trans h2)
        subst this
        have hu : u = .int j n := hu
        have hv : v = .int j m := hv
        subst hu; subst hv
        rcases hd with ⟨q, hq, _⟩ | ⟨_, e⟩ | ⟨_, e⟩
        · rw [hq]
          exact ⟨n == m, by simp [Instr.sameNow], by simp⟩
        · rw [hc] at e; have := kNum_lt j; simp at e; omega
        · rw [hc] at e; have := kNum_lt j; simp at e; omega
      · have := kNum_lt j; omega
      · have := kNum_lt j; omega
    · rcases fit1_ok hy with ⟨j', m, rfl, h2⟩ | ⟨s', rfl, h2⟩ | ⟨b, rfl, h2⟩
      · have := kNum_lt j'; omega
      · have hu : u = .string ⟨⟨s⟩⟩ := hu
        have hv : v = .string ⟨⟨s'⟩⟩ := hv
        subst hu; subst hv
        rcases hd with ⟨q, _, e⟩ | ⟨hq, _⟩ | ⟨_, e⟩
        · rw [hc] at e; have := kNum_lt q; simp at e; omega
        · rw [hq]
          refine ⟨(⟨⟨s⟩⟩ : ByteArray) == ⟨⟨s'⟩⟩, rfl, ?_⟩
          rw [beq_toListBytes, toList_mk, toList_mk]
          simp
        · rw [hc] at e; simp at e; omega
      · omega
    · rcases fit1_ok hy with ⟨j', m, rfl, h2⟩ | ⟨s', rfl, h2⟩ | ⟨b', rfl, h2⟩
      · have := kNum_lt j'; omega
      · omega
      · have hu : u = .bool b := hu
        have hv : v = .bool b' := hv
        subst hu; subst hv
        rcases hd with ⟨q, _, e⟩ | ⟨_, e⟩ | ⟨hq, _⟩
        · rw [hc] at e; have := kNum_lt q; simp at e; omega
        · rw [hc] at e; simp at e; omega
        · rw [hq]
          exact ⟨b == b', rfl, by simp⟩
  · rw [hg] at h; cases h
/-- Where an entry was found. -/
def Found (k : KeyK) (x : AV) (l : List (AV × AV × Nat)) (ents : List MapEntry) : Option (AV × Nat) → Option (Nat × Value) → Prop
  | none, r => r = none
  | some p, r => ∃ i e ent, r = some (i, ent.val) ∧ l[i]? = some e ∧ ents[i]? = some ent ∧ e.1 = x ∧ e.2 = p ∧ (∀ v, setAt k x v l = l.set i (x, v, p.2)) ∧ delAt k x l = l.eraseIdx i
theorem findE_cons (k : KeyK) (x : AV) (e : AV × AV × Nat) (l : List (AV × AV × Nat)) : findE k x (e :: l) = @Option.rec _ (fun _ => Option (Option (AV × Nat))) none (fun r => @Bool.rec (fun _ => Option (Option (AV × Nat))) (findE k x l) (some (some e.2)) r) (eqKK k x e.1) := rfl
theorem setAt_cons (k : KeyK) (x v : AV) (e : AV × AV × Nat) (l : List (AV × AV × Nat)) : setAt k x v (e :: l) = @Bool.rec (fun _ => List (AV × AV × Nat)) (e :: setAt k x v l) ((x, v, e.2.2) :: l) (hitB (eqKK k x e.1)) := rfl
theorem delAt_cons (k : KeyK) (x : AV) (e : AV × AV × Nat) (l : List (AV × AV × Nat)) : delAt k x (e :: l) = @Bool.rec (fun _ => List (AV × AV × Nat)) (e :: delAt k x l) l (hitB (eqKK k x e.1)) := rfl
theorem find_ok {k : KeyK} {t : Nat} (hk : keySh P t = some k) {φ : Phi} {x : AV} {kv : Value} (hx : okKey k x = true) (hu : V φ x kv) (w : World) : ∀ {l : List (AV × AV × Nat)} {ents : List MapEntry} {r : Option (AV × Nat)} (i : Nat), ML φ l ents → findE k x l = some r →
    ∃ res, (Instr.findAsking t kv ents i).run P w = .ok (res.map fun p => (p.1 + i, p.2)) w ∧ (k.agg = false → Instr.findNow (undl P t) kv ents i = some (res.map fun p => (p.1 + i, p.2))) ∧ Found k x l ents r res
  | [], ents, r, i, hm, h => by
    have hm : ents = [] := hm
    subst hm
    cases h
    exact ⟨none, rfl, fun _ => rfl, rfl⟩
  | e :: l, ents, r, i, hm, h => by
    obtain ⟨ent, rest, rfl, hkv, hvv, hb, hm⟩ := hm
    rw [findE_cons] at h
    obtain ⟨b, h1, h2⟩ := opt_some h
    obtain ⟨q1, q2, q3⟩ := key_equal hk hx hu hkv h1 w
    have hsn : k.agg = false → Instr.sameNow (undl P t) kv ent.key = some b := fun hg => by
      obtain ⟨r', h3, h4⟩ := sameNow_ok hk hg hx q3 hu hkv
      have : r' = b := by rw [Bool.eq_iff_iff, h4, q2]
      rw [← this]
      exact h3
    have hhit : hitB (eqKK k x e.1) = b := by rw [h1]; rfl
    cases b with
    | true =>
      have h2 : some (some e.2) = some r := h2
      cases h2
      refine ⟨some (0, ent.val), ?_, fun hg => ?_, 0, e, ent, rfl, rfl, rfl, (q2.1 rfl).symm, rfl, fun v => ?_, ?_⟩
      · rw [Instr.findAsking, Sem.run_bind, q1]
        simp [Result.andThen]
      · rw [Instr.findNow, hsn hg]
        simp
      · rw [setAt_cons, hhit]
        rfl
      · rw [delAt_cons, hhit]
        rfl
    | false =>
      have h2 : findE k x l = some r := h2
      obtain ⟨res, h3, h4, h5⟩ := find_ok hk hx hu w (i + 1) hm h2
      refine ⟨res.map fun p => (p.1 + 1, p.2), ?_, fun hg => ?_, ?_⟩
      · rw [Instr.findAsking, Sem.run_bind, q1]
        simp only [Result.andThen]
        show (Instr.findAsking t kv rest (i + 1)).run P w = _
        rw [h3]
        cases res <;> simp [Nat.add_comm, Nat.add_left_comm]
      · rw [Instr.findNow, hsn hg]
        show Instr.findNow (undl P t) kv rest (i + 1) = _
        rw [h4 hg]
        cases res <;> simp [Nat.add_comm, Nat.add_left_comm]
      · cases r with
        | none =>
          have h5 : res = none := h5
          subst h5
          rfl
        | some p =>
          obtain ⟨j, e', ent', g1, g2, g3, g4, g5, g6, g7⟩ := h5
          subst g1
          refine ⟨j + 1, e', ent', rfl, by simpa using g2, by simpa using g3, g4, g5, fun v => ?_, ?_⟩
          · rw [setAt_cons, hhit]
            show e :: setAt k x v l = _
            rw [g6]
            rfl
          · rw [delAt_cons, hhit]
            show e :: delAt k x l = _
            rw [g7]
            rfl
theorem findKey_ok {k : KeyK} {t : Nat} (hk : keySh P t = some k) {φ : Phi} {x : AV} {kv : Value} (hx : okKey k x = true) (hu : V φ x kv) (w : World) {l : List (AV × AV × Nat)} {ents : List MapEntry} {r : Option (AV × Nat)} (hm : ML φ l ents) (h : findE k x l = some r) :
    ∃ res, (Instr.findKey t kv ents).run P w = .ok res w ∧ Found k x l ents r res := by
  obtain ⟨res, h1, h2, h3⟩ := find_ok hk hx hu w 0 hm h
  have hres : (res.map fun p => (p.1 + 0, p.2)) = res := by cases res <;> rfl
  rw [hres] at h1 h2
  refine ⟨res, ?_, h3⟩
  have hd := undl_run (rfl : undl P t = undl P t) (keySh_ok hk).1.known w
  rw [Instr.findKey, Sem.run_bind, hd]
  simp only [Result.andThen]
  cases hg : k.agg with
  | false => rw [h2 hg]; rfl
  | true =>
    have hsn : ∀ u v, Instr.sameNow (undl P t) u v = none := fun u v => by
      rcases keySh_desc hk with ⟨h, _⟩ | ⟨_, ⟨fs, h⟩ | ⟨n, e, h⟩⟩
      · rw [hg] at h; cases h
      · rw [h]; rfl
      · rw [h]; rfl
    cases ents with
    | nil =>
      have : Instr.findNow (undl P t) kv [] 0 = some none := rfl
      rw [this]
      have h1 : Result.ok none w = Result.ok res w := h1
      cases h1
      rfl
    | cons e es =>
      have : Instr.findNow (undl P t) kv (e :: es) 0 = none := by rw [Instr.findNow, hsn]
      rw [this]
      exact h1
theorem getObj_map {w : World} {r : Nat} {es : Array MapEntry} {clock : Nat} (hb : w.heap[r]? = some (.map es clock)) : (getObj r).run P w = .ok (.map es clock) w := by
  simp [getObj, Sem.run, hb]
theorem setObj_map {w : World} {r : Nat} {es : Array MapEntry} {clock : Nat} (o : Obj) (hb : w.heap[r]? = some (.map es clock)) : (setObj r o).run P w = .ok () (w.putObj r o) := by
  simp [setObj, Sem.run, hb, World.putObj]
theorem ML.get {φ : Phi} : ∀ {l : List (AV × AV × Nat)} {es : List MapEntry} {i : Nat} {e : AV × AV × Nat}, ML φ l es → l[i]? = some e → ∃ ent, es[i]? = some ent ∧ V φ e.1 ent.key ∧ V φ e.2.1 ent.val ∧ ent.born = e.2.2
  | [], _, _, _, _, h => by simp at h
  | x :: l, es, i, e, hm, h => by
    obtain ⟨ent, r, rfl, h1, h2, h3, h4⟩ := hm
    cases i with
    | zero =>
      have h : x = e := by simpa using h
      subst h
      exact ⟨ent, rfl, h1, h2, h3⟩
    | succ i =>
      have h : l[i]? = some e := by simpa using h
      obtain ⟨ent', h5, h6⟩ := ML.get h4 h
      exact ⟨ent', by simpa using h5, h6⟩
theorem ML.set {φ : Phi} {x v : AV} {ku vu : Value} {b : Nat} (hk : V φ x ku) (hv : V φ v vu) : ∀ {l : List (AV × AV × Nat)} {es : List MapEntry} (i : Nat), ML φ l es → ML φ (l.set i (x, v, b)) (es.set i ⟨ku, vu, b⟩)
  | [], es, i, hm => by
    have hm : es = [] := hm
    subst hm
    rfl
  | y :: l, es, i, hm => by
    obtain ⟨ent, r, rfl, h1, h2, h3, h4⟩ := hm
    cases i with
    | zero => exact ⟨_, r, rfl, hk, hv, rfl, h4⟩
    | succ i => exact ⟨ent, _, rfl, h1, h2, h3, ML.set hk hv i h4⟩
theorem ML.push {φ : Phi} {x v : AV} {ku vu : Value} {b : Nat} (hk : V φ x ku) (hv : V φ v vu) : ∀ {l : List (AV × AV × Nat)} {es : List MapEntry}, ML φ l es → ML φ (pushE l x v b) (es ++ [⟨ku, vu, b⟩])
  | [], es, hm => by
    have hm : es = [] := hm
    subst hm
    exact ⟨_, [], rfl, hk, hv, rfl, rfl⟩
  | y :: l, es, hm => by
    obtain ⟨ent, r, rfl, h1, h2, h3, h4⟩ := hm
    exact ⟨ent, _, rfl, h1, h2, h3, ML.push hk hv h4⟩
theorem ML.erase {φ : Phi} : ∀ {l : List (AV × AV × Nat)} {es : List MapEntry} (i : Nat), ML φ l es → ML φ (l.eraseIdx i) (es.eraseIdx i)
  | [], es, i, hm => by
    have hm : es = [] := hm
    subst hm
    rfl
  | y :: l, es, i, hm => by
    obtain ⟨ent, r, rfl, h1, h2, h3, h4⟩ := hm
    cases i with
    | zero => exact h4
    | succ i => exact ⟨ent, _, rfl, h1, h2, h3, ML.erase i h4⟩
section
variable {dst : Option Tmp} {type : TypeId} {pos : String} {after : Array Edge} {guard : Option (Nat × Bool)}
theorem ok_lookup {t q e : TypeId} {x y : Operand} {ok : Bool} {k : KeyK} {z : AV} (ht : undl P t = .map q e) (hk : keySh P q = some k) (hz : zeroA P e = some z) :
    Red P ⟨dst, .lookup t x y ok, type, pos, after, guard⟩ fun xs h => on2 none (fun a b => lookupF k z ok a b h) xs :=
  Red.of2 (f := fun a b h => lookupF k z ok a b h) rfl fun φ h w ρ a b r hR hf hv hu => by
    have hf : @Bool.rec (fun _ => Option AV) none (@Option.rec _ (fun _ => Option AV) none (fun r => match ok with
      | true => (match r with
        | some p => some (.tup [p.1, .bool true])
        | none => some (.tup [z, .bool false]))
      | false => (match r with
        | some p => some p.1
        | none => some z)) (lookupIn k a b h)) (okKey k b) = some r := hf
    obtain ⟨hb, hf⟩ := bool_some hf
    obtain ⟨o, ho, hf⟩ := opt_some hf
    obtain ⟨zv, i, hi, hvz, hzr⟩ := zeroA_ok hz φ
    have hd := undl_run ht (by intro e; cases e) w
    -- what the map holds
    have hes : ∃ l ents, findE k b l = some o ∧ ML φ l ents ∧ ((ρ x = .map none ∧ ents = []) ∨ ∃ m c, ρ x = .map (some m) ∧ w.heap[m]? = some (.map ents.toArray c)) := by
      rcases AV.onMp_some ho with ⟨j, rfl, h1⟩ | ⟨hn, h1⟩
      · obtain ⟨es, c, h2, h3⟩ := onMap_some h1
        obtain ⟨p, ents, _, h5, h6, h7⟩ := hR.map h2 hv
        exact ⟨es, ents.toList, h3, h7, .inr ⟨p.b, c, h5, by simpa using h6⟩⟩
      · cases a with
        | nilm => cases h1; exact ⟨[], [], rfl, rfl, .inl ⟨hv, rfl⟩⟩
        | _ => cases h1
    obtain ⟨l, ents, h1, h2, h3⟩ := hes
    obtain ⟨res, h4, h5⟩ := findKey_ok hk hb hu w h2 h1
    have hchk := fun em => key_check hk hb hu em w
    have run : ∀ (v : Value) (b' : Bool), ((∃ j, res = some (j, v) ∧ b' = true) ∨ (res = none ∧ v = zv ∧ b' = false)) → (Instr.lookup t (ρ x) (ρ y) ok).run P w = .ok (if ok then Value.tuple #[v, .bool b'] else v) w := by
      intro v b' hr
      rcases h3 with ⟨hx, rfl⟩ | ⟨m, c, hx, hm⟩ <;> rcases hr with ⟨j, rfl, rfl⟩ | ⟨rfl, rfl, rfl⟩
      · rw [hx]
        simp only [Instr.lookup, Sem.run_bind, hd, Result.andThen, Sem.run_pure, hchk, h4]
      · rw [hx]
        simp only [Instr.lookup, Sem.run_bind, hd, Result.andThen, Sem.run_pure, hchk, h4, hzr]
      · rw [hx]
        simp only [Instr.lookup, Sem.run_bind, hd, Result.andThen, Sem.run_pure, getObj_map hm, hchk, h4]
      · rw [hx]
        simp only [Instr.lookup, Sem.run_bind, hd, Result.andThen, Sem.run_pure, getObj_map hm, hchk, h4, hzr]
    have fin : ∀ (v : Value) (b' : Bool), (∃ vv, V φ vv v ∧ some r = (match ok with | true => some (AV.tup [vv, .bool b']) | false => some vv)) → ((∃ j, res = some (j, v) ∧ b' = true) ∨ (res = none ∧ v = zv ∧ b' = false)) →
        ∃ v, V φ r v ∧ (execOp ρ ⟨dst, .lookup t x y ok, type, pos, after, guard⟩).run P w = .ok (.value v) w := by
      rintro v b' ⟨vv, hvv, hr⟩ hres
      refine ⟨if ok then Value.tuple #[v, .bool b'] else v, ?_, run_v (run v b' hres)⟩
      cases ok with
      | true => cases hr; exact ⟨_, rfl, VL.cons hvv (VL.mk1 rfl)⟩
      | false => cases hr; exact hvv
    cases o with
    | none =>
      have h5 : res = none := h5
      subst h5
      exact fin zv false ⟨z, hvz, by cases ok <;> exact hf.symm⟩ (.inr ⟨rfl, rfl, rfl⟩)
    | some p =>
      obtain ⟨j, e', ent, rfl, g2, g3, g4, g5, _⟩ := h5
      have hval : V φ p.1 ent.val := by
        obtain ⟨ent', h6, _, h7, _⟩ := h2.get g2
        rw [g3] at h6
        cases h6
        rw [← g5]
        exact h7
      exact fin ent.val true ⟨p.1, hval, by cases ok <;> exact hf.symm⟩ (.inl ⟨j, rfl, rfl⟩)
end
end Go.Ax
namespace Go.Ax
open Go
variable {P : Program}
/-- A key is one value. -/
theorem V.key {φ : Phi} {c : Nat} {x : AV} {u v : Value} (hx : fit1 c x = true) (hu : V φ x u) (hv : V φ x v) : u = v ∧ ∀ n, Instr.sameBits n u u = true := by
  rcases fit1_ok hx with ⟨k, n, rfl, _⟩ | ⟨s, rfl, _⟩ | ⟨b, rfl, _⟩
  · have hu : u = .int k n := hu
    have hv : v = .int k n := hv
    subst hu; subst hv
    exact ⟨rfl, fun n => by cases n <;> simp [Instr.sameBits]⟩
  · have hu : u = .string ⟨⟨s⟩⟩ := hu
    have hv : v = .string ⟨⟨s⟩⟩ := hv
    subst hu; subst hv
    exact ⟨rfl, fun n => by cases n <;> simp [Instr.sameBits, beq_toListBytes]⟩
  · have hu : u = .bool b := hu
    have hv : v = .bool b := hv
    subst hu; subst hv
    exact ⟨rfl, fun n => by cases n <;> simp [Instr.sameBits]⟩
theorem VL.keys {φ : Phi} : ∀ {s : List Nat} {l : List AV} {us vs : List Value}, fits s l = true → VL φ l us → VL φ l vs → us = vs ∧ ∀ n, (us.zip us).all (fun (x, y) => Instr.sameBits n x y) = true
  | [], [], us, vs, _, hu, hv => by
    have hu : us = [] := hu
    have hv : vs = [] := hv
    subst hu; subst hv
    exact ⟨rfl, fun _ => rfl⟩
  | [], _ :: _, _, _, h, _, _ => by cases h
  | _ :: _, [], _, _, h, _, _ => by cases h
  | c :: s, x :: l, us, vs, h, hu, hv => by
    have h : (fit1 c x && fits s l) = true := h
    rw [Bool.and_eq_true] at h
    obtain ⟨u, us, rfl, h1, h2⟩ := hu
    obtain ⟨v, vs, rfl, h3, h4⟩ := hv
    obtain ⟨rfl, h5⟩ := V.key h.1 h1 h3
    obtain ⟨rfl, h6⟩ := VL.keys h.2 h2 h4
    refine ⟨rfl, fun n => ?_⟩
    rw [List.zip_cons_cons, List.all_cons, h6 n]
    show (Instr.sameBits n u u && true) = true
    rw [h5 n]
    rfl
theorem key_one {k : KeyK} {φ : Phi} {x : AV} {u v : Value} (hx : okKey k x = true) (hu : V φ x u) (hv : V φ x v) : u = v ∧ Instr.sameBits 10000 u u = true := by
  unfold okKey at hx
  cases hg : k.agg with
  | true =>
    rw [hg] at hx
    cases x with
    | agg l =>
      obtain ⟨us, rfl, h1, _⟩ := hu
      obtain ⟨vs, rfl, h2, _⟩ := hv
      obtain ⟨h3, h4⟩ := VL.keys (show fits k.sh l = true from hx) h1 h2
      refine ⟨by rw [Array.toList_inj.1 h3], ?_⟩
      show (us.size == us.size && (us.toList.zip us.toList).all fun (x, y) => Instr.sameBits 9999 x y) = true
      rw [h4 9999]
      simp
    | _ => cases hx
  | false =>
    rw [hg] at hx
    obtain ⟨c, _, hx⟩ := fits_one (show fits k.sh [x] = true from hx)
    obtain ⟨h1, h2⟩ := V.key hx hu hv
    exact ⟨h1, h2 _⟩
theorem modify_set (f : MapEntry → MapEntry) : ∀ {l : List MapEntry} {i : Nat} {e : MapEntry}, l[i]? = some e → l.modify i f = l.set i (f e)
  | [], _, _, h => by simp at h
  | x :: l, 0, e, h => by
    have h : x = e := by simpa using h
    subst h
    rfl
  | x :: l, i + 1, e, h => by
    have h : l[i]? = some e := by simpa using h
    rw [List.modify_succ_cons, List.set_cons_succ, modify_set f h]
theorem modify_found {l : List MapEntry} {i : Nat} {e : MapEntry} (f : MapEntry → MapEntry) (h : l[i]? = some e) : (l.toArray.modify i f).toList = l.set i (f e) := by
  rw [Array.toList_modify]
  exact modify_set f h
/-- What was found, under its own key. -/
theorem found_key {k : KeyK} {φ : Phi} {x : AV} {kv : Value} {l : List (AV × AV × Nat)} {ents : List MapEntry} {p : AV × Nat} {res : Option (Nat × Value)} (hx : okKey k x = true) (hu : V φ x kv) (hm : ML φ l ents) (hf : Found k x l ents (some p) res) (w : World) :
    ∃ i ent, res = some (i, ent.val) ∧ ents[i]? = some ent ∧ ent.key = kv ∧ ent.born = p.2 ∧ V φ p.1 ent.val ∧ (Instr.keyThatStays (((ents.toArray[i]?).map (·.key)).getD kv) kv).run P w = .ok kv w ∧ (∀ v, setAt k x v l = l.set i (x, v, p.2)) ∧ delAt k x l = l.eraseIdx i := by
  obtain ⟨i, e, ent, h1, h2, h3, h4, h5, h6, h7⟩ := hf
  obtain ⟨ent', g1, g2, g3, g4⟩ := hm.get h2
  rw [h3] at g1
  cases g1
  rw [h4] at g2
  obtain ⟨h8, h9⟩ := key_one hx g2 hu
  refine ⟨i, ent, h1, h3, h8, by rw [g4, ← h5], by rw [← h5]; exact g3, ?_, h6, h7⟩
  have e1 : ((ents.toArray[i]?).map (·.key)).getD kv = kv := by
    rw [List.getElem?_toArray, h3]
    exact h8
  rw [e1, Instr.keyThatStays, ← h8, h9]
  rfl
section
variable {dst : Option Tmp} {type : TypeId} {pos : String} {after : Array Edge} {guard : Option (Nat × Bool)}
theorem onMapC {b : Blk} {f : List (AV × AV × Nat) → Nat → RC} {r : AV} {h' : Hp} (h : Blk.onMap b RC.bad f = .ok r h') : ∃ es c, b = .mp es c ∧ f es c = .ok r h' := by
  cases b with
  | mp es c => exact ⟨es, c, rfl, h⟩
  | _ => cases h
theorem Step.mapped {φ : Phi} {h : Hp} {w : World} {i : Id} {p : Pl} {es es' : List (AV × AV × Nat)} {c c' : Nat} {ents' : Array MapEntry} (r : Rel φ h w) (hg : h.get i = .mp es c) (hp : φ i = some p) (hlt : p.b < w.heap.size) (hm : ML φ es' ents'.toList) :
    Step φ h w φ (h.put i (.mp es' c')) (w.putObj p.b (.map ents' c')) :=
  Step.wrote r (by rw [hg]; rfl) hp ⟨_, rfl⟩ fun _ => ⟨⟨ents', World.putObj_heap_same hlt, hm⟩, rfl⟩
theorem three_ok {φ : Phi} {a b c : AV} {vs : List Value} (h : VL φ [a, b, c] vs) : ∃ u v w, vs = [u, v, w] ∧ V φ a u ∧ V φ b v ∧ V φ c w := by
  obtain ⟨u, r, rfl, h1, v, r, rfl, h2, w, r, rfl, h3, h4⟩ := h
  have h4 : r = [] := h4
  subst h4
  exact ⟨u, v, w, rfl, h1, h2, h3⟩
theorem update_run {t q e : TypeId} {k : KeyK} (ht : undl P t = .map q e) (hk : keySh P q = some k) {φ : Phi} {h h' : Hp} {w : World} {m x v r : AV} {mv xv vv : Value} (hR : Rel φ h w) (hm : V φ m mv) (hx : V φ x xv) (hv : V φ v vv) {ck : CK} (hf : updateF k ck [m, x, v] h = .ok r h') :
    r = undef ∧ ∃ w', (Instr.mapUpdate t mv xv vv).run P w = .ok () w' ∧ Step φ h w φ h' w' := by
  cases m with
  | mp i =>
    have hf : @Bool.rec (fun _ => RC) RC.bad (Blk.onMap (h.get i) RC.bad fun es c => @Option.rec _ (fun _ => RC) RC.bad (fun r => match (generalizing := false) r with
      | some _ => RC.ok undef (h.put i (.mp (setAt k x v es) c))
      | none => RC.ok undef (h.put i (.mp (pushE es x v c) (c + 1)))) (findE k x es)) (okKey k x) = .ok r h' := hf
    obtain ⟨hb, hf⟩ := boolC_ok hf
    obtain ⟨es, c, hg, hf⟩ := onMapC hf
    obtain ⟨o, ho, hf⟩ := optC_ok hf
    obtain ⟨p, ents, hp, rfl, hw, hml⟩ := hR.f.map hg hm
    have hlt := (hR.fresh i p hp).1
    have hd := undl_run ht (by intro e; cases e) w
    obtain ⟨res, h4, h5⟩ := findKey_ok hk hb hx w hml ho
    have hchk := key_check hk hb hx false w
    cases o with
    | none =>
      cases hf
      have h5 : res = none := h5
      subst h5
      refine ⟨rfl, w.putObj p.b (.map (ents.push { key := xv, val := vv, born := c }) (c + 1)), ?_, Step.mapped hR hg hp hlt (by rw [Array.toList_push]; exact hml.push hx hv)⟩
      simp only [Instr.mapUpdate, Sem.run_bind, hd, Result.andThen, getObj_map hw, hchk, h4, setObj_map _ hw]
    | some pr =>
      cases hf
      obtain ⟨j, ent, rfl, g1, g2, g3, _, g4, g5, _⟩ := found_key (P := P) hb hx hml h5 w
      refine ⟨rfl, w.putObj p.b (.map (ents.modify j fun e => { e with key := xv, val := vv }) c), ?_, Step.mapped hR hg hp hlt ?_⟩
      · have g4 : (Instr.keyThatStays (((ents[j]?).map (·.key)).getD xv) xv).run P w = .ok xv w := g4
        simp only [Instr.mapUpdate, Sem.run_bind, hd, Result.andThen, getObj_map hw, hchk, h4, g4, setObj_map _ hw]
      · have := modify_found (l := ents.toList) (fun e => { e with key := xv, val := vv }) g1
        rw [show ents.toList.toArray = ents from rfl] at this
        rw [this, g5, ← g3]
        exact ML.set hx hv j hml
  | _ => cases hf
theorem ok_mapUpdate {t q e : TypeId} {a b c : Operand} {k : KeyK} {ck : CK} (ht : undl P t = .map q e) (hk : keySh P q = some k) : Ef P ⟨dst, .mapUpdate t a b c, type, pos, after, guard⟩ (updateF k ck) := by
  intro φ h w ρ xs r h' hR hf hv
  have hx3 : ∃ m x v, xs = [m, x, v] := by
    unfold updateF at hf
    split at hf
    · exact ⟨_, _, _, rfl⟩
    · cases hf
  obtain ⟨m, x, v, rfl⟩ := hx3
  obtain ⟨mv, xv, vv, e1, h1, h2, h3⟩ := three_ok hv
  have e1 : [ρ a, ρ b, ρ c] = [mv, xv, vv] := e1
  cases e1
  obtain ⟨rfl, w', h4, h5⟩ := update_run ht hk hR h1 h2 h3 hf
  exact ⟨φ, w', Go.undef, .inr ⟨run_u h4, rfl⟩, V.undef, h5⟩
theorem ok_insert {t q e : TypeId} {a b c : Operand} {k : KeyK} {ck : CK} (ht : undl P t = .map q e) (hk : keySh P q = some k) : Ef P ⟨dst, .insert t a b c, type, pos, after, guard⟩ (updateF k ck) := by
  intro φ h w ρ xs r h' hR hf hv
  have hx3 : ∃ m x v, xs = [m, x, v] := by
    unfold updateF at hf
    split at hf
    · exact ⟨_, _, _, rfl⟩
    · cases hf
  obtain ⟨m, x, v, rfl⟩ := hx3
  obtain ⟨mv, xv, vv, e1, h1, h2, h3⟩ := three_ok hv
  have e1 : [ρ a, ρ b, ρ c] = [mv, xv, vv] := e1
  cases e1
  obtain ⟨rfl, w', h4, h5⟩ := update_run ht hk hR h1 h2 h3 hf
  exact ⟨φ, w', Go.undef, .inr ⟨run_u h4, rfl⟩, V.undef, h5⟩
theorem ok_mapEntry {t q e : TypeId} {a b : Operand} {k : KeyK} {z : AV} {ck : CK} (ht : undl P t = .map q e) (hk : keySh P q = some k) (hz : zeroA P e = some z) : Ef P ⟨dst, .mapEntry t a b, type, pos, after, guard⟩ (entryF k z ck) := by
  intro φ h w ρ xs r h' hR hf hv
  unfold entryF at hf
  split at hf
  · rename_i i x
    obtain ⟨mv, xv, e1, hm, hx⟩ := hv.two
    have e1 : [ρ a, ρ b] = [mv, xv] := e1
    cases e1
    have hf : @Bool.rec (fun _ => RC) RC.bad (Blk.onMap (h.get i) RC.bad fun es c => @Option.rec _ (fun _ => RC) RC.bad (fun r => match (generalizing := false) r with
      | some p => RC.ok (.tup [p.1, .int .i64 (.ofNat p.2)]) (h.put i (.mp (setAt k x p.1 es) c))
      | none => RC.ok (.tup [z, .int .i64 (.ofNat c)]) (h.put i (.mp (pushE es x z c) (c + 1)))) (findE k x es)) (okKey k x) = .ok r h' := hf
    obtain ⟨hb, hf⟩ := boolC_ok hf
    obtain ⟨es, c, hg, hf⟩ := onMapC hf
    obtain ⟨o, ho, hf⟩ := optC_ok hf
    obtain ⟨p, ents, hp, hmv, hw, hml⟩ := hR.f.map hg hm
    have hlt := (hR.fresh i p hp).1
    have hd := undl_run ht (by intro e; cases e) w
    obtain ⟨zv, i0, hi0, hvz, hzr⟩ := zeroA_ok hz φ
    obtain ⟨res, h4, h5⟩ := findKey_ok hk hb hx w hml ho
    have hchk := key_check hk hb hx false w
    cases o with
    | none =>
      cases hf
      have h5 : res = none := h5
      subst h5
      refine ⟨φ, w.putObj p.b (.map (ents.push { key := ρ b, val := zv, born := c }) (c + 1)), .tuple #[zv, goInt c], .inl (run_v ?_), ⟨_, rfl, VL.cons hvz (VL.mk1 rfl)⟩, Step.mapped hR hg hp hlt (by rw [Array.toList_push]; exact hml.push hx hvz)⟩
      rw [hmv]
      simp only [Instr.mapEntry, Sem.run_bind, hd, Result.andThen, getObj_map hw, hchk, h4, hzr, setObj_map _ hw, Sem.run_pure]
    | some pr =>
      cases hf
      obtain ⟨j, ent, rfl, g1, g2, g3, g0, g4, g5, _⟩ := found_key (P := P) hb hx hml h5 w
      refine ⟨φ, w.putObj p.b (.map (ents.modify j fun e => { e with key := ρ b }) c), .tuple #[ent.val, goInt ent.born], .inl (run_v ?_), ⟨_, rfl, VL.cons g0 (VL.mk1 (by rw [g3]; rfl))⟩, Step.mapped hR hg hp hlt ?_⟩
      · rw [hmv]
        have g4 : (Instr.keyThatStays (((ents[j]?).map (·.key)).getD (ρ b)) (ρ b)).run P w = .ok (ρ b) w := g4
        have g6 : ents[j]? = some ent := by rw [← Array.getElem?_toList]; exact g1
        simp only [Instr.mapEntry, Sem.run_bind, hd, Result.andThen, getObj_map hw, hchk, h4, g4, setObj_map _ hw, Sem.run_pure]
        rw [g6]
        rfl
      · have := modify_found (l := ents.toList) (fun e => { e with key := ρ b }) g1
        rw [show ents.toList.toArray = ents from rfl] at this
        rw [this, g5, ← g3]
        exact ML.set hx g0 j hml
  · cases hf
theorem ok_delete {args : Array Operand} {ts : Array TypeId} {t q e : TypeId} {k : KeyK} {ck : CK} (hts : ts[0]? = some t) (ht : undl P t = .map q e) (hk : keySh P q = some k) : Ef P ⟨dst, .call ⟨.builtin .delete, args, ts⟩, type, pos, after, guard⟩ (deleteF k ck) := by
  intro φ h w ρ xs r h' hR hf hv
  unfold deleteF at hf
  split at hf
  · rename_i i x
    obtain ⟨mv, xv, e1, hm, hx⟩ := args_two hv
    have hf : @Bool.rec (fun _ => RC) RC.bad (Blk.onMap (h.get i) RC.bad fun es c => @Option.rec _ (fun _ => RC) RC.bad (fun r => match (generalizing := false) r with
      | some _ => RC.ok undef (h.put i (.mp (delAt k x es) c))
      | none => RC.ok undef h) (findE k x es)) (okKey k x) = .ok r h' := hf
    obtain ⟨hb, hf⟩ := boolC_ok hf
    obtain ⟨es, c, hg, hf⟩ := onMapC hf
    obtain ⟨o, ho, hf⟩ := optC_ok hf
    obtain ⟨p, ents, hp, rfl, hw, hml⟩ := hR.f.map hg hm
    have hlt := (hR.fresh i p hp).1
    have hd := undl_run ht (by intro e; cases e) w
    obtain ⟨res, h4, h5⟩ := findKey_ok hk hb hx w hml ho
    have hchk := fun em => key_check hk hb hx em w
    have fin : ∀ w', (Builtin.delete_ ts type #[.map (some p.b), xv]).run P w = .ok (.tuple #[]) w' → Step φ h w φ h' w' → r = undef → ∃ φ' w' v, Ends P ⟨dst, .call ⟨.builtin .delete, args, ts⟩, type, pos, after, guard⟩ ρ w v w' ∧ V φ' r v ∧ Step φ h w φ' h' w' := by
      intro w' g1 g2 g3
      refine ⟨φ, w', .tuple #[], .inl ?_, by rw [g3]; exact V.undef, g2⟩
      rw [run_builtin, e1]
      exact run_v g1
    cases o with
    | none =>
      cases hf
      have h5 : res = none := h5
      subst h5
      refine fin (w.putObj p.b (.map ents c)) ?_ ?_ rfl
      · simp [Builtin.delete_, hts, Sem.run_bind, hd, Result.andThen, getObj_map hw, hchk, h4, setObj_map _ hw]
      · rw [putObj_self hw]
        exact Step.refl hR
    | some pr =>
      cases hf
      obtain ⟨j, ent, rfl, g1, g2, g3, g0, g4, g5, g6⟩ := found_key (P := P) hb hx hml h5 w
      refine fin (w.putObj p.b (.map (ents.eraseIdxIfInBounds j) c)) ?_ (Step.mapped hR hg hp hlt ?_) rfl
      · simp [Builtin.delete_, hts, Sem.run_bind, hd, Result.andThen, getObj_map hw, hchk, h4, setObj_map _ hw]
      · rw [g6, Array.toList_eraseIdxIfInBounds]
        exact hml.erase j
  · cases hf
theorem setBorn_cons (b : Nat) (v : AV) (e : AV × AV × Nat) (l : List (AV × AV × Nat)) : setBorn b v (e :: l) = @Bool.rec (fun _ => Option (List (AV × AV × Nat))) (@Option.rec _ (fun _ => Option (List (AV × AV × Nat))) none (fun l => some (e :: l)) (setBorn b v l)) (some ((e.1, v, e.2.2) :: l)) (Nat.beq e.2.2 b) := rfl
theorem setBorn_ok {φ : Phi} {b : Nat} {v : AV} {vv : Value} (hv : V φ v vv) : ∀ {l l' : List (AV × AV × Nat)} {ents : List MapEntry}, ML φ l ents → setBorn b v l = some l' → ∃ i, ents.findIdx? (fun e => (e.born : Int) == (b : Int)) = some i ∧ ML φ l' (ents.modify i fun e => { e with val := vv })
  | [], l', ents, _, h => by cases h
  | e :: l, l', ents, hm, h => by
    obtain ⟨ent, r, rfl, h1, h2, h3, h4⟩ := hm
    rw [setBorn_cons] at h
    cases hb : Nat.beq e.2.2 b with
    | true =>
      rw [hb] at h
      cases h
      have hbb := nat_beq hb
      refine ⟨0, ?_, ⟨_, r, rfl, h1, hv, by rw [← h3], h4⟩⟩
      rw [List.findIdx?_cons]
      simp [h3, hbb]
    | false =>
      rw [hb] at h
      have hbb := nat_nbeq hb
      obtain ⟨l1, h5, h6⟩ := opt_some h
      cases h6
      obtain ⟨i, h7, h8⟩ := setBorn_ok hv h4 h5
      refine ⟨i + 1, ?_, ⟨ent, _, rfl, h1, h2, h3, h8⟩⟩
      rw [List.findIdx?_cons, h7]
      have : ((ent.born : Int) == (b : Int)) = false := by
        rw [beq_eq_false_iff_ne, h3]
        intro e
        exact hbb (by exact_mod_cast e)
      simp [this]
theorem ok_entryStore {t : TypeId} {a b c : Operand} {ck : CK} : Ef P ⟨dst, .entryStore t a b c, type, pos, after, guard⟩ (entryStoreF ck) := by
  intro φ h w ρ xs r h' hR hf hv
  unfold entryStoreF at hf
  split at hf
  · rename_i i k n v
    obtain ⟨mv, xv, vv, e1, hm, hx, hvv⟩ := three_ok hv
    have e1 : [ρ a, ρ b, ρ c] = [mv, xv, vv] := e1
    cases e1
    have hf : Blk.onMap (h.get i) RC.bad (fun es c => @Option.rec _ (fun _ => RC) RC.bad (fun es => RC.ok undef (h.put i (.mp es c))) (setBorn n v es)) = .ok r h' := hf
    obtain ⟨es, c0, hg, hf⟩ := onMapC hf
    obtain ⟨es', ho, hf⟩ := optC_ok hf
    cases hf
    obtain ⟨p, ents, hp, hmv, hw, hml⟩ := hR.f.map hg hm
    have hlt := (hR.fresh i p hp).1
    obtain ⟨j, h1, h2⟩ := setBorn_ok hvv hml ho
    have hx : ρ b = .int k (n : Int) := hx
    refine ⟨φ, w.putObj p.b (.map (ents.modify j fun e => { e with val := ρ c }) c0), Go.undef, .inr ⟨run_u ?_, rfl⟩, V.undef, Step.mapped hR hg hp hlt (by rw [Array.toList_modify]; exact h2)⟩
    rw [hmv, hx]
    have h1 : ents.findIdx? (fun e => (e.born : Int) == (n : Int)) = some j := by
      rw [show ents = ents.toList.toArray from rfl, List.findIdx?_toArray]
      exact h1
    simp only [Instr.entryStore, Sem.run_bind, Result.andThen, getObj_map hw, asInt, asIntOf, Sem.run_pure, h1, setObj_map _ hw]
  · cases hf
end
end Go.Ax
namespace Go.Ax
open Go
variable {P : Program}
section
variable {dst : Option Tmp} {type : TypeId} {pos : String} {after : Array Edge} {guard : Option (Nat × Bool)}
theorem ok_next {it : Operand} {ck : CK} : Ef P ⟨dst, .next it true, type, pos, after, guard⟩ (nextF ck) := by
  intro φ h w ρ xs r h' hR hf hv
  unfold nextF at hf
  split at hf
  · rename_i i o
    split at hf
    · rename_i s ps hg
      obtain ⟨v, e1, hv1⟩ := hv.one
      have e1 : [ρ it] = [v] := e1
      cases e1
      obtain ⟨p, hp, hb, hx⟩ := hR.f.ptr hg.symm (by intro e; cases e) hv1
      obtain ⟨hbase, hw⟩ := hb
      have hat : p.at 0 = ⟨p.b, 0, none⟩ := by unfold Pl.at; rw [hbase]
      have hlt := (hR.fresh i p hp).1
      have hobj : (getObj p.b).run P w = .ok (.stringIter ⟨⟨s⟩⟩ ps) w := by simp [getObj, Sem.run, hw]
      split at hf
      · rename_i hdr
        cases hf
        rw [dropB_eq] at hdr
        have hlen : ¬ (ps < (⟨⟨s⟩⟩ : ByteArray).size) := by
          have : s.length ≤ ps := List.drop_eq_nil_iff.1 hdr
          have e : (⟨⟨s⟩⟩ : ByteArray).size = s.length := rfl
          omega
        refine ⟨φ, w, .tuple #[.bool false], .inl (run_v ?_), ⟨_, rfl, VL.mk1 rfl⟩, Step.refl hR⟩
        rw [hx, hat]
        simp only [Instr.next, Sem.run_bind, hobj, Result.andThen, if_neg hlen]
        rfl
      · rename_i hdr
        rw [dropB_eq] at hdr
        have hlen : ps < (⟨⟨s⟩⟩ : ByteArray).size := by
          have e : (⟨⟨s⟩⟩ : ByteArray).size = s.length := rfl
          rw [e]
          exact Nat.lt_of_not_le fun hle => hdr (List.drop_eq_nil_iff.2 hle)
        cases hdec : Utf8.decode ⟨⟨s⟩⟩ ps with
        | mk c wd =>
          rw [hdec] at hf
          cases hf
          refine ⟨φ, w.putObj p.b (.stringIter ⟨⟨s⟩⟩ (ps + wd)), .tuple #[.bool true, goInt ps, .int .i32 c], .inl (run_v ?_), ⟨_, rfl, VL.cons rfl (VL.cons rfl (VL.mk1 rfl))⟩,
            Step.wrote hR (by rw [hg]; rfl) hp ⟨_, rfl⟩ fun _ => ⟨⟨hbase, World.putObj_heap_same hlt⟩, rfl⟩⟩
          rw [hx, hat]
          have hset : (setObj p.b (.stringIter ⟨⟨s⟩⟩ (ps + wd))).run P w = .ok () (w.putObj p.b (.stringIter ⟨⟨s⟩⟩ (ps + wd))) := by simp [setObj, Sem.run, hw, World.putObj]
          simp only [Instr.next, Sem.run_bind, hobj, Result.andThen, if_pos hlen, hdec, hset]
          rfl
    · cases hf
  · cases hf
theorem shape_row {w : World} {b : Nat} {c : Array Value} {t : TypeId} {fr : Nat × Nat} (h : w.heap[b]? = some (.cells c t fr)) : (shape b).run P w = .ok (some (t, c.size)) w := by
  simp [shape, Sem.run, World.shape?, h]
theorem freeze_put {w : World} {b o n : Nat} {c : Array Value} {t : TypeId} {fr : Nat × Nat} (h : w.heap[b]? = some (.cells c t fr)) (hn : n ≠ 0) :
    w.freeze ⟨b, o, none⟩ n = w.putObj b (.cells c t (if fr.1 == fr.2 then (o, o + n) else (min fr.1 o, max fr.2 (o + n)))) := by
  obtain ⟨lo, hi⟩ := fr
  unfold World.freeze World.putObj
  rw [if_neg hn]
  congr 1
  apply Array.ext'
  rw [Array.toList_modify, Array.toList_setIfInBounds]
  have hl : w.heap.toList[b]? = some (.cells c t (lo, hi)) := by rw [Array.getElem?_toList]; exact h
  have : ∀ (l : List Obj) (i : Nat) (f : Obj → Obj) (x : Obj), l[i]? = some x → l.modify i f = l.set i (f x) := by
    intro l
    induction l with
    | nil => intro i f x h; simp at h
    | cons y l ih =>
      intro i f x h
      cases i with
      | zero =>
        have h : y = x := by simpa using h
        subst h
        rfl
      | succ i => rw [List.modify_succ_cons, List.set_cons_succ, ih i f x (by simpa using h)]
  rw [this _ _ _ _ hl]
theorem run_freeze (a : Addr) (n : Nat) (w : World) : (freeze a n).run P w = .ok () (w.freeze a n) := by simp [freeze, Sem.run]
/-- bytes that are marked behind their end. -/
theorem ok_conv_mark {s e : TypeId} {x : Operand} {ck : CK} (hs : undl P s = .slice e) (he : undl P e = .int .u8) :
    Ef P ⟨dst, .convert s s x, type, pos, after, guard⟩ ((fun (_ : CK) as h => match as with
        | [.sl i o n c] => Blk.onCells (h.get i) RC.bad (fun _ _ _ _ => RC.bad) fun _ _ _ _ _ => RC.ok (.sl i o n c) h
        | _ => RC.bad) ck) := by
  intro φ h w ρ xs r h' hR hf hv
  dsimp only at hf
  split at hf
  · rename_i i o n c
    obtain ⟨v, e1, hv1⟩ := hv.one
    have e1 : [ρ x] = [v] := e1
    cases e1
    obtain ⟨p, c', hp, hx, hle⟩ := V.slice hv1
    cases hb : h.get i with
    | arr ty es m d t =>
      rw [hb] at hf
      cases hf
      have hbr := hR.f.any hp
      rw [hb] at hbr
      obtain ⟨c0, fr, q1, q2, q3, q4, q5, q6, q7, q8⟩ := hbr
      have hds := undl_run hs (by intro e; cases e) w
      have hde := undl_run he (by intro e; cases e) w
      let fr' : Nat × Nat := if fr.1 == fr.2 then (c0.size, c0.size + 1) else (min fr.1 c0.size, max fr.2 (c0.size + 1))
      have hw' : w.freeze ⟨p.b, c0.size, none⟩ 1 = w.putObj p.b (.cells c0 ty fr') := freeze_put q1 (by decide)
      have hfz : noFz fr' c0.size := by
        obtain ⟨k1, k2⟩ := q6
        show noFz (if fr.1 == fr.2 then (c0.size, c0.size + 1) else (min fr.1 c0.size, max fr.2 (c0.size + 1))) c0.size
        by_cases hfr : fr.1 = fr.2
        · rw [if_pos (by simpa using hfr)]
          exact ⟨Nat.le_succ _, fun k hk hc => by simp at hc; omega⟩
        · rw [if_neg (by simpa using hfr)]
          have hlo : c0.size ≤ fr.1 := Nat.le_of_not_lt fun hlt => k2 fr.1 hlt ⟨Nat.le_refl _, by omega⟩
          refine ⟨?_, fun k hk hc => ?_⟩
          · show min fr.1 c0.size ≤ max fr.2 (c0.size + 1); omega
          · have : min fr.1 c0.size ≤ k := hc.1; omega
      have hlt := (hR.fresh i p hp).1
      have s1 : Step φ h w φ (h.put i (h.get i)) (w.freeze ⟨p.b, c0.size, none⟩ 1) := by
        rw [hw']
        refine Step.wrote hR (by rw [hb]; rfl) hp ⟨_, rfl⟩ fun _ => ⟨?_, by rw [hb]; rfl⟩
        rw [hb]
        exact ⟨c0, fr', World.putObj_heap_same hlt, q2, q3, q4, q5, hfz, q7, q8⟩
      have s2 : Step φ h w φ h (w.freeze ⟨p.b, c0.size, none⟩ 1) := by
        have hg : ∀ j, h.get j = (h.put i (h.get i)).get j := fun j => by
          rw [Hp.get_put]
          split
          · rename_i e; rw [e]
          · rfl
        have he : (fun j => h.get j) = (fun j => (h.put i (h.get i)).get j) := funext hg
        have he : h.get = (h.put i (h.get i)).get := he
        refine ⟨s1.le, ⟨he ▸ s1.rel.f, fun j q hq => by have := s1.rel.fresh j q hq; rwa [Hp.put_nx] at this⟩, s1.keep, fun b hb => s1.own b (he ▸ hb), Nat.le_refl _, s1.names, fun j hj hl => hl⟩
      refine ⟨φ, _, ρ x, .inl (run_v ?_), hv1, s2⟩
      rw [hx]
      have hmark : (markStringish (p.at o)).run P w = .ok () (w.freeze ⟨p.b, c0.size, none⟩ 1) := by
        unfold markStringish
        rw [Sem.run_bind]
        have : (shape (p.at o).block).run P w = .ok (some (ty, c0.size)) w := shape_row q1
        rw [this]
        exact run_freeze (P := P) _ _ _
      have hss : (s == s) = true := by simp
      simp only [convert, Sem.run_bind, hds, hde, Result.andThen, hss, hmark]
      rfl
    | _ => rw [hb] at hf; cases hf
  · cases hf
theorem seenAt_row {w : World} {a : Addr} {c : Array Value} {t : TypeId} {fr : Nat × Nat} (h : w.heap[a.block]? = some (.cells c t fr)) : (Conv.seenAt a).run P w = .ok a w := by
  unfold Conv.seenAt viewAt
  simp only [Sem.run_bind, shape_row h, Result.andThen]
  rfl
theorem ok_conv_up {s t e : TypeId} {x : Operand} (hs : undl P s = .pointer e) (ht : undl P t = .unsafePointer) (hz : Nat.beq (szOf P e) 0 = false) :
    Red P ⟨dst, .convert s t x, type, pos, after, guard⟩ fun xs h => on1 none (fun x => AV.onPtr x none fun i o => Blk.onCells (h.get i) none (fun _ m _ _ => @Bool.rec (fun _ => Option AV) none (some (.ptr i o)) (Nat.ble (Nat.succ o) m)) fun _ _ _ _ _ => none) xs :=
  Red.of1 (f := fun x h => AV.onPtr x none fun i o => Blk.onCells (h.get i) none (fun _ m _ _ => @Bool.rec (fun _ => Option AV) none (some (.ptr i o)) (Nat.ble (Nat.succ o) m)) fun _ _ _ _ _ => none) rfl fun φ h w ρ a r hR hf hv => by
    rcases AV.onPtr_some hf with ⟨i, o, rfl, h1⟩ | ⟨_, h1⟩
    · rcases onCells_some h1 with ⟨ty, m, l, ro, hb, h2⟩ | ⟨_, _, _, _, _, _, h2⟩
      · obtain ⟨h3, h4⟩ := bool_some h2
        cases h4
        obtain ⟨p, hp, hbr, hx⟩ := hR.ptr hb.symm (by intro e; cases e) hv
        obtain ⟨c, fr, ty', q1, q2, q3, q4, q5, q6⟩ := hbr
        have h3 := nat_ble h3
        refine ⟨ρ x, hv, run_v ?_⟩
        rw [hx]
        have hds := undl_run hs (by intro e; cases e) w
        have hdt := undl_run ht (by intro e; cases e) w
        obtain ⟨i', hi'⟩ := szOf_pos hz
        have hseen : (Conv.seenAt (p.at o)).run P w = .ok (p.at o) w := seenAt_row q1
        have hcells : (cellsIn (p.at o).block).run P w = .ok (some c.size) w := by
          unfold cellsIn
          rw [Sem.run_bind]
          have : (shape (p.at o).block).run P w = .ok (some (ty', c.size)) w := shape_row q1
          rw [this]
          rfl
        have hcs : c.size = m := by rw [q3, q4.length]; simp
        have hoff : ¬ (c.size ≤ (p.at o).off) := by
          have : (p.at o).off = o := by unfold Pl.at; rw [q2]; simp
          omega
        have h0 : szOf P e ≠ 0 := nat_nbeq hz
        simp [convert, Conv.unsafePointer, Sem.run_bind, hds, hdt, Result.andThen, hseen, hcells, sizeOf_run hi', hoff, h0]
      · cases h2
    · cases h1
theorem ok_conv_down {s t u : TypeId} {x : Operand} (hs : undl P s = .unsafePointer) (ht : undl P t = .pointer u) (hz : Nat.beq (szOf P u) 0 = false) :
    Red P ⟨dst, .convert s t x, type, pos, after, guard⟩ fun xs h => on1 none (fun x => AV.onPtr x none fun i o => Blk.onCells (h.get i) none (fun ty m _ ro => @Bool.rec (fun _ => Option AV) none (@Bool.rec (fun _ => Option AV) (some (.ptr i o)) none ro) (liesAt P P.depth ty (m / P.cellsOf ty) o u 1)) fun _ _ _ _ _ => none) xs :=
  Red.of1 (f := fun x h => AV.onPtr x none fun i o => Blk.onCells (h.get i) none (fun ty m _ ro => @Bool.rec (fun _ => Option AV) none (@Bool.rec (fun _ => Option AV) (some (.ptr i o)) none ro) (liesAt P P.depth ty (m / P.cellsOf ty) o u 1)) fun _ _ _ _ _ => none) rfl fun φ h w ρ a r hR hf hv => by
    rcases AV.onPtr_some hf with ⟨i, o, rfl, h1⟩ | ⟨_, h1⟩
    · rcases onCells_some h1 with ⟨ty, m, l, ro, hb, h2⟩ | ⟨_, _, _, _, _, _, h2⟩
      · obtain ⟨h3, h4⟩ := bool_some h2
        cases ro with
        | true => cases h4
        | false =>
          cases h4
          obtain ⟨p, hp, hbr, hx⟩ := hR.ptr hb.symm (by intro e; cases e) hv
          obtain ⟨c, fr, ty', q1, q2, q3, q4, q5, q6⟩ := hbr
          obtain ⟨_, rfl⟩ := q6 rfl
          refine ⟨ρ x, hv, run_v ?_⟩
          rw [hx]
          have hds := undl_run hs (by intro e; cases e) w
          have hdt := undl_run ht (by intro e; cases e) w
          obtain ⟨i', hi'⟩ := szOf_pos hz
          have hseen : (Conv.seenAt (p.at o)).run P w = .ok (p.at o) w := seenAt_row q1
          have hcs : c.size = m := by rw [q3, q4.length]; simp
          have hvar : (variablesAt (p.at o) u 1).run P w = .ok true w := by
            unfold variablesAt
            have hsh : (shape (p.at o).block).run P w = .ok (some (ty', c.size)) w := shape_row q1
            have hoff : (p.at o).off = o := by unfold Pl.at; rw [q2]; simp
            rw [Sem.run_bind]
            show ((do
              match ← shape (p.at o).block with
              | some (e, cells) => pure (liesAt P P.depth e (cells / P.cellsOf e) (p.at o).off u 1)
              | none => pure false : Sem Bool)).run P w = _
            rw [Sem.run_bind, hsh]
            simp only [Result.andThen, hoff, hcs, h3]
            rfl
          simp [convert, Conv.unsafePointer, Sem.run_bind, hds, hdt, Result.andThen, hseen, sizeOf_run hi', hvar]
      · cases h2
    · cases h1
end
end Go.Ax
namespace Go.Ax
open Go
variable {P : Program}
theorem liesAt_off {e : TypeId} (hc : P.cellsOf e = 1) (count off n : Nat) (hn : off + n ≤ count) : liesAt P P.depth e count off e n = true := by
  have hd : P.depth = (2 * (P.types.size + Made.depth) + 1) + 1 := rfl
  rw [hd]
  simp only [liesAt, Bool.or_eq_true]
  left
  rw [hd]
  simp [rowAt, hc, hn, sameLayout, Nat.mod_one]
theorem loadBytes_row {w : World} {b : Nat} {c : Array Value} {t : TypeId} {fr : Nat × Nat} (h : w.heap[b]? = some (.cells c t fr)) : ∀ (ns : List Nat) (o : Nat) (acc : List UInt8), (c.toList.drop o).take ns.length = ns.map (fun n => Value.int .u8 (Int.ofNat n)) →
    (loadBytes ⟨b, o, none⟩ ⟨⟨acc⟩⟩ ns.length).run P w = .ok ⟨⟨acc ++ ns.map UInt8.ofNat⟩⟩ w
  | [], o, acc, _ => by simp [loadBytes]
  | n :: ns, o, acc, hv => by
    have h0 : c[o]? = some (.int .u8 (Int.ofNat n)) := by
      have := congrArg (fun l : List Value => l[0]?) hv
      simpa using this
    have hrest : (c.toList.drop (o + 1)).take ns.length = ns.map (fun n => Value.int .u8 (Int.ofNat n)) := by
      have := congrArg (fun l : List Value => l.drop 1) hv
      simpa [List.drop_take, List.drop_drop] using this
    have ih := loadBytes_row h ns (o + 1) (acc ++ [UInt8.ofNat n]) hrest
    rw [List.length_cons, loadBytes, Sem.run_bind, run_load_row h h0]
    have e1 : (⟨b, o, none⟩ : Addr).add 1 = ⟨b, o + 1, none⟩ := addr_add b o 1
    have e2 : (⟨⟨acc⟩⟩ : ByteArray).push ((Int.ofNat n).toNat).toUInt8 = ⟨⟨acc ++ [UInt8.ofNat n]⟩⟩ := by
      apply ByteArray.ext
      have : ((Int.ofNat n).toNat).toUInt8 = UInt8.ofNat n := rfl
      rw [this]
      simp [ByteArray.push]
    simp only [Result.andThen]
    show (loadBytes ((⟨b, o, none⟩ : Addr).add 1) ((⟨⟨acc⟩⟩ : ByteArray).push ((Int.ofNat n).toNat).toUInt8) ns.length).run P w = _
    rw [e1, e2, ih]
    simp
section
variable {dst : Option Tmp} {type : TypeId} {pos : String} {after : Array Edge} {guard : Option (Nat × Bool)}
theorem ok_unsafeString {args : Array Operand} {ts : Array TypeId} {t e : TypeId} (hts : ts[0]? = some t) (ht : undl P t = .pointer e) :
    Ef P ⟨dst, .call ⟨.builtin .unsafeString, args, ts⟩, type, pos, after, guard⟩ fun xs h => on2 RC.bad (fun x y => match x, y with
      | .nilp, .int _ (.ofNat 0) => RC.ok (.str []) h
      | .ptr i o, .int _ (.ofNat n) => ustrF P e i o n h
      | _, _ => RC.bad) xs := by
  intro φ h w ρ xs r h' hR hf hv
  obtain ⟨x, y, rfl, hf2⟩ := on2_ok hf
  clear hf
  have hf := hf2
  clear hf2
  obtain ⟨xv, yv, e1, h1, h2⟩ := args_two hv
  have hmax : IntKind.i64.max = 9223372036854775807 := rfl
  have fin : ∀ w' v, (Builtin.unsafeString_ ts type #[xv, yv]).run P w = .ok v w' → V φ r v → Step φ h w φ h' w' → ∃ φ' w' v, Ends P ⟨dst, .call ⟨.builtin .unsafeString, args, ts⟩, type, pos, after, guard⟩ ρ w v w' ∧ V φ' r v ∧ Step φ h w φ' h' w' := by
    intro w' v g1 g2 g3
    refine ⟨φ, w', v, .inl ?_, g2, g3⟩
    rw [run_builtin, e1]
    exact run_v g1
  split at hf
  · cases hf
    have h1 : xv = .pointer none := h1
    have h2 : yv = .int _ 0 := h2
    subst h1; subst h2
    refine fin w (.string .empty) ?_ rfl (Step.refl hR)
    rw [show Builtin.unsafeString_ ts type #[Value.pointer none, Value.int _ 0] = (asInt (Value.int _ 0) >>= _ : Sem Value) from rfl]
    simp [hts, asInt, asIntOf, hmax]
  · rename_i i o k n
    obtain ⟨p, hp, rfl⟩ := h1
    have h2 : yv = .int k (n : Int) := h2
    subst h2
    cases n with
    | zero =>
      cases hf
      refine fin w (.string .empty) ?_ rfl (Step.refl hR)
      rw [show Builtin.unsafeString_ ts type #[Value.pointer (some (p.at o)), Value.int k ((0 : Nat) : Int)] = (asInt (Value.int k ((0 : Nat) : Int)) >>= _ : Sem Value) from rfl]
      simp [hts, asInt, asIntOf, hmax]
    | succ n =>
      have hf : Blk.onCells (h.get i) RC.bad (fun _ _ _ _ => RC.bad) (fun ty es m d t => (match (generalizing := false) Nat.beq ty e && Nat.ble (n + 1) 256, Nat.beq (P.cellsOf e) 1 with
        | true, true => (match (generalizing := false) elems (.arr ty es m d t) 1 o (n + 1) with
          | some ls => (match (generalizing := false) bytesOf ls with
            | some s => RC.ok (.str s) (h.put i .none)
            | none => RC.bad)
          | none => RC.bad)
        | _, _ => RC.bad)) = .ok r h' := hf
      cases hb : h.get i with
      | arr ty es m d tt =>
        rw [hb] at hf
        have hf : (match (generalizing := false) Nat.beq ty e && Nat.ble (n + 1) 256, Nat.beq (P.cellsOf e) 1 with
          | true, true => (match (generalizing := false) elems (.arr ty es m d tt) 1 o (n + 1) with
            | some ls => (match (generalizing := false) bytesOf ls with
              | some s => RC.ok (.str s) (h.put i .none)
              | none => RC.bad)
            | none => RC.bad)
          | _, _ => RC.bad) = .ok r h' := hf
        split at hf
        · rename_i hte hce
          rw [Bool.and_eq_true] at hte
          have hty := nat_beq hte.1
          have hn := nat_ble hte.2
          have hce := nat_beq hce
          split at hf
          · rename_i ls hls
            split at hf
            · rename_i s hs
              cases hf
              subst hty
              have hbr := hR.f.any hp
              rw [hb] at hbr
              obtain ⟨c, ty', fr, q1, q2, q3⟩ := elems_row (by decide : 0 < 1) hbr hls (Nat.succ_pos n)
              obtain ⟨c', fr', k1, _⟩ := hbr
              rw [q1] at k1
              cases k1
              obtain ⟨ns, g1, g2⟩ := bytesOf_ok hs q2.v
              have hlen : ns.length = n + 1 := by
                have := q2.length
                rw [g1] at this
                simp at this
                omega
              rw [Nat.mul_one] at g1
              have hload := loadBytes_row (P := P) q1 ns (p.base + o) [] (by rw [hlen]; exact g1)
              have hfit : p.base + o + (n + 1) ≤ c.size := by
                have := congrArg List.length g1
                simp [hlen] at this
                omega
              have hlies := liesAt_off (P := P) hce (c.size / P.cellsOf ty) (p.base + o) (n + 1) (by rw [hce, Nat.div_one]; exact hfit)
              have hvar : (variablesAt (p.at o) ty (n + 1)).run P w = .ok true w := by
                unfold variablesAt
                have hsh : (shape (p.at o).block).run P w = .ok (some (ty, c.size)) w := shape_row q1
                rw [Sem.run_bind]
                show ((do
                  match ← shape (p.at o).block with
                  | some (e, cells) => pure (liesAt P P.depth e (cells / P.cellsOf e) (p.at o).off ty (n + 1))
                  | none => pure false : Sem Bool)).run P w = _
                rw [Sem.run_bind, hsh]
                simp only [Result.andThen]
                have : (p.at o).off = p.base + o := rfl
                rw [this, hlies]
                rfl
              have hel : (elemOf t).run P w = .ok ty w := by
                unfold elemOf
                rw [Sem.run_bind, undl_run ht (by intro e; cases e)]
                rfl
              have hlt := (hR.fresh i p hp).1
              have hload' : (loadBytes (p.at o) .empty (n + 1)).run P w = .ok ⟨⟨ns.map UInt8.ofNat⟩⟩ w := by rw [hlen] at hload; exact hload
              have hfz : (freeze (p.at o) (n + 1)).run P w = .ok () (w.freeze (p.at o) (n + 1)) := run_freeze (P := P) _ _ _
              refine fin (w.freeze (p.at o) (n + 1)) (.string ⟨⟨ns.map UInt8.ofNat⟩⟩) ?_ (by rw [g2]; rfl) ?_
              · have h63 : ¬ ((9223372036854775807 : Int) < ((n + 1 : Nat) : Int)) := by omega
                have hneg : ¬ (((n + 1 : Nat) : Int) < 0) := by omega
                have hne : ¬ (((n + 1 : Nat) : Int) = 0) := by omega
                rw [show Builtin.unsafeString_ ts type #[Value.pointer (some (p.at o)), Value.int k ((n + 1 : Nat) : Int)] = (asInt (Value.int k ((n + 1 : Nat) : Int)) >>= _ : Sem Value) from rfl]
                simp only [hts, asInt, asIntOf, Sem.run_bind, Sem.run_pure, Result.andThen, hmax, gt_iff_lt, h63, hneg, hne, if_false, hel, Int.toNat_natCast, hvar, if_true, hload', hfz]
              · have : w.freeze (p.at o) (n + 1) = w.putObj p.b _ := freeze_put q1 (Nat.succ_ne_zero n)
                exact Step.wrote hR (by rw [hb]; rfl) hp ⟨_, this⟩ fun h => absurd rfl h
            · cases hf
          · cases hf
        · cases hf
      | _ => rw [hb] at hf; cases hf
  · cases hf
end
end Go.Ax
namespace Go.Ax
open Go
variable {P : Program}

def FW (ro : Option Nat) : Fence := { fn := fun _ => True, depth := none, alive := false, round := ro }
def Ret (R : Value → World → Prop) : Ending → World → Prop
  | .returned v, w => R v w
  | _, _ => False
/-- What a run of the executor promises of the model's. -/
def Res (φ : Phi) (h : Hp) (w : World) (r : AV) (h' : Hp) (v : Value) (w' : World) : Prop := ∃ φ', V φ' r v ∧ Step φ h w φ' h' w'
/-- The call of a function by its number: by its body, or by the model's own row. -/
def Inv (P : Program) (f : Nat) (vs : Array Value) (w : World) (R : Value → World → Prop) : Prop :=
  ((callFunc f vs).run P w = .ok (.enter f vs) w ∧ ∀ n, CallsIn Fence.wide n P f vs w (Ret R)) ∨ (isExt f = true ∧ ∃ v w', (callFunc f vs).run P w = .ok (.value v) w' ∧ R v w')
structure CKOk (P : Program) (ck : CK) : Prop where
  run : ∀ (φ : Phi) (h : Hp) (w : World) (f : Nat) (args : List AV) (vs : List Value) (r : AV) (h' : Hp), Rel φ h w → VL φ args vs → ck.run f args h = .ok r h' → Inv P f vs.toArray w (Res φ h w r h')
  yld : ∀ (φ : Phi) (h : Hp) (w : World) (l : Id) (args : List AV) (vs : List Value) (r : AV) (h' : Hp) (p : Pl), Rel φ h w → VL φ args vs → φ l = some p → ck.yld l args h = .ok r h' →
    ∃ L : Loop, w.heap[p.b]? = some (.loop L) ∧ vs.length = L.params.size ∧
      ∀ n, RoundIn Fence.wide n P p.b L.fn ((L.params.zip vs.toArray).foldl (fun tmps (t, a) => tmps.setIfInBounds t a) L.tmps) L.assign L.body w (Ret (Res φ h w r h'))

/-- What writes, as the model's walk has it. -/
def EfW (P : Program) (o : Oper) (f : List AV → Hp → RC) : Prop :=
  ∀ (ro : Option Nat) (n : Nat) (φ : Phi) (h : Hp) (w : World) (a : Act) (xs : List AV) (r : AV) (h' : Hp), Rel φ h w → f xs h = .ok r h' → VL φ xs ((opsOf o.op).map a.eval) →
    ∀ (K : Act → World → Prop) (Q : Exit → Act → World → Prop), (∀ φ' w' v, V φ' r v → Step φ h w φ' h' w' → K (a.put o.dst v) w') → o.wpIn (FW ro) n P a w K Q
theorem Ef.w {o : Oper} {f : List AV → Hp → RC} (hd : ∀ c, o.op ≠ .defer c) (h : Ef P o f) : EfW P o f := by
  intro ro n φ hp w a xs r h' hR hf hv K Q hK
  obtain ⟨φ', w', v, he, h1, h2⟩ := h φ hp w a.eval xs r h' hR hf hv
  refine ⟨fun _ _ => trivial, ?_⟩
  rw [Oper.semAt_eq _ _ _ hd]
  rcases he with he | ⟨he, rfl⟩
  · rw [he]; exact hK _ _ _ h1 h2
  · rw [he]; exact hK _ _ _ h1 h2
inductive Cl where
  | no
  | pure (f : List AV → Option AV)
  | read (f : List AV → Hp → Option AV)
  | new (f : List AV → NewR)
  | eff (f : CK → List AV → Hp → RC)
def clOf : OpK → Cl
  | .bad => .no
  | .mv => .pure (on1 none some)
  | .p1 f => .pure (on1 none f)
  | .p2 f => .pure (on2 none f)
  | .pL f => .pure f
  | .r1 f => .read fun xs h => on1 none (fun a => f a h) xs
  | .r2 f => .read fun xs h => on2 none (fun a b => f a b h) xs
  | .rL f => .read f
  | .n0 b g => .new (on0 NewR.bad (NewR.ok b g))
  | .n1 f => .new (on1 NewR.bad f)
  | .nL f => .new f
  | .e2 f => .eff fun _ xs h => on2 RC.bad (fun a b => f a b h) xs
  | .eL f => .eff f
def OkC (P : Program) (o : Oper) : Cl → Prop
  | .no => True
  | .pure f => Pur P o f
  | .read f => Red P o f
  | .new f => Nw P o f
  | .eff f => ∀ ck, CKOk P ck → EfW P o (f ck)
section
variable {dst : Option Tmp} {type : TypeId} {pos : String} {after : Array Edge} {guard : Option (Nat × Bool)}
theorem fw_calls {ro : Option Nat} {n : Nat} {f : FuncId} {vs : Array Value} {w : World} {R R' : Ending → World → Prop} (h : CallsIn Fence.wide n P f vs w R) (hr : ∀ e w', R e w' → R' e w') : CallsIn (FW ro) n P f vs w R' :=
  (show CallsIn (FW ro) n P f vs w R from h).mono hr
theorem run_callFn {a : Act} {fo : Operand} {args : Array Operand} {ts : Array TypeId} {g : FuncId} {X Y : Array Value} {w : World} {r : Result Next} (hf : a.eval fo = .func (.func g) X Y)
    (h : (callFunc g (X ++ args.map a.eval ++ Y)).run P w = r) : (execOp a.eval ⟨dst, .call ⟨.value fo, args, ts⟩, type, pos, after, guard⟩).run P w = r := by
  have e : execOp a.eval ⟨dst, .call ⟨.value fo, args, ts⟩, type, pos, after, guard⟩ = (do let d ← resolve a.eval ⟨.value fo, args, ts⟩ type; invoke d.target d.args) := rfl
  rw [e, Sem.run_bind]
  have e2 : resolve a.eval ⟨.value fo, args, ts⟩ type = Deferred.ofValue (a.eval fo) (args.map a.eval) := rfl
  rw [e2, hf]
  exact h
theorem inv_upon {ro : Option Nat} {n : Nat} {o : Oper} {a : Act} {w : World} {K : Act → World → Prop} {Q : Exit → Act → World → Prop} {f : Nat} {vs : Array Value} {R : Value → World → Prop}
    (hd : ∀ c, o.op ≠ .defer c) (he : ∀ r, (callFunc f vs).run P w = r → (execOp a.eval o).run P w = r) (h : Inv P f vs w R) (hK : ∀ v w', R v w' → K (a.put o.dst v) w') : o.wpIn (FW ro) n P a w K Q := by
  refine ⟨fun _ _ => trivial, ?_⟩
  rw [Oper.semAt_eq _ _ _ hd]
  rcases h with ⟨h1, h2⟩ | ⟨_, v, w', h1, h2⟩
  · rw [he _ h1, Oper.uponIn_enter]
    refine ⟨fun h => (by cases h), fw_calls (h2 _) fun e w' hr => ?_⟩
    cases e with
    | returned v => exact hK _ _ hr
    | panicked c => exact hr.elim
    | outgrown => exact hr.elim
  · rw [he _ h1]
    exact hK _ _ h2
theorem VL.cons_inv {φ : Phi} {a : AV} {l : List AV} {vs : List Value} (h : VL φ (a :: l) vs) : ∃ v r, vs = v :: r ∧ V φ a v ∧ VL φ l r := h
theorem ok_callV {fo : Operand} {args : Array Operand} {ts : Array TypeId} {ck : CK} (hck : CKOk P ck) : EfW P ⟨dst, .call ⟨.value fo, args, ts⟩, type, pos, after, guard⟩ (callV ck) := by
  intro ro n φ h w a xs r h' hR hf hv K Q hK
  have hv : VL φ xs ((fo :: args.toList).map a.eval) := hv
  cases xs with
  | nil => cases hf
  | cons c l =>
  cases c with
  | fn g x y =>
    have hf : ck.run g (x ++ l ++ y) h = .ok r h' := hf
    obtain ⟨v, us, e1, hv1, hv2⟩ := hv.cons_inv
    rw [List.map_cons, List.cons.injEq] at e1
    obtain ⟨e1, e2⟩ := e1
    obtain ⟨X, Y, e3, hX, hY⟩ := hv1
    have hvs : VL φ (x ++ l ++ y) (X.toList ++ us ++ Y.toList) := (hX.append hv2).append hY
    have hi := hck.run φ h w g _ _ r h' hR hvs hf
    have e4 : (X.toList ++ us ++ Y.toList).toArray = X ++ args.map a.eval ++ Y := by
      apply Array.toList_inj.1
      simp [← e2]
    rw [e4] at hi
    exact inv_upon (fun c e => by cases e) (fun r h => run_callFn (by rw [e1, e3]) h) hi fun v w' ⟨φ', h1, h2⟩ => hK φ' w' v h1 h2
  | yld l0 =>
    have hf : ck.yld l0 l h = .ok r h' := hf
    obtain ⟨v, us, e1, hv1, hv2⟩ := hv.cons_inv
    rw [List.map_cons, List.cons.injEq] at e1
    obtain ⟨e1, e2⟩ := e1
    obtain ⟨p, hp, e3⟩ := hv1
    obtain ⟨L, h1, h2, h3⟩ := hck.yld φ h w l0 l us r h' p hR hv2 hp hf
    refine ⟨fun _ _ => trivial, ?_⟩
    rw [Oper.semAt_eq _ _ _ (fun c e => by cases e)]
    have e4 : args.map a.eval = us.toArray := by
      apply Array.toList_inj.1
      simp [← e2]
    have hrun : (execOp a.eval ⟨dst, .call ⟨.value fo, args, ts⟩, type, pos, after, guard⟩).run P w =
        .ok (.round p.b L.fn ((L.params.zip us.toArray).foldl (fun tmps (t, a) => tmps.setIfInBounds t a) L.tmps) L.assign L.body) w := by
      have e : execOp a.eval ⟨dst, .call ⟨.value fo, args, ts⟩, type, pos, after, guard⟩ = (do let d ← resolve a.eval ⟨.value fo, args, ts⟩ type; invoke d.target d.args) := rfl
      have e2 : resolve a.eval ⟨.value fo, args, ts⟩ type = Deferred.ofValue (a.eval fo) (args.map a.eval) := rfl
      rw [e, Sem.run_bind, e2, e1, e3, e4]
      show (Instr.yield p.b (#[] ++ us.toArray)).run P w = _
      rw [Array.empty_append]
      exact run_yield h1 (by simpa using h2)
    rw [hrun, Oper.uponIn_round]
    refine ⟨fun h => (by cases h), ?_⟩
    have h4 : RoundIn (FW ro) (n - 1) P p.b L.fn _ L.assign L.body w (Ret (Res φ h w r h')) := h3 (n - 1)
    refine h4.mono fun e w' hr => ?_
    cases e with
    | returned v => obtain ⟨φ', h5, h6⟩ := hr; exact hK φ' w' v h5 h6
    | panicked c => exact hr.elim
    | outgrown => exact hr.elim
  | _ => cases hf
theorem ok_callS {g : FuncId} {args : Array Operand} {ts : Array TypeId} {ck : CK} (hck : CKOk P ck) : EfW P ⟨dst, .call ⟨.value (.func g), args, ts⟩, type, pos, after, guard⟩ (callS g ck) := by
  intro ro n φ h w a xs r h' hR hf hv K Q hK
  have hv : VL φ xs ((Operand.func g :: args.toList).map a.eval) := hv
  cases xs with
  | nil => cases hf
  | cons x l =>
    have hf : ck.run g l h = .ok r h' := hf
    obtain ⟨v, us, e1, hv1, hv2⟩ := hv.cons_inv
    rw [List.map_cons, List.cons.injEq] at e1
    obtain ⟨e1, e2⟩ := e1
    have hi := hck.run φ h w g _ _ r h' hR hv2 hf
    have e4 : us.toArray = #[] ++ args.map a.eval ++ #[] := by
      apply Array.toList_inj.1
      simp [← e2]
    rw [e4] at hi
    exact inv_upon (fun c e => by cases e) (fun r h => run_callFn rfl h) hi fun v w' ⟨φ', h1, h2⟩ => hK φ' w' v h1 h2
end
end Go.Ax
namespace Go.Ax
open Go
variable {P : Program}
section
variable {dst : Option Tmp} {type : TypeId} {pos : String} {after : Array Edge} {guard : Option (Nat × Bool)}
theorem kBin_ok {op : BinOp} {t b : TypeId} {x y : Operand} : OkC P ⟨dst, .binOp op t x y b, type, pos, after, guard⟩ (clOf (kBin op)) := by
  unfold kBin
  cases hf : binI op with
  | none => exact trivial
  | some f => exact ok_bin hf
theorem kEq_ok {neg : Bool} {op : BinOp} {t b : TypeId} {x y : Operand} (ho : negOf op neg) : OkC P ⟨dst, .binOp op t x y b, type, pos, after, guard⟩ (clOf (kEq P neg op t)) := by
  unfold kEq
  split
  · exact kBin_ok
  · exact kBin_ok
  · exact trivial
  · rename_i e hu
    split
    · exact trivial
    · rename_i hz; exact ok_eq_ptr ho hu hz
  · rename_i hu; exact ok_eq_bool ho hu
  · rename_i e hu; exact ok_eq_sl ho hu
  · rename_i ps rs va hu; exact ok_eq_fn ho hu
  · split
    · rename_i k hk
      split
      · rename_i hg; exact ok_eq_flat ho hk hg
      · exact trivial
    · exact trivial
theorem kConv_ok {s t : TypeId} {x : Operand} : OkC P ⟨dst, .convert s t x, type, pos, after, guard⟩ (clOf (kConv P s t)) := by
  unfold kConv
  split
  · rename_i k q hs ht; exact ok_conv_ii hs ht
  · rename_i k hs ht; exact ok_conv_is hs ht
  · rename_i hs ht; exact ok_conv_ss hs ht
  · rename_i e hs ht
    split
    · rename_i he; exact ok_conv_sb hs ht he
    · exact trivial
  · rename_i e hs ht
    split
    · rename_i he; exact ok_conv_bytes hs ht he
    · exact trivial
  · rename_i e e' hs ht
    split
    · rename_i hst he
      have := nat_beq hst
      subst this
      exact fun ck _ => Ef.w (fun c e => by cases e) (ok_conv_mark (ck := ck) hs he)
    · exact trivial
  · rename_i e hs ht
    split
    · exact trivial
    · rename_i hz; exact ok_conv_up hs ht hz
  · rename_i u hs ht
    split
    · exact trivial
    · rename_i hz; exact ok_conv_down hs ht hz
  · exact trivial
theorem kBuiltin_ok {b : Builtin} {args : Array Operand} {ts : Array TypeId} : OkC P ⟨dst, .call ⟨.builtin b, args, ts⟩, type, pos, after, guard⟩ (clOf (kBuiltin P b ts)) := by
  have one : ∀ {d : TypeDesc}, undlO P (lnth ts.toList 0) = d → d ≠ .invalid → ∃ t, ts[0]? = some t ∧ undl P t = d := fun h hd => by
    obtain ⟨t, h1, h2⟩ := undlO_ok h hd
    exact ⟨t, lnth0 h1, h2⟩
  unfold kBuiltin
  split
  · split
    · rename_i n e hu
      obtain ⟨t, h1, h2⟩ := one hu (by intro e; cases e)
      exact ok_len_arr h1 h2
    · rename_i hu
      obtain ⟨t, h1, h2⟩ := one hu (by intro e; cases e)
      exact ok_len_str h1 h2
    · rename_i e hu
      obtain ⟨t, h1, h2⟩ := one hu (by intro e; cases e)
      exact ok_len_sl h1 h2
    · rename_i k e hu
      obtain ⟨t, h1, h2⟩ := one hu (by intro e; cases e)
      exact ok_len_map h1 h2
    · exact trivial
  · exact ok_max
  · exact ok_min
  · split
    · rename_i t u hts
      have hts : ts = #[t, u] := by
        apply Array.toList_inj.1
        rw [hts]
      subst hts
      split
      · rename_i e hu
        split
        · rename_i e' hc hk
          rw [Bool.or_eq_false_iff, Bool.or_eq_false_iff, Bool.not_eq_false', Bool.not_eq_false'] at hc
          exact fun ck _ => Ef.w (fun c e => by cases e) (ok_append hu (.inl ⟨e', hk⟩) hc.1.1 hc.1.2 hc.2)
        · rename_i hc hk
          rw [Bool.or_eq_false_iff, Bool.or_eq_false_iff, Bool.not_eq_false', Bool.not_eq_false'] at hc
          exact fun ck _ => Ef.w (fun c e => by cases e) (ok_append hu (.inr hk) hc.1.1 hc.1.2 hc.2)
        · exact trivial
      · exact trivial
    · exact trivial
  · split
    · rename_i e hu
      obtain ⟨t, h1, h2⟩ := one hu (by intro e; cases e)
      split
      · exact trivial
      · rename_i hz; exact fun ck _ => Ef.w (fun c e => by cases e) (ok_copy h1 h2 hz)
    · exact trivial
  · split
    · rename_i e hu
      obtain ⟨t, h1, h2⟩ := one hu (by intro e; cases e)
      split
      · rename_i z hz hzc
        split
        · rename_i hl
          exact fun ck _ => Ef.w (fun c e => by cases e) (ok_clear (ck := ck) h1 h2 hz hzc (by rw [← len_eq]; exact nat_beq hl))
        · exact trivial
      · exact trivial
    · exact trivial
  · split
    · rename_i q e hu
      obtain ⟨t, h1, h2⟩ := one hu (by intro e; cases e)
      split
      · rename_i k hk
        exact fun ck _ => Ef.w (fun c e => by cases e) (ok_delete (ck := ck) h1 h2 hk)
      · exact trivial
    · exact trivial
  · exact ok_sliceData
  · split
    · rename_i e hu
      obtain ⟨t, h1, h2⟩ := one hu (by intro e; cases e)
      exact fun ck _ => Ef.w (fun c e => by cases e) (ok_unsafeString h1 h2)
    · exact trivial
  · exact trivial
end
theorem kOp_ok (o : Oper) : OkC P o (clOf (kOp P o)) := by
  obtain ⟨dst, op, type, pos, after, guard⟩ := o
  cases op with
  | move x => exact ok_move
  | assign x => exact ok_assign
  | pick c a b => exact ok_pick
  | alloc e =>
    unfold kOp
    dsimp only
    split
    · rename_i z hz; exact ok_alloc hz
    · exact trivial
  | box e v => exact ok_box
  | build t ps =>
    unfold kOp
    dsimp only
    split
    · rename_i z pl hs hz hp; exact ok_build hs hz hp
    · exact trivial
  | buildSlice t n ps =>
    unfold kOp
    dsimp only
    split
    · rename_i e hu
      split
      · rename_i z hz
        split
        · exact trivial
        · rename_i hc
          simp only [Bool.or_eq_false_iff, Bool.not_eq_false'] at hc
          obtain ⟨⟨⟨⟨⟨h1, h2⟩, h3⟩, h4⟩, h5⟩, h6⟩ := hc
          exact ok_buildSlice hu hz h1 h2 h3 h4 h5 h6
      · exact trivial
    · exact trivial
  | load t x =>
    unfold kOp
    dsimp only
    split
    · exact trivial
    · rename_i _ ha; exact ok_load_agg ha
    · rename_i hk ha; exact ok_load_one hk ha
  | store t a v =>
    unfold kOp
    dsimp only
    split
    · exact trivial
    · rename_i hz _; exact fun ck _ => Ef.w (fun c e => by cases e) (ok_store_agg hz)
    · split
      · rename_i hz; exact fun ck _ => Ef.w (fun c e => by cases e) (ok_store_one hz)
      · exact trivial
  | nilCheck x => exact ok_nilCheck
  | binOp op t x y b =>
    cases op with
    | shl => exact ok_shl
    | shr => exact ok_shr
    | eql => exact kEq_ok (.inl ⟨rfl, rfl⟩)
    | neq => exact kEq_ok (.inr ⟨rfl, rfl⟩)
    | _ => exact kBin_ok
  | unOp op t x => exact ok_un
  | convert s t x => exact kConv_ok
  | makeFunc f c b =>
    unfold kOp
    dsimp only
    split
    · rename_i g
      split
      · rename_i hb; exact ok_makeFunc0 hb
      · exact ok_makeFunc1 (by assumption)
      · exact trivial
    · exact trivial
  | makeMap t r =>
    unfold kOp
    dsimp only
    split
    · rename_i k e hu
      split
      · exact ok_makeMap0
      · exact ok_makeMap1 hu
    · exact trivial
  | makeSlice t x y =>
    unfold kOp
    dsimp only
    split
    · rename_i e hu
      split
      · rename_i z hz
        split
        · exact trivial
        · rename_i hc
          simp only [Bool.or_eq_false_iff, Bool.not_eq_false'] at hc
          exact ok_makeSlice hu hz hc.1.1 hc.1.2 hc.2
      · exact trivial
    · exact trivial
  | slice t x lo hi mx =>
    unfold kOp
    dsimp only
    split
    · rename_i an e hu
      split
      · exact trivial
      · rename_i hz; exact ok_slice_arr hu hz
    · rename_i e hu
      split
      · exact trivial
      · rename_i hz; exact ok_slice_sl hu hz
    · rename_i hu; exact ok_slice_str hu
    · exact trivial
  | fieldAddr t x f =>
    unfold kOp
    dsimp only
    split
    · rename_i fs p hu hp
      split
      · exact trivial
      · rename_i hz; exact ok_fieldAddr hu hp hz
    · exact trivial
  | field t x f =>
    unfold kOp
    dsimp only
    split
    · rename_i fs hu
      split
      · rename_i fd hfd
        split
        · rename_i hk; exact ok_field hu hfd hk
        · exact trivial
      · exact trivial
    · exact trivial
  | indexAddr t x y =>
    unfold kOp
    dsimp only
    split
    · rename_i an e hu
      split
      · exact trivial
      · rename_i hz; exact ok_indexAddr_arr hu hz
    · rename_i e hu
      split
      · exact trivial
      · rename_i hz; exact ok_indexAddr_sl hu hz
    · exact trivial
  | index t x y =>
    unfold kOp
    dsimp only
    split
    · rename_i an e hu
      split
      · exact trivial
      · rename_i hk; exact ok_index_arr hu hk
    · rename_i hu; exact ok_index_str hu
    · exact trivial
  | lookup t x y ok =>
    unfold kOp
    dsimp only
    split
    · rename_i q e hu
      split
      · rename_i k z hk hz; exact ok_lookup hu hk hz
      · exact trivial
    · exact trivial
  | mapUpdate t a b c =>
    unfold kOp
    dsimp only
    split
    · rename_i q e hu
      split
      · rename_i k hk; exact fun ck _ => Ef.w (fun c e => by cases e) (ok_mapUpdate (ck := ck) hu hk)
      · exact trivial
    · exact trivial
  | insert t a b c =>
    unfold kOp
    dsimp only
    split
    · rename_i q e hu
      split
      · rename_i k hk; exact fun ck _ => Ef.w (fun c e => by cases e) (ok_insert (ck := ck) hu hk)
      · exact trivial
    · exact trivial
  | mapEntry t a b =>
    unfold kOp
    dsimp only
    split
    · rename_i q e hu
      split
      · rename_i k z hk hz; exact fun ck _ => Ef.w (fun c e => by cases e) (ok_mapEntry (ck := ck) hu hk hz)
      · exact trivial
    · exact trivial
  | entryStore t a b c => exact fun ck _ => Ef.w (fun c e => by cases e) ok_entryStore
  | range t x =>
    unfold kOp
    dsimp only
    split
    · rename_i hu; exact ok_range hu
    · exact trivial
  | next it s =>
    unfold kOp
    dsimp only
    split
    · exact fun ck _ => Ef.w (fun c e => by cases e) ok_next
    · exact trivial
  | extract x i => exact ok_extract
  | call c =>
    obtain ⟨callee, args, ts⟩ := c
    cases callee with
    | value f =>
      cases f with
      | func g => exact fun ck h => ok_callS h
      | _ => exact fun ck h => ok_callV h
    | invoke r n => exact trivial
    | builtin b => exact kBuiltin_ok
  | _ => exact trivial
theorem kOp_defer (o : Oper) (h : clOf (kOp P o) ≠ .no) : ∀ c, o.op ≠ .defer c := by
  obtain ⟨dst, op, type, pos, after, guard⟩ := o
  intro c hc
  have hc : op = .defer c := hc
  subst hc
  exact h rfl
end Go.Ax
