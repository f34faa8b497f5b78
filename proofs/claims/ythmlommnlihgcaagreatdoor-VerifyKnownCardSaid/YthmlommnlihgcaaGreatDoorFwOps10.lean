/- The framework, part 5j: the operations that change the store. -/
import Derived.Test.YthmlommnlihgcaaGreatDoorFwOps9
namespace Go.Fw
open Go
section
variable {P : Program} {B : Bs} {G : Gh} {s s1 : ASt} {w : World} {P' : AProg} {env : Env} {ρ : Operand → Value}

/-! ### What is handed over -/
theorem Inv.freeze (hI : Inv P B G s w) {l b : Nat} (hL : G.L l = some b) {cs : List AV} {wr : Bool} (hb : s.blks[l]? = some (.cells cs wr)) :
    ∃ vs e, w.heap[b]? = some (.cells (List.toArray vs) e (0, 0)) ∧ G.le (G.addM b 0 vs.length vs) ∧ Inv P B (G.addM b 0 vs.length vs) { s with blks := s.blks.set l (.cells cs false) } w := by
  obtain ⟨o, ho, hok⟩ := hI.at hL hb
  obtain ⟨vs, e, rfl, hk, h3, h4⟩ := hok
  have hin : ∀ o, 0 ≤ o → o < vs.length → ∀ x, G.M b o = some x → vs[o]? = some x := fun o _ _ x hx => by
    have := hI.m b o x hx
    rwa [cell_of ho] at this
  have hle : G.le (G.addM b 0 vs.length vs) := Gh.addM_le hin
  refine ⟨vs, e, ho, hle, hI.reblk hle (fun _ => rfl) (fun _ _ => rfl) hL (fun x j hx => addM_ne hx) (fun j x hx => ?_) (fun o ho' => ?_)⟩
  · by_cases hj : 0 ≤ j ∧ j < vs.length
    · rw [addM_in hj.1 hj.2] at hx; rw [cell_of ho]; exact hx
    · rw [addM_out hj] at hx; exact hI.m b j x hx
  · rw [ho] at ho'; cases ho'
    refine ⟨vs, e, rfl, hk.mono hle, fun h => (by cases h), fun _ j x hx => ?_⟩
    have hj : j < vs.length := by
      rcases Nat.lt_or_ge j vs.length with q | q
      · exact q
      · rw [List.getElem?_eq_none q] at hx; cases hx
    rw [addM_in (Nat.zero_le _) hj]; exact hx

theorem fixv_ok (hI : Inv P B G s w) {a a' : AV} {x : Value} (r : R G (.v a x)) (h : fixv s a = some (a', s1)) : ∃ G', G.le G' ∧ Inv P B G' s1 w ∧ R G' (.v a' x) := by
  unfold fixv at h
  split at h
  · rename_i l off len cap sz
    cases r with
    | ms hL hc hm =>
    rename_i b
    split at h
    · rename_i xs cs wr hrow hb
      cases h
      obtain ⟨css, hcs, hxl, hcell⟩ := rowOf_ok hI hL hrow
      obtain ⟨vs, e, ho, hle, hinv⟩ := hI.freeze hL hb
      refine ⟨_, hle, hinv, ?_⟩
      subst hxl
      refine .sliceN hc hm ((hcs.mono hle).row fun j y hy => ?_) trivial
      have := hcell j y hy
      rw [cell_of ho] at this
      have hj : off + j < vs.length := by
        rcases Nat.lt_or_ge (off + j) vs.length with q | q
        · exact q
        · rw [List.getElem?_eq_none q] at this; cases this
      rw [addM_in (Nat.zero_le _) hj]; exact this
    · cases h
  · split at h
    · rename_i y hy
      cases h
      exact ⟨G, .refl _, hI, (fixP_ok hy r).1⟩
    · cases h

def WRes (P : Program) (B : Bs) (G : Gh) (s1 : ASt) (w : World) (m : Sem Next) (v : AV) : Prop :=
  ∃ n x w' G', m.run P w = .ok n w' ∧ (n = Next.value x ∨ (n = .skip ∧ x = undef)) ∧ G.le G' ∧ Inv P B G' s1 w' ∧ R G' (.v v x)

theorem R.box {a : AV} {x : Value} (r : R G (.v a x)) (h : boxOk a = true) : R G (.k (cellsOf a) x.cells.toList) := by
  cases r with
  | tuple => simp [boxOk] at h
  | junk => simp [boxOk] at h
  | agg hk => simpa [Value.cells, cellsOf] using hk
  | int h' => exact .kcons (.int h') rfl .knil
  | bool b => exact .kcons (.bool b) rfl .knil
  | str s hs => exact .kcons (.str s hs) rfl .knil
  | sliceE hm ho => exact .kcons (.sliceE hm ho) rfl .knil
  | sliceN hc hm hr ho => exact .kcons (.sliceN hc hm hr ho) rfl .knil
  | ms hL hc hm => exact .kcons (.ms hL hc hm) rfl .knil
  | nilptr => exact .kcons .nilptr rfl .knil
  | ptr off hL => exact .kcons (.ptr off hL) rfl .knil
  | cptr off hc hM => exact .kcons (.cptr off hc hM) rfl .knil
  | func ha hb => exact .kcons (.func ha hb) rfl .knil
  | nilfunc => exact .kcons .nilfunc rfl .knil
  | yield hL => exact .kcons (.yield hL) rfl .knil
  | map hL => exact .kcons (.map hL) rfl .knil
  | nilmap => exact .kcons .nilmap rfl .knil
  | iface h1 => exact .kcons (.iface h1) rfl .knil
  | niliface => exact .kcons .niliface rfl .knil
  | iter hL => exact .kcons (.iter hL) rfl .knil

/-- A new place. -/
theorem Inv.allocCells (hI : Inv P B G s w) {cs : List AV} {vs : List Value} (r : R G (.k cs vs)) (e : TypeId) :
    G.le (G.addL s.blks.length w.heap.size) ∧ Inv P B (G.addL s.blks.length w.heap.size) { s with blks := s.blks ++ [.cells cs true] } (w.alloc (.cells vs.toArray e)) := by
  have hle : G.le (G.addL s.blks.length w.heap.size) := Gh.addL_le hI.Lend
  exact ⟨hle, hI.allocL _ _ ⟨vs, e, rfl, r.mono hle, fun _ j => hI.Mnew j, fun h => by cases h⟩⟩

theorem w_new (hI : Inv P B G s w) {cs : List AV} (t : TypeId) {x : Value} (r : R G (.k cs x.cells.toList)) :
    WRes P B G { s with blks := s.blks ++ [.cells cs true] } w (do pure (Next.value (.pointer (some (← newVar t x))))) (.ptr s.blks.length 0) := by
  obtain ⟨hle, h2⟩ := hI.allocCells r t
  refine ⟨_, .pointer (some ⟨w.heap.size, 0, none⟩), w.alloc (.cells x.cells t), _, ?_, .inl rfl, hle, by simpa using h2, .ptr 0 addL_eq⟩
  simp [newVar, newRow]

theorem setRow_putObj {g : Nat} {cur : Array Value} {t : TypeId} {fr : Nat × Nat} (hg : w.heap[g]? = some (.cells cur t fr)) (cs : Array Value) : w.setRow g cs = w.putObj g (.cells cs t fr) := by
  have hlt : g < w.heap.size := (Array.getElem?_eq_some_iff.1 hg).1
  have hv : w.heap[g] = .cells cur t fr := (Array.getElem?_eq_some_iff.1 hg).2
  unfold World.setRow World.putObj
  congr 1
  apply Array.ext
  · simp
  · intro i h1 h2
    rw [Array.getElem_modify, Array.getElem_setIfInBounds]
    by_cases e : g = i
    · subst e; simp [hv]
    · simp [e]
    · simpa using h1

/-- Cells are written into a place. -/
theorem Inv.write (hI : Inv P B G s w) {l b : Nat} (hL : G.L l = some b) {cs : List AV} (hb : s.blks[l]? = some (.cells cs true)) {off : Nat} {ds : List AV} {us : List Value} (hk : R G (.k ds us)) (hlen : off + ds.length ≤ cs.length) :
    ∃ w', (storeCells ⟨b, off, none⟩ us).run P w = .ok () w' ∧ Inv P B G { s with blks := s.blks.set l (.cells (splice cs off ds) true) } w' := by
  obtain ⟨o, ho, hok⟩ := hI.at hL hb
  obtain ⟨vs, e, rfl, hkv, hM, _⟩ := hok
  have hl1 : cs.length = vs.length := hkv.k_length
  have hl2 : ds.length = us.length := hk.k_length
  have hrun := run_storeCells_at P b off e us 0 vs.toArray w ho (by simp; omega) hk.k_one
  refine ⟨_, hrun, ?_⟩
  rw [setRow_putObj ho]
  refine hI.put hL ⟨_, e, rfl, ?_, fun _ => hM rfl, fun h => by cases h⟩ (fun j x hx => by rw [hM rfl j] at hx; cases hx)
  simpa using hkv.k_splice hk off

theorem Inv.dirt {s0 : ASt} {l : Nat} {cs : List AV} {blks : List ABlk} (h : Inv P B G { s0 with blks := blks } w) : Inv P B G (dirt s0 l cs blks) w := h.cong rfl rfl

theorem w_store (hI : Inv P B G s w) {t : TypeId} {i : TypeInfo} (hi : P.info? t = some i) {a x : AV} {xa xv : Value} (ra : R G (.v a xa)) (rx : R G (.v x xv)) {v : AV}
    (h : (match (generalizing := false) a with
    | .ptr l off =>
      (match s.blks[l]? with
      | some (.cells cs true) =>
        if boxOk x && (cellsOf x).length = P.cellsOf t && off + P.cellsOf t ≤ cs.length then
          some (undefA, Fw.dirt s l (cellsOf x) (s.blks.set l (.cells (splice cs off (cellsOf x)) true)))
        else none
      | _ => none)
    | _ => none) = some (v, s1)) : WRes P B G s1 w (do Instr.storeAt t xa xv; pure .skip) v := by
  cases ra <;> simp only [reduceCtorEq] at h
  rename_i l b off hL
  split at h
  · rename_i cs hb
    split at h
    · rename_i hc
      cases h
      simp at hc
      obtain ⟨⟨hc1, hc2⟩, hc3⟩ := hc
      have hk := rx.box hc1
      obtain ⟨w', hrun, h'⟩ := hI.write hL hb (off := off) hk (by omega)
      have hsz : xv.cells.size = P.cellsOf t := by rw [← hc2, hk.k_length]; simp
      refine ⟨.skip, undef, w', G, ?_, .inr ⟨rfl, rfl⟩, .refl _, h'.dirt, ?_⟩
      · simp [Instr.storeAt, Instr.sureAddr, storeVar, run_sizeOf' hi, hsz, hrun]
      · exact .tuple .lnil
    · cases h
  · cases h

theorem run_setObj' {b : Nat} {o o' : Obj} (h : w.heap[b]? = some o) (hn : ∀ c e f, o ≠ .cells c e f) : (setObj b o').run P w = .ok () (w.putObj b o') := by
  cases o <;> first | (simp [setObj, Sem.run, h, World.putObj]; done) | exact absurd rfl (hn _ _ _)

theorem putA_ok {kk : KK} {d : TypeDesc} (hd : kkOk kk d) {k v : AV} {xk xv : Value} (rk : R G (.v k xk)) (rv : R G (.v v xv)) (hk : keyOf kk k = true) {es : List (AV × AV)} {ents : List MapEntry} (hm : MapOk G es ents) :
    ∀ {es'}, putA k v es = some es' → ∀ i,
      (Instr.findNow d xk ents i = some none ∧ ∀ born, MapOk G es' (ents ++ [{ key := xk, val := xv, born }])) ∨
      (∃ j e, Instr.findNow d xk ents i = some (some (i + j, e.val)) ∧ ents[j]? = some e ∧ (∀ n, Instr.sameBits n e.key xk = true) ∧ MapOk G es' (ents.modify j fun e => { e with key := xk, val := xv })) := by
  induction hm with
  | nil =>
    intro es' h i
    simp [putA] at h; subst h
    exact .inl ⟨rfl, fun born => .cons rk rv .nil⟩
  | cons hk' hv ht ih =>
    rename_i a u e es ents
    intro es' h i
    simp only [putA] at h
    split at h
    · rename_i hf
      cases h
      obtain ⟨e1, e2⟩ := sameNow_ok hd rk hk' hk hf
      exact .inr ⟨0, e, by simp only [Instr.findNow, e1]; rfl, rfl, e2 rfl, by simpa using MapOk.cons rk rv ht⟩
    · rename_i hf
      obtain ⟨e1, _⟩ := sameNow_ok hd rk hk' hk hf
      split at h
      · rename_i r hr
        cases h
        rcases ih hr (i + 1) with ⟨h1, h2⟩ | ⟨j, e', h1, h2, h3, h4⟩
        · exact .inl ⟨by simp only [Instr.findNow, e1]; exact h1, fun born => .cons hk' hv (h2 born)⟩
        · refine .inr ⟨j + 1, e', ?_, by simpa using h2, h3, by simpa using MapOk.cons hk' hv h4⟩
          simp only [Instr.findNow, e1, h1]
          rw [show i + 1 + j = i + (j + 1) from by omega]
      · cases h
    · cases h

theorem w_mapSet1 (hI : Inv P B G s w) {t kt et : TypeId} (hu : P.underlying t = some (.map kt et)) {kk : KK} (hkt : keyT P kt = some kk) {m k x v : AV} {xm xk xv : Value} (rm : R G (.v m xm)) (rk : R G (.v k xk)) (rx : R G (.v x xv))
    (h : (match (generalizing := false) m with
    | .map l =>
      (match s.blks[l]? with
      | some (.map es) =>
        if keyOf kk k then
          (match putA k x es with
          | some es' => some (undefA, Fw.dirt s l [x] (s.blks.set l (.map es')))
          | none => none)
        else none
      | _ => none)
    | _ => none) = some (v, s1)) : WRes P B G s1 w (do Instr.mapUpdate t xm xk xv; pure .skip) v := by
  obtain ⟨d, hd, hkk⟩ := keyT_ok hkt
  split at h
  · rename_i l
    obtain ⟨b, rfl, hL⟩ := rm.map_inv rfl
    split at h
    · rename_i es hb
      obtain ⟨o, ho, hok⟩ := hI.at hL hb
      obtain ⟨ents, clock, rfl, hm⟩ := hok
      split at h
      · rename_i hkey
        split at h
        · rename_i es' hput
          cases h
          have hc := fun b => run_checkKey (w := w) hd hkk b xk
          rcases putA_ok hkk rk rx hkey hm hput 0 with ⟨h1, h2⟩ | ⟨j, e, h1, h2, h3, h4⟩
          · refine ⟨.skip, undef, w.putObj b (.map (ents.toArray.push { key := xk, val := xv, born := clock }) (clock + 1)), G, ?_, .inr ⟨rfl, rfl⟩, .refl _, ?_, .tuple .lnil⟩
            · simp [Instr.mapUpdate, run_underlying hu, run_getObj' ho (by simp), hc, Instr.findKey, run_underlying hd, h1, run_setObj' ho (by simp)]
            · refine (hI.put hL (k' := .map es') ⟨ents ++ [{ key := xk, val := xv, born := clock }], clock + 1, by simp, h2 clock⟩ ?_).dirt
              intro j x hx
              have := hI.m b j x hx
              simp [World.cell?, ho] at this
          · rw [Nat.zero_add] at h1
            refine ⟨.skip, undef, w.putObj b (.map (ents.toArray.modify j fun e => { e with key := xk, val := xv }) clock), G, ?_, .inr ⟨rfl, rfl⟩, .refl _, ?_, .tuple .lnil⟩
            · have hmod : ∀ f, (ents.toArray.modify j f) = (ents.modify j f).toArray := fun f => by simp
              simp [Instr.mapUpdate, run_underlying hu, run_getObj' ho (by simp), hc, Instr.findKey, run_underlying hd, h1, run_setObj' ho (by simp), Instr.keyThatStays, h2, h3]
            · refine (hI.put hL (k' := .map es') ⟨ents.modify j fun e => { e with key := xk, val := xv }, clock, by simp, h4⟩ ?_).dirt
              intro j x hx
              have := hI.m b j x hx
              simp [World.cell?, ho] at this
        · cases h
      · cases h
    · cases h
  · cases h

/-- .. whose value is settled first. -/
theorem w_mapSet (hI : Inv P B G s w) {t kt et : TypeId} (hu : P.underlying t = some (.map kt et)) {kk : KK} (hkt : keyT P kt = some kk) {m k x v : AV} {xm xk xv : Value} (rm : R G (.v m xm)) (rk : R G (.v k xk)) (rx : R G (.v x xv))
    (h : (match (generalizing := false) m, fixv s x with
    | .map l, some (v, s) =>
      (match s.blks[l]? with
      | some (.map es) =>
        if keyOf kk k then
          (match putA k v es with
          | some es' => some (undefA, Fw.dirt s l [v] (s.blks.set l (.map es')))
          | none => none)
        else none
      | _ => none)
    | _, _ => none) = some (v, s1)) : WRes P B G s1 w (do Instr.mapUpdate t xm xk xv; pure .skip) v := by
  cases hx : fixv s x with
  | none => rw [hx] at h; split at h <;> first | (rename_i q; cases q; done) | cases h
  | some y =>
    obtain ⟨v1, s2⟩ := y
    rw [hx] at h
    obtain ⟨G1, hle, hI1, rx1⟩ := fixv_ok hI rx hx
    obtain ⟨n, z, w', G', h1, h2, h3, h4, h5⟩ := w_mapSet1 hI1 hu hkt (rm.mono hle) (rk.mono hle) rx1 (by
      cases m <;> first | exact h | cases h)
    exact ⟨n, z, w', G', h1, h2, hle.trans h3, h4, h5⟩

theorem w_range (hI : Inv P B G s w) {t : TypeId} (hu : P.underlying t = some .string) {a v : AV} {x : Value} (r : R G (.v a x))
    (h : (match (generalizing := false) a with | .str t => some (AV.iter s.blks.length, { s with blks := s.blks ++ [.iter t 0] }) | _ => none) = some (v, s1)) : WRes P B G s1 w (do pure (Next.value (← Instr.range t x))) v := by
  cases r <;> simp only [reduceCtorEq] at h
  rename_i st hst
  cases h
  have hle : G.le (G.addL s.blks.length w.heap.size) := Gh.addL_le hI.Lend
  refine ⟨_, .pointer (some ⟨w.heap.size, 0, none⟩), w.alloc (.stringIter st 0), _, ?_, .inl rfl, hle, hI.allocL _ _ ⟨st, rfl, rfl, hst⟩, .iter addL_eq⟩
  simp [Instr.range, run_underlying hu]

theorem decode_ok (st : ByteArray) : (⟨st.data.toList.toArray⟩ : ByteArray) = st := by cases st; simp

theorem decode_max (s : ByteArray) (pos : Nat) : (Utf8.decode s pos).1 ≤ 2097151 := by
  unfold Utf8.decode
  dsimp only
  split
  · dsimp only; omega
  · split
    · split
      · dsimp only; omega
      · simp [Utf8.runeError]
    · split
      · split
        · dsimp only; omega
        · simp [Utf8.runeError]
      · split
        · split
          · dsimp only; omega
          · simp [Utf8.runeError]
        · simp [Utf8.runeError]

theorem w_next (hI : Inv P B G s w) {ty : TypeId} {a v : AV} {x : Value} (r : R G (.v a x))
    (h : (match (generalizing := false) a with
    | .iter l =>
      (match s.blks[l]? with
      | some (.iter t pos) =>
        if pos < t.length then
          (match Utf8.decode ⟨t.toArray⟩ pos with
          | (c, width) => some (AV.tuple [.bool true, .int .i64 pos, .int .i32 c], { s with blks := s.blks.set l (.iter t (pos + width)) }))
        else some (.tuple [.bool false], s)
      | _ => none)
    | _ => none) = some (v, s1)) : WRes P B G s1 w (do pure (Next.value (← Instr.next x true ty))) v := by
  cases r <;> simp only [reduceCtorEq] at h
  rename_i l b hL
  split at h
  · rename_i t pos hb
    obtain ⟨o, ho, hok⟩ := hI.at hL hb
    obtain ⟨st, rfl, rfl, hst⟩ := hok
    have hmem : ∀ o', ∀ j x, G.M b j = some x → (w.putObj b o').cell? ⟨b, j, none⟩ = some x := fun o' j x hx => by
      have := hI.m b j x hx
      simp [World.cell?, ho] at this
    split at h
    · rename_i hlt
      have hlt' : pos < st.size := by simpa using hlt
      rw [decode_ok] at h
      cases hdec : Utf8.decode st pos with
      | mk c width =>
        rw [hdec] at h
        cases h
        have hc : c ≤ 2097151 := by have := decode_max st pos; rw [hdec] at this; exact this
        refine ⟨_, .tuple #[.bool true, .int .i64 pos, .int .i32 c], w.putObj b (.stringIter st (pos + width)), G, ?_, .inl rfl, .refl _, hI.put hL ⟨st, rfl, rfl, hst⟩ (hmem _), ?_⟩
        · simp [Instr.next, run_getObj' ho (by simp), hlt', hdec, run_setObj' ho (by simp), goInt]
        · refine .tuple (.lcons (.bool _) (.lcons (.int (wrap_len (by omega))) (.lcons (.int ?_) .lnil)))
          have e : ∀ n, IntKind.i32.wrap n = if n % 4294967296 ≥ 2147483648 then n % 4294967296 - 4294967296 else n % 4294967296 := fun n => by simp [IntKind.wrap, IntKind.bits, IntKind.signed]
          rw [e, if_neg (by omega)]; omega
    · rename_i hlt
      have hlt' : ¬ pos < st.size := by simpa using hlt
      cases h
      exact ⟨_, .tuple #[.bool false], w, G, by simp [Instr.next, run_getObj' ho (by simp), hlt'], .inl rfl, .refl _, hI, .tuple (.lcons (.bool _) .lnil)⟩
  · cases h

end
end Go.Fw
