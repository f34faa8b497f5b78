/- The framework, part 5c: a slice's slice. -/
import Derived.Test.YthmlommnlihgcaaGreatDoorFwOps2
namespace Go.Fw
open Go
section
variable {P : Program} {B : Bs} {G : Gh} {s : ASt} {w : World} {P' : AProg} {env : Env} {ρ : Operand → Value}

theorem add_plain' (b o n : Nat) : (⟨b, o, none⟩ : Addr).add n = ⟨b, o + n, none⟩ := by unfold Addr.add; split <;> simp_all

theorem p_cutS (hI : Inv P B G s w) (hO : Opn P' env G ρ) {t e : TypeId} (hu : P.underlying t = some (.slice e)) {esz : Nat} (hes : P.cellsOf e = esz) (he : ∃ d, P.underlying e = some d) {a v : AV} {x : Value} (r : R G (.v a x)) {lo hi mx : Option Operand} {lo' hi' mx' : Option AOpnd}
    (h : (match (generalizing := false) a with
    | .slice sz xs o =>
      (match optNat P' env xs.length mx', optNat P' env xs.length hi', optNat P' env 0 lo' with
      | some m, some h, some l =>
        if l ≤ h && h ≤ m && m ≤ xs.length && (sz = esz || xs.isEmpty) && (mx'.isNone || hi'.isSome) then
          some (match lo', hi', mx' with
            | none, none, none => .slice sz xs o
            | _, _, some _ => .slice (szC sz ((xs.take h).drop l)) ((xs.take h).drop l) (if h = m then .full else .no)
            | _, _, _ => .slice (szC sz ((xs.take h).drop l)) ((xs.take h).drop l) .no)
        else none
      | _, _, _ => none)
    | .mslice l0 off len cap sz =>
      (match mx', optNat P' env len hi', optNat P' env 0 lo' with
      | none, some h, some l => if l ≤ h && h ≤ len && sz = esz && (l = 0 || l < cap) then some (AV.mslice l0 (off + l * sz) (h - l) (cap - l) sz) else none
      | _, _, _ => none)
    | _ => none) = some v) (hl : opndO lo = some lo') (hh : opndO hi = some hi') (hm : opndO mx = some mx') : PRes P G w (Instr.sliceAt t x (lo.map ρ) (hi.map ρ) (mx.map ρ)) v := by
  obtain ⟨ed, he⟩ := he
  -- the run, whatever the address is
  have key : ∀ (A : Option Addr) (len cap l h m : Nat), l ≤ h → h ≤ m → m ≤ cap →
      ((mx = none ∧ m = cap) ∨ ∃ z k, mx = some z ∧ ρ z = .int k (m : Int)) → ((hi = none ∧ mx = none ∧ h = len) ∨ ∃ z k, hi = some z ∧ ρ z = .int k (h : Int)) → ((lo = none ∧ l = 0) ∨ ∃ z k, lo = some z ∧ ρ z = .int k (l : Int)) →
      (Instr.sliceAt t (.slice A len cap) (lo.map ρ) (hi.map ρ) (mx.map ρ)).run P w = .ok (.slice (if m = l then A else A.map (·.add (l * esz))) (h - l) (m - l)) w := by
    intro A len cap l h m h1 h2 h3 hm hh hl
    have e : (Instr.sliceBounds true len cap (lo.map ρ) (hi.map ρ) (mx.map ρ)).run P w = .ok (l, h, m) w := by
      unfold Instr.sliceBounds
      rcases hm with ⟨rfl, rfl⟩ | ⟨zm, km, rfl, em⟩
      · rcases hh with ⟨rfl, _, rfl⟩ | ⟨zh, kh, rfl, eh⟩
        · rcases hl with ⟨rfl, rfl⟩ | ⟨zl, kl, rfl, el⟩
          · simp
          · simp [el, run_bound h1]
        · rcases hl with ⟨rfl, rfl⟩ | ⟨zl, kl, rfl, el⟩
          · simp [eh, run_bound h2]
          · simp [el, eh, run_bound h1, run_bound h2]
      · rcases hh with ⟨_, hx, _⟩ | ⟨zh, kh, rfl, eh⟩
        · cases hx
        · rcases hl with ⟨rfl, rfl⟩ | ⟨zl, kl, rfl, el⟩
          · simp [eh, em, run_bound h2, run_bound h3]
          · simp [el, eh, em, run_bound h1, run_bound h2, run_bound h3]
    simp [Instr.sliceAt, Instr.slice, run_underlying hu, e, run_sizeOf_u he, hes]
  have om : ∀ {d m}, optNat P' env d mx' = some m → (mx = none ∧ mx' = none ∧ m = d) ∨ ∃ z z' k, mx = some z ∧ mx' = some z' ∧ ρ z = .int k (m : Int) := fun h => opt_ok hO hm h
  have oh : ∀ {d m}, optNat P' env d hi' = some m → (hi = none ∧ hi' = none ∧ m = d) ∨ ∃ z z' k, hi = some z ∧ hi' = some z' ∧ ρ z = .int k (m : Int) := fun h => opt_ok hO hh h
  have ol : ∀ {d m}, optNat P' env d lo' = some m → (lo = none ∧ lo' = none ∧ m = d) ∨ ∃ z z' k, lo = some z ∧ lo' = some z' ∧ ρ z = .int k (m : Int) := fun h => opt_ok hO hl h
  -- a slice that is read
  have core0 : ∀ (sz : Nat) (xs : List AV) (o : Own) (A : Option Addr) (c : Nat), R G (.v (.slice sz xs o) (.slice A xs.length c)) → xs.length ≤ c → c ≤ maxLen →
      (∀ l hx m, l ≤ hx → hx ≤ m → m ≤ c → hx ≤ xs.length → (sz = esz ∨ xs = []) → ∀ o', (o' = .no ∨ (o' = .full ∧ hx = m)) → R G (.v (.slice sz ((xs.take hx).drop l) o') (.slice (if m = l then A else A.map (·.add (l * esz))) (hx - l) (m - l)))) := by
    clear h om oh ol key
    intro sz xs o A c r hc hcm l hx m h1 h2 h3 h4 hs o' ho'
    have hlen : ((xs.take hx).drop l).length = hx - l := by simp; omega
    have hown : ∀ A', ownOk G o' A' sz (hx - l) (m - l) := by
      intro A'; rcases ho' with rfl | ⟨rfl, rfl⟩
      · trivial
      · rfl
    by_cases hz : hx - l = 0
    · have he : (xs.take hx).drop l = [] := List.eq_nil_of_length_eq_zero (by omega)
      rw [he, hz]
      exact .sliceE (by omega) (by have := hown (if m = l then A else A.map (·.add (l * esz))); rwa [hz] at this)
    · have hml : m ≠ l := by omega
      rw [if_neg hml]
      cases r with
      | sliceE => simp at h4; omega
      | sliceN _ _ hr _ =>
        rename_i b off
        have hse : sz = esz := by
          rcases hs with h | h
          · exact h
          · subst h; simp at h4; omega
        subst hse
        simp only [Option.map_some, add_plain']
        have := (hr.r_take hx).r_drop l (by simp; omega)
        have e2 : hx - l = ((xs.take hx).drop l).length := hlen.symm
        rw [e2]
        exact .sliceN (by rw [hlen]; omega) (by omega) this (by rw [hlen]; exact hown _)
  have core : ∀ (sz : Nat) (xs : List AV) (o : Own) (A : Option Addr) (c : Nat), R G (.v (.slice sz xs o) (.slice A xs.length c)) → xs.length ≤ c → c ≤ maxLen →
      (∀ l hx m, l ≤ hx → hx ≤ m → m ≤ c → hx ≤ xs.length → (sz = esz ∨ xs = []) → ∀ o', (o' = .no ∨ (o' = .full ∧ hx = m)) → R G (.v (.slice (szC sz ((xs.take hx).drop l)) ((xs.take hx).drop l) o') (.slice (if m = l then A else A.map (·.add (l * esz))) (hx - l) (m - l)))) := by
    clear h om oh ol key
    intro sz xs o A c r hc hcm l hx m h1 h2 h3 h4 hs o' ho'
    have k := core0 sz xs o A c r hc hcm l hx m h1 h2 h3 h4 hs o' ho'
    cases hq : (xs.take hx).drop l with
    | cons y ys => rw [hq] at k; exact k
    | nil =>
      rw [hq] at k
      generalize hn : hx - l = n at k ⊢
      generalize hA : (if m = l then A else A.map (·.add (l * esz))) = A' at k ⊢
      generalize m - l = c' at k ⊢
      cases k with
      | sliceE hm ho =>
        refine .sliceE hm ?_
        rcases ho' with rfl | ⟨rfl, _⟩
        · trivial
        · exact ho
      | sliceN hc hm hr ho =>
        refine .sliceE hm ?_
        rcases ho' with rfl | ⟨rfl, _⟩
        · trivial
        · exact ho
  cases r with
  | ms hL hc hcm =>
    rename_i l0 off len cap sz b
    simp only at h
    split at h
    · rename_i hh' ll e2 e3
      split at h
      · rename_i hcond
        cases h
        simp at hcond
        obtain ⟨⟨⟨c1, c2⟩, c3⟩, c4⟩ := hcond
        have hmx : mx = none := by cases mx with | none => rfl | some z => simp only [opndO, Option.map_eq_some_iff] at hm; obtain ⟨_, _, hq⟩ := hm; cases hq
        subst hmx
        refine .of hI (key _ len cap ll hh' cap c1 (by omega) (Nat.le_refl _) (.inl ⟨rfl, rfl⟩) ?_ ?_) ?_
        · rcases oh e2 with ⟨h1, _, h2⟩ | ⟨z, _, k, h1, _, h2⟩
          · exact .inl ⟨h1, rfl, h2⟩
          · exact .inr ⟨z, k, h1, h2⟩
        · rcases ol e3 with ⟨h1, _, h2⟩ | ⟨z, _, k, h1, _, h2⟩
          · exact .inl ⟨h1, h2⟩
          · exact .inr ⟨z, k, h1, h2⟩
        · subst c3
          by_cases hcl : cap = ll
          · have hl0 : ll = 0 := by omega
            subst hl0
            rw [if_pos hcl]
            simpa using R.ms (off := off) (sz := sz) hL (len := hh' - 0) (cap := cap - 0) (by omega) (by omega)
          · rw [if_neg hcl]
            simp only [Option.map_some, add_plain']
            exact .ms hL (by omega) (by omega)
      · cases h
    · cases h
  | sliceE hcm ho =>
    rename_i sz o A c
    have rr : R G (.v (.slice sz [] o) (.slice A ([] : List AV).length c)) := .sliceE hcm ho
    simp only at h
    split at h
    · rename_i m hh' ll e1 e2 e3
      split at h
      · rename_i hcond
        simp at hcond
        obtain ⟨⟨⟨c1, c2⟩, c3⟩, c5⟩ := hcond
        subst c3
        have hh0 : hh' = 0 := by omega
        have hl0 : ll = 0 := by omega
        subst hh0; subst hl0
        rcases om e1 with ⟨m1, m2, _⟩ | ⟨zm, zm', km, m1, m2, m3⟩
        · subst m1; subst m2
          have hrun := key A 0 c 0 0 c (Nat.le_refl _) (Nat.zero_le _) (Nat.le_refl _) (.inl ⟨rfl, rfl⟩) (by rcases oh e2 with ⟨h1, _, h2⟩ | ⟨z, _, k, h1, _, h2⟩; exact .inl ⟨h1, rfl, rfl⟩; exact .inr ⟨z, k, h1, h2⟩) (by rcases ol e3 with ⟨h1, _, h2⟩ | ⟨z, _, k, h1, _, h2⟩; exact .inl ⟨h1, rfl⟩; exact .inr ⟨z, k, h1, h2⟩)
          refine .of hI hrun ?_
          have hA : (if c = 0 then A else A.map (·.add (0 * esz))) = A := by
            split
            · rfl
            · cases A <;> simp [Addr.add]
          rw [hA]
          cases h
          split
          · exact .sliceE hcm ho
          · contradiction
          · exact .sliceE (by omega) trivial
        · subst m1; subst m2
          have hrun := key A 0 c 0 0 0 (Nat.le_refl _) (Nat.le_refl _) (Nat.zero_le _) (.inr ⟨zm, km, rfl, m3⟩) (by rcases oh e2 with ⟨h1, hq, h2⟩ | ⟨z, _, k, h1, _, h2⟩; exact absurd c5 (by rw [hq]; simp); exact .inr ⟨z, k, h1, h2⟩) (by rcases ol e3 with ⟨h1, _, h2⟩ | ⟨z, _, k, h1, _, h2⟩; exact .inl ⟨h1, rfl⟩; exact .inr ⟨z, k, h1, h2⟩)
          refine .of hI hrun ?_
          cases h
          simpa using core sz [] o A c rr (Nat.zero_le _) hcm 0 0 0 (Nat.le_refl _) (Nat.le_refl _) (Nat.zero_le _) (Nat.le_refl _) (.inr rfl) .full (.inr ⟨rfl, rfl⟩)
      · cases h
    · cases h
  | sliceN hc hcm hr ho =>
    rename_i sz xs o b off c
    have rr : R G (.v (.slice sz xs o) (.slice (some ⟨b, off, none⟩) xs.length c)) := .sliceN hc hcm hr ho
    simp only at h
    split at h
    · rename_i m hh' ll e1 e2 e3
      split at h
      · rename_i hcond
        simp at hcond
        obtain ⟨⟨⟨⟨c1, c2⟩, c3⟩, c4⟩, c5⟩ := hcond
        rcases om e1 with ⟨m1, m2, m3⟩ | ⟨zm, zm', km, m1, m2, m3⟩
        · subst m1; subst m2
          have hrun := key (some ⟨b, off, none⟩) xs.length c ll hh' c c1 (by omega) (Nat.le_refl _) (.inl ⟨rfl, rfl⟩) (by rcases oh e2 with ⟨h1, _, h2⟩ | ⟨z, _, k, h1, _, h2⟩; exact .inl ⟨h1, rfl, h2⟩; exact .inr ⟨z, k, h1, h2⟩) (by rcases ol e3 with ⟨h1, _, h2⟩ | ⟨z, _, k, h1, _, h2⟩; exact .inl ⟨h1, h2⟩; exact .inr ⟨z, k, h1, h2⟩)
          refine .of hI hrun ?_
          cases h
          split
          · rename_i g1 g2
            rcases oh e2 with ⟨_, _, h2⟩ | ⟨_, _, _, _, hq, _⟩
            · rcases ol e3 with ⟨_, _, h4⟩ | ⟨_, _, _, _, hq, _⟩
              · subst h2; subst h4
                have hA : (if c = 0 then some (⟨b, off, none⟩ : Addr) else (some (⟨b, off, none⟩ : Addr)).map (·.add (0 * esz))) = some ⟨b, off, none⟩ := by
                  split
                  · rfl
                  · simp [Addr.add]
                rw [hA]; simpa using rr
              · cases hq
            · cases hq
          · contradiction
          · exact core sz xs o _ c rr hc hcm ll hh' c c1 (by omega) (Nat.le_refl _) (by omega) c4 .no (.inl rfl)
        · subst m1; subst m2
          have hrun := key (some ⟨b, off, none⟩) xs.length c ll hh' m c1 c2 (by omega) (.inr ⟨zm, km, rfl, m3⟩) (by rcases oh e2 with ⟨h1, hq, h2⟩ | ⟨z, _, k, h1, _, h2⟩; exact absurd c5 (by rw [hq]; simp); exact .inr ⟨z, k, h1, h2⟩) (by rcases ol e3 with ⟨h1, _, h2⟩ | ⟨z, _, k, h1, _, h2⟩; exact .inl ⟨h1, h2⟩; exact .inr ⟨z, k, h1, h2⟩)
          refine .of hI hrun ?_
          have hfin : R G (.v (.slice (szC sz ((xs.take hh').drop ll)) ((xs.take hh').drop ll) (if hh' = m then .full else .no)) (.slice (if m = ll then some ⟨b, off, none⟩ else (some (⟨b, off, none⟩ : Addr)).map (·.add (ll * esz))) (hh' - ll) (m - ll))) := by
            refine core sz xs o _ c rr hc hcm ll hh' m c1 c2 (by omega) (by omega) c4 _ ?_
            by_cases hm' : hh' = m
            · rw [if_pos hm']; exact .inr ⟨rfl, hm'⟩
            · rw [if_neg hm']; exact .inl rfl
          have e9 : v = .slice (szC sz ((xs.take hh').drop ll)) ((xs.take hh').drop ll) (if hh' = m then .full else .no) := by
            cases lo' <;> cases hi' <;> simp at h <;> exact h.symm
          rw [e9]; exact hfin
      · cases h
    · cases h
  | _ => simp at h

end
end Go.Fw
