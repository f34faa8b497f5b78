/- The framework, part 17: the same interpreter out of small closed parts, so that the kernel reckons it quickly. -/
import Derived.Test.YthmlommnlihgcaaGreatDoorFwFast
namespace Go.Fw
open Go

abbrev OpFun := AProg → Env → ASt → Option (AV × ASt)
def pureF (o : Option AV) (s : ASt) : Option (AV × ASt) := match o with | some v => some (v, s) | none => none
def noF : OpFun := fun _ _ _ => none

/-! Whole numbers, quickly. -/
def limQ : IntKind → Nat
  | .i8 => 128 | .i16 => 32768 | .i32 => 2147483648 | .i64 => 9223372036854775808
  | .u8 => 256 | .u16 => 65536 | .u32 => 4294967296 | .u64 => 18446744073709551616
def wrapQ (k : IntKind) (n : Int) : Int :=
  match n with
  | .ofNat m => match Nat.blt m (limQ k) with | true => .ofNat m | false => k.wrap (.ofNat m)
  | .negSucc m => k.wrap (.negSucc m)
theorem wrapQ_ok (k : IntKind) (n : Int) : wrapQ k n = k.wrap n := by
  cases n with
  | negSucc m => rfl
  | ofNat m =>
    simp only [wrapQ]
    cases h : Nat.blt m (limQ k) with
    | false => rfl
    | true =>
      have h' : m < limQ k := Nat.blt_eq.mp h
      unfold IntKind.wrap
      cases k <;> simp [limQ, IntKind.signed, IntKind.bits] at h' ⊢ <;> (try split) <;> omega
def addQ : Int → Int → Int
  | .ofNat m, .ofNat n => .ofNat (Nat.add m n)
  | a, b => a + b
theorem addQ_ok (a b : Int) : addQ a b = a + b := by cases a <;> cases b <;> rfl
def subQ : Int → Int → Int
  | .ofNat m, .ofNat n => match Nat.ble n m with | true => .ofNat (Nat.sub m n) | false => .ofNat m - .ofNat n
  | a, b => a - b
theorem subQ_ok (a b : Int) : subQ a b = a - b := by
  cases a <;> cases b <;> try rfl
  rename_i m n
  simp only [subQ]
  cases h : Nat.ble n m with
  | false => rfl
  | true =>
    have := Nat.le_of_ble_eq_true h
    simp only [Int.ofNat_eq_natCast, Nat.sub_eq]
    omega
def ltQ : Int → Int → Bool
  | .ofNat m, .ofNat n => Nat.blt m n
  | a, b => decide (a < b)
theorem ltQ_ok (a b : Int) : ltQ a b = decide (a < b) := by
  cases a <;> cases b <;> try rfl
  rename_i m n
  simp only [ltQ, Int.ofNat_eq_natCast, Int.ofNat_lt]
  cases h : Nat.blt m n with
  | true => exact (decide_eq_true (Nat.blt_eq.mp h)).symm
  | false => exact (decide_eq_false (fun hlt => by rw [Nat.blt_eq.mpr hlt] at h; cases h)).symm
def eqQ : Int → Int → Bool
  | .ofNat m, .ofNat n => Nat.beq m n
  | a, b => a == b
theorem eqQ_ok (a b : Int) : eqQ a b = (a == b) := by
  cases a <;> cases b <;> try rfl
  rename_i m n
  simp only [eqQ]
  cases h : Nat.beq m n with
  | true => rw [Nat.eq_of_beq_eq_true h]; simp
  | false =>
    have : m ≠ n := fun hq => by rw [hq, Nat.beq_refl] at h; cases h
    symm
    rw [beq_eq_false_iff_ne]
    intro hq
    exact this (Int.ofNat.inj hq)
theorem not_lt_dec (a b : Int) : decide (a ≤ b) = !decide (b < a) := by
  by_cases h : a ≤ b
  · rw [decide_eq_true h, decide_eq_false (by omega)]; rfl
  · rw [decide_eq_false h, decide_eq_true (by omega)]; rfl
def intQ (op : BinOp) (k : IntKind) (a b : Int) : Option AV :=
  match op with
  | .add => some (.int k (wrapQ k (addQ a b)))
  | .sub => some (.int k (wrapQ k (subQ a b)))
  | .eql => some (.bool (eqQ a b))
  | .neq => some (.bool (!eqQ a b))
  | .lss => some (.bool (ltQ a b))
  | .leq => some (.bool (!ltQ b a))
  | .gtr => some (.bool (ltQ b a))
  | .geq => some (.bool (!ltQ a b))
  | op => intBin op k a b
theorem intQ_ok (op : BinOp) (k : IntKind) (a b : Int) : intQ op k a b = intBin op k a b := by
  cases op <;> simp only [intQ, intBin, wrapQ_ok, addQ_ok, subQ_ok, ltQ_ok, eqQ_ok, not_lt_dec, bne, ge_iff_le, gt_iff_lt]
def kindQ : IntKind → Nat
  | .i8 => 0 | .i16 => 1 | .i32 => 2 | .i64 => 3 | .u8 => 4 | .u16 => 5 | .u32 => 6 | .u64 => 7
theorem kindQ_inj {k k' : IntKind} (h : kindQ k = kindQ k') : k = k' := by cases k <;> cases k' <;> first | rfl | cases h
def binQ (op : BinOp) (x y : AV) : Option AV :=
  match x with
  | .int k a =>
    match y with
    | .int k' b =>
      match op with
      | .shl => binA .shl (.int k a) (.int k' b)
      | .shr => binA .shr (.int k a) (.int k' b)
      | op => match Nat.beq (kindQ k) (kindQ k') with | true => intQ op k a b | false => none
    | y => binA op (.int k a) y
  | x => binA op x y
theorem binQ_ok (op : BinOp) (x y : AV) : binQ op x y = binA op x y := by
  cases x with
  | int k a =>
    cases y with
    | int k' b =>
      have key : (match Nat.beq (kindQ k) (kindQ k') with | true => intQ op k a b | false => none) = if k = k' then intBin op k a b else none := by
        cases h : Nat.beq (kindQ k) (kindQ k') with
        | true => rw [if_pos (kindQ_inj (Nat.eq_of_beq_eq_true h))]; exact intQ_ok op k a b
        | false => rw [if_neg (fun hq => by rw [hq, Nat.beq_refl] at h; cases h)]
      cases op <;> first | rfl | exact key
    | _ => rfl
  | _ => rfl

def qMv (x : AOpnd) : OpFun := fun P e s => some (evO P e x, s)
def qPick (c a b : AOpnd) : OpFun := fun P e s => pureF (match evO P e c with | .bool t => some (match t with | true => evO P e a | false => evO P e b) | _ => none) s
def qBoxc (x : AOpnd) : OpFun := fun P e s => pureF (match fixP (evO P e x) with | some v => some (.cptr v 0) | none => none) s
def qBuild (z : List AV) (parts : List (Nat × Nat × AOpnd)) : OpFun := fun P e s => pureF (match fillA z (parts.map fun p => (p.1, p.2.1, evO P e p.2.2)) with | some cs => some (.agg cs) | none => none) s
def qBslice (esz len : Nat) (z : List AV) (parts : List (Nat × AOpnd)) : OpFun := fun P e s => pureF (
    match fixPs (parts.map fun p => evO P e p.2) with
    | some vs =>
      if vs.all (fun v => (cellsOf v).length == esz) && decide (len * esz ≤ 16777216) then
        match setEl (List.replicate len (elemOf esz z)) ((parts.map (·.1)).zip vs) with
        | some xs => some (.slice esz xs .full)
        | none => none
      else none
    | none => none) s
def qBsliceF (esz len : Nat) (z : List AV) (parts : List (Nat × AOpnd)) : OpFun := fun P e s => pureF (
    match fixPs (parts.map fun p => evO P e p.2) with
    | some vs =>
      if vs.all (fun v => (cellsOf v).length == esz) && decide (len * esz ≤ 16777216) then
        match setEl (List.replicate len (elemOf esz z)) ((parts.map (·.1)).zip vs) with
        | some xs => some (.slice esz xs .lit)
        | none => none
      else none
    | none => none) s
def qNilchk (x : AOpnd) : OpFun := fun P e s => pureF (match evO P e x with | .ptr l o => some (.ptr l o) | .cptr v o => some (.cptr v o) | .func f a b => some (.func f a b) | .yield l => some (.yield l) | _ => none) s
def qBin (op : BinOp) (x y : AOpnd) : OpFun := fun P e s => pureF (binQ op (evO P e x) (evO P e y)) s
def qEq (neg : Bool) (x y : AOpnd) : OpFun := fun P e s => pureF (match eqA (evO P e x) (evO P e y) with | some b => some (.bool (match neg with | true => !b | false => b)) | none => none) s
def qEqF (neg : Bool) (ks : List KK) (x y : AOpnd) : OpFun := fun P e s => pureF (
    match evO P e x, evO P e y with
    | .agg xs, .agg ys => match flatK ks xs ys with | some b => some (.bool (match neg with | true => !b | false => b)) | none => none
    | _, _ => none) s
def qEqnil (neg : Bool) (k : NK) (x : AOpnd) : OpFun := fun P e s => pureF (match nilA k (evO P e x) with | some b => some (.bool (match neg with | true => !b | false => b)) | none => none) s
def qUn (op : UnOp) (x : AOpnd) : OpFun := fun P e s => pureF (aopP P e (.un op x)) s
def qToInt (k : IntKind) (x : AOpnd) : OpFun := fun P e s => pureF (match evO P e x with | .int k' n => some (.int k (if k = k' then n else k.wrap n)) | _ => none) s
def qMkIface (t : Nat) (x : AOpnd) : OpFun := fun P e s => pureF (match fixP (evO P e x) with | some v => some (.iface t v) | none => none) s
def qMkFunc (f : Nat) (a b : List AOpnd) : OpFun := fun P e s => pureF (match fixPs (a.map (evO P e)), fixPs (b.map (evO P e)) with | some a, some b => some (.func f a b) | _, _ => none) s
def qCutS (esz : Nat) (x : AOpnd) (lo hi mx : Option AOpnd) : OpFun := fun P e s => pureF (
    match evO P e x with
    | .slice sz xs o =>
      match optNat P e xs.length mx, optNat P e xs.length hi, optNat P e 0 lo with
      | some m, some h, some l =>
        if l ≤ h && h ≤ m && m ≤ xs.length && (sz = esz || xs.isEmpty) && (mx.isNone || hi.isSome) then
          some (match lo, hi, mx with
            | none, none, none => .slice sz xs o
            | _, _, some _ => .slice (szC sz ((xs.take h).drop l)) ((xs.take h).drop l) (if h = m then .full else .no)
            | _, _, _ => .slice (szC sz ((xs.take h).drop l)) ((xs.take h).drop l) .no)
        else none
      | _, _, _ => none
    | .mslice l0 off len cap sz =>
      match mx, optNat P e len hi, optNat P e 0 lo with
      | none, some h, some l => if l ≤ h && h ≤ len && sz = esz && (l = 0 || l < cap) then some (.mslice l0 (off + l * sz) (h - l) (cap - l) sz) else none
      | _, _, _ => none
    | _ => none) s
def qCutStr (x : AOpnd) (lo hi : Option AOpnd) : OpFun := fun P e s => pureF (
    match evO P e x with
    | .str s =>
      match optNat P e s.length hi, optNat P e 0 lo with
      | some h, some l => if l ≤ h && h ≤ s.length then some (.str ((s.take h).drop l)) else none
      | _, _ => none
    | _ => none) s
def qCutA (n esz : Nat) (x : AOpnd) (lo hi : Option AOpnd) : OpFun := fun P e s => pureF (
    match evO P e x, optNat P e n hi, optNat P e 0 lo with
    | .cptr v off, some h, some l =>
      if l ≤ h && h ≤ n && off + n * esz ≤ (cellsOf v).length then some (.slice esz (chunks esz (h - l) ((cellsOf v).drop (off + l * esz))) .no) else none
    | .ptr b off, some h, some l => if l ≤ h && h ≤ n && (l = 0 || l < n) then some (.mslice b (off + l * esz) (h - l) (n - l) esz) else none
    | _, _, _ => none) s
def qFieldA (off : Nat) (x : AOpnd) : OpFun := fun P e s => pureF (match evO P e x with | .ptr l o => some (.ptr l (o + off)) | .cptr v o => some (.cptr v (o + off)) | _ => none) s
def qField (agg : Bool) (off sz : Nat) (x : AOpnd) : OpFun := fun P e s => pureF (match evO P e x with | .agg cs => partOf agg sz cs off | _ => none) s
def qIdxS (esz : Nat) (x i : AOpnd) : OpFun := fun P e s => pureF (
    match evO P e x, natOf (evO P e i) with
    | .slice sz xs _, some i => if sz = esz then (match xs[i]? with | some x => some (.cptr x 0) | none => none) else none
    | .mslice l off len _ sz, some i => if sz = esz && i < len then some (.ptr l (off + i * sz)) else none
    | _, _ => none) s
def qIdxA (n esz : Nat) (x i : AOpnd) : OpFun := fun P e s => pureF (
    match evO P e x, natOf (evO P e i) with
    | .ptr l o, some i => if i < n then some (.ptr l (o + i * esz)) else none
    | .cptr v o, some i => if i < n then some (.cptr v (o + i * esz)) else none
    | _, _ => none) s
def qIdxV (n esz : Nat) (ag : Bool) (x i : AOpnd) : OpFun := fun P e s => pureF (
    match evO P e x, natOf (evO P e i) with
    | .agg cs, some i => if i < n then partOf ag esz cs (i * esz) else none
    | _, _ => none) s
def qIdxStr (x i : AOpnd) : OpFun := fun P e s => pureF (
    match evO P e x, natOf (evO P e i) with
    | .str s, some i => match s[i]? with | some b => some (.int .u8 b.toNat) | none => none
    | _, _ => none) s
def qAssert (ok : Bool) (t : Nat) (z : AV) (x : AOpnd) : OpFun := fun P e s => pureF (
    match evO P e x with
    | .iface t' v => if t' = t then some (match ok with | true => .tuple [v, .bool true] | false => v) else (match ok with | true => some (.tuple [z, .bool false]) | false => none)
    | .niliface => match ok with | true => some (.tuple [z, .bool false]) | false => none
    | _ => none) s
def qExtract (x : AOpnd) (i : Nat) : OpFun := fun P e s => pureF (match evO P e x with | .tuple vs => vs[i]? | _ => none) s
def qLenS (x : AOpnd) : OpFun := fun P e s => pureF (match evO P e x with | .slice _ xs _ => some (.int .i64 xs.length) | .mslice _ _ len _ _ => some (.int .i64 len) | _ => none) s
def qLenStr (x : AOpnd) : OpFun := fun P e s => pureF (match evO P e x with | .str s => some (.int .i64 s.length) | _ => none) s
def qLenA (n : Nat) : OpFun := fun _ _ s => some (.int .i64 n, s)
def qMinmax (mx : Bool) (xs : List AOpnd) : OpFun := fun P e s => pureF (aopP P e (.minmax mx xs)) s
def qLoad (agg : Bool) (sz : Nat) (x : AOpnd) : OpFun := fun P e s => pureF (
    match evO P e x with
    | .cptr v off => match agg with
      | true => match off with
        | 0 => if (cellsOf v).length = sz then some (.agg (cellsOf v)) else partOf true sz (cellsOf v) 0
        | off => partOf true sz (cellsOf v) off
      | false => (cellsOf v)[off]?
    | .ptr l off =>
      match s.blks[l]? with
      | some (.cells cs _) => match agg with
        | true => match partOf true sz cs off with | some v => fixP v | none => none
        | false => cs[off]?
      | _ => none
    | _ => none) s
def qLookup (ok : Bool) (kk : KK) (z : AV) (m k : AOpnd) : OpFun := fun P e s => pureF (
    match evO P e m with
    | .map l =>
      match s.blks[l]? with
      | some (.map es) =>
        if keyOf kk (evO P e k) then
          match findA (evO P e k) es with
          | some (some v) => some (match ok with | true => .tuple [v, .bool true] | false => v)
          | some none => some (match ok with | true => .tuple [z, .bool false] | false => z)
          | none => none
        else none
      | _ => none
    | .nilmap => some (match ok with | true => .tuple [z, .bool false] | false => z)
    | _ => none) s
def qBox (x : AOpnd) : OpFun := fun P e s => match boxOk (evO P e x) with | true => some (.ptr s.blks.length 0, { s with blks := s.blks ++ [.cells (cellsOf (evO P e x)) true] }) | false => none
def qAlloc (z : List AV) : OpFun := fun _ _ s => some (.ptr s.blks.length 0, { s with blks := s.blks ++ [.cells z true] })
def qStore (sz : Nat) (a x : AOpnd) : OpFun := fun P e s =>
    match evO P e a with
    | .ptr l off =>
      match s.blks[l]? with
      | some (.cells cs true) =>
        if boxOk (evO P e x) && (cellsOf (evO P e x)).length = sz && off + sz ≤ cs.length then
          some (undefA, dirt s l (cellsOf (evO P e x)) (s.blks.set l (.cells (splice cs off (cellsOf (evO P e x))) true)))
        else none
      | _ => none
    | _ => none
def qMkMap : OpFun := fun _ _ s => some (.map s.blks.length, { s with blks := s.blks ++ [.map []] })
def qMkSlice (esz bytes : Nat) (z : List AV) (l c : AOpnd) : OpFun := fun P e s =>
    match natOf (evO P e l), natOf (evO P e c) with
    | some l, some c =>
      if l ≤ c && c * bytes ≤ big && c ≤ big then some (.mslice s.blks.length 0 l c esz, { s with blks := s.blks ++ [.cells (reps c z) true] }) else none
    | _, _ => none
def qMapSet (kk : KK) (m k v : AOpnd) : OpFun := fun P e s => aopW P e s (.mapSet kk m k v)
def qRangeStr (x : AOpnd) : OpFun := fun P e s => match evO P e x with | .str t => some (.iter s.blks.length, { s with blks := s.blks ++ [.iter t 0] }) | _ => none
def qNextStr (it : AOpnd) : OpFun := fun P e s => aopW P e s (.nextStr it)
def qAppend (tk : Bool) (esz bytes : Nat) (a x : AOpnd) : OpFun := fun P e s => aopW P e s (.append tk esz bytes a x)
def qCopy (esz : Nat) (d x : AOpnd) : OpFun := fun P e s => aopW P e s (.copy esz d x)

/-- An operation, taken apart. -/
inductive Sp where
  | plain (f : OpFun)
  | pend (z : List AV)
  | shut (d : Nat) (sz : Nat) (x : AOpnd)
  | defer (f : AOpnd) (args : List AOpnd)
  | panic (x : AOpnd)
  | callP (st : Bool) (f : AOpnd) (args : List AOpnd)
  | call (f : AOpnd) (args : List AOpnd)

noncomputable def spOf : AOp → Sp := fun o => AOp.rec
  (fun x => .plain (qMv x)) (fun c a b => .plain (qPick c a b)) (fun x => .plain (qBoxc x)) (fun x => .plain (qBox x)) (fun z => .pend z) (fun d sz x => .shut d sz x)
  (fun z => .plain (qAlloc z)) (fun z p => .plain (qBuild z p)) (fun e l z p => .plain (qBslice e l z p)) (fun e l z p => .plain (qBsliceF e l z p)) (fun a sz x => .plain (qLoad a sz x)) (fun sz a x => .plain (qStore sz a x)) (fun x => .plain (qNilchk x))
  (fun op x y => .plain (qBin op x y)) (fun n x y => .plain (qEq n x y)) (fun n ks x y => .plain (qEqF n ks x y)) (fun n k x => .plain (qEqnil n k x)) (fun op x => .plain (qUn op x)) (fun k x => .plain (qToInt k x)) (fun t x => .plain (qMkIface t x))
  (fun f a b => .plain (qMkFunc f a b)) (.plain qMkMap) (fun e b z l c => .plain (qMkSlice e b z l c)) (fun e x l h m => .plain (qCutS e x l h m)) (fun x l h => .plain (qCutStr x l h)) (fun n e x l h => .plain (qCutA n e x l h))
  (fun o x => .plain (qFieldA o x)) (fun a o sz x => .plain (qField a o sz x)) (fun e x i => .plain (qIdxS e x i)) (fun n e x i => .plain (qIdxA n e x i)) (fun n e g x i => .plain (qIdxV n e g x i)) (fun x i => .plain (qIdxStr x i)) (fun ok kk z m k => .plain (qLookup ok kk z m k))
  (fun kk m k v => .plain (qMapSet kk m k v)) (fun x => .plain (qRangeStr x)) (fun x => .plain (qNextStr x)) (fun ok t z x => .plain (qAssert ok t z x)) (fun x i => .plain (qExtract x i)) (fun f xs => .call f xs) (fun st f xs => .callP st f xs)
  (fun x => .plain (qLenS x)) (fun x => .plain (qLenStr x)) (fun n => .plain (qLenA n)) (fun tk e b a x => .plain (qAppend tk e b a x)) (fun e d x => .plain (qCopy e d x)) (fun m xs => .plain (qMinmax m xs)) (.plain noF)
  (fun f xs => .defer f xs) (fun x => .panic x) (.plain noF) o

theorem step_P {P : AProg} {e : Env} {s : ASt} {op : AOp} (h1 : aopR P e s op = none) (h2 : aopW P e s op = none) : stepA P e s op = pureF (aopP P e op) s := by
  unfold stepA pureF
  cases aopP P e op with
  | some v => rfl
  | none => simp only [h1, h2]
theorem step_R {P : AProg} {e : Env} {s : ASt} {op : AOp} (h1 : aopP P e op = none) (h2 : aopW P e s op = none) : stepA P e s op = pureF (aopR P e s op) s := by
  unfold stepA pureF
  rw [h1]
  cases aopR P e s op with
  | some v => rfl
  | none => simp only [h2]

theorem spOf_plain {P : AProg} {e : Env} {s : ASt} {op : AOp} (hp : plainO op = true) : ∃ f, spOf op = .plain f ∧ f P e s = stepA P e s op := by
  cases op with
  | pend z => cases hp
  | shut d sz x => cases hp
  | defer f xs => cases hp
  | panic x => cases hp
  | callP st f xs => cases hp
  | call f xs => cases hp
  | load a sz x => exact ⟨_, rfl, by rw [step_R (P := P) (e := e) (s := s)] <;> rfl⟩
  | lookup ok kk z m k => exact ⟨_, rfl, by rw [step_R (P := P) (e := e) (s := s)] <;> rfl⟩
  | bin op x y => exact ⟨_, rfl, by rw [step_P (P := P) (e := e) (s := s) (op := .bin op x y) rfl rfl]; exact congrArg (fun o => pureF o s) (binQ_ok op _ _)⟩
  | box x => exact ⟨_, rfl, rfl⟩
  | alloc z => exact ⟨_, rfl, rfl⟩
  | store sz a x => exact ⟨_, rfl, rfl⟩
  | mkMap => exact ⟨_, rfl, rfl⟩
  | mkSlice e b z l c => exact ⟨_, rfl, rfl⟩
  | mapSet kk m k v => exact ⟨_, rfl, rfl⟩
  | rangeStr x => exact ⟨_, rfl, rfl⟩
  | nextStr x => exact ⟨_, rfl, rfl⟩
  | append tk e b a x => exact ⟨_, rfl, rfl⟩
  | copy e d x => exact ⟨_, rfl, rfl⟩
  | recov => exact ⟨_, rfl, rfl⟩
  | bad => exact ⟨_, rfl, rfl⟩
  | _ => exact ⟨_, rfl, by rw [step_P (P := P) (e := e) (s := s)] <;> rfl⟩

/-! ### Frames that bear no unmade terms -/
def setK {α : Type} : Tr → List Bool → AV → (Tr → α) → α
  | t, [], v, k => match t with | .nil => k (.node (some v) .nil .nil) | .node _ l r => k (.node (some v) l r)
  | t, true :: p, v, k => match t with | .nil => setK .nil p v fun l' => k (.node none l' .nil) | .node u l r => setK l p v fun l' => k (.node u l' r)
  | t, false :: p, v, k => match t with | .nil => setK .nil p v fun r' => k (.node none .nil r') | .node u l r => setK r p v fun r' => k (.node u l r')
theorem setK_ok {α : Type} : ∀ (p : List Bool) (t : Tr) (v : AV) (k : Tr → α), setK t p v k = k (t.set p v)
  | [], t, v, k => by cases t <;> rfl
  | true :: p, t, v, k => by cases t <;> (simp only [setK, setK_ok p]; rfl)
  | false :: p, t, v, k => by cases t <;> (simp only [setK, setK_ok p]; rfl)
def putK {α : Type} (fr : TF) (d : Option Nat) (v : AV) (k : TF → α) : α :=
  match fr with
  | ⟨⟨base, ov⟩, ds⟩ => match d with | none => k ⟨⟨base, ov⟩, ds⟩ | some i => setK ov (path i i) v fun ov' => k ⟨⟨base, ov'⟩, ds⟩
theorem putK_ok {α : Type} (fr : TF) (d : Option Nat) (v : AV) (k : TF → α) : putK fr d v k = k (fr.put d v) := by
  obtain ⟨⟨base, ov⟩, ds⟩ := fr
  cases d with
  | none => rfl
  | some i => simp only [putK, setK_ok]; rfl
def pdK {α : Type} (d : Option Nat) (pd : List (Nat × Nat)) (k : List (Nat × Nat) → α) : α := match pd with | [] => k [] | x :: xs => k (dropPend d (x :: xs))
theorem pdK_ok {α : Type} (d : Option Nat) (pd : List (Nat × Nat)) (k : List (Nat × Nat) → α) : pdK d pd k = k (dropPend d pd) := by
  cases pd with
  | nil => cases d <;> rfl
  | cons x xs => rfl
def stK {α : Type} (s : ASt) (k : ASt → α) : α := match s with | ⟨b, t, lb, lt⟩ => k ⟨b, t, lb, lt⟩
theorem stK_ok {α : Type} (s : ASt) (k : ASt → α) : stK s k = k s := rfl

/-! ### Operations in a row -/
abbrev OpsK := Handler → AProg → Memo → List (Nat × Nat) → TF → ASt → Option OpsT
def kNil : OpsK := fun _ _ _ _ fr s => some (.norm fr s)
def kPlain (d : Option Nat) (f : OpFun) (rest : OpsK) : OpsK := fun H P M pd fr s =>
  match f P fr.env.env s with
  | some (v, s1) => stK s1 fun s1 => pdK d pd fun pd => putK fr d v fun fr => rest H P M pd fr s1
  | none => none
def kPend (d : Option Nat) (z : List AV) (rest : OpsK) : OpsK := fun H P M pd fr s =>
  match d with | some d' => rest H P M ((d', z.length) :: dropPend d pd) (fr.put (some d') .junk) s | none => none
def kShut (d0 : Option Nat) (d sz : Nat) (x : AOpnd) (rest : OpsK) : OpsK := fun H P M pd fr s =>
  match d0, fixP (evO P fr.env.env x) with
  | none, some v => match decide ((cellsOf v).length = sz) && pd.any (fun p => Nat.beq p.1 d && Nat.beq p.2 sz) with | true => rest H P M (dropPend (some d) pd) (fr.put (some d) (.cptr v 0)) s | false => none
  | _, _ => none
def kDefer (d : Option Nat) (f : AOpnd) (args : List AOpnd) (rest : OpsK) : OpsK := fun H P M pd fr s =>
  match evO P fr.env.env f, fixPs (args.map (evO P fr.env.env)) with
  | .func g a b, some vs => rest H P M (dropPend d pd) { env := fr.env.updO d undefA, ds := .call g (a ++ vs ++ b) :: fr.ds } s
  | _, _ => none
def kPanic (x : AOpnd) : OpsK := fun _ P _ _ fr s => match evO P fr.env.env x with | .iface t v => some (.pan (.iface t v) fr s) | _ => none
def kCallP (d : Option Nat) (st : Bool) (f : AOpnd) (args : List AOpnd) (rest : OpsK) : OpsK := fun H P M pd fr s =>
  match evO P fr.env.env f, fixPs (args.map (evO P fr.env.env)) with
  | .func g a b, some vs =>
    match (!st && isE s) || pureL (a ++ vs ++ b) with
    | true =>
      match M g (a ++ vs ++ b) with
      | some v => pdK d pd fun pd => putK fr d v fun fr => rest H P M pd fr s
      | none =>
        match H.call (.func g) (a ++ vs ++ b) emptyS with
        | some (.ret v, s2) =>
          match fixR v with
          | some v => match isE s2 || pureV v with | true => pdK d pd fun pd => putK fr d v fun fr => rest H P M pd fr s | false => none
          | none => none
        | _ => none
    | false => none
  | _, _ => none
def kCall (d : Option Nat) (f : AOpnd) (args : List AOpnd) (rest : OpsK) : OpsK := fun H P M pd fr s =>
  match target (evO P fr.env.env f), fixvs s (args.map (evO P fr.env.env)) with
  | some (g, a, b), some (vs, s1) =>
    match H.call g (a ++ vs ++ b) s1 with
    | some (.ret v, s2) => stK s2 fun s2 => pdK d pd fun pd => putK fr d v fun fr => rest H P M pd fr s2
    | some (.panic v, s2) => some (.pan v fr s2)
    | none => none
  | _, _ => none
noncomputable def kOp (d : Option Nat) (o : Sp) (rest : OpsK) : OpsK :=
  Sp.rec (fun f => kPlain d f rest) (fun z => kPend d z rest) (fun d0 sz x => kShut d d0 sz x rest) (fun f xs => kDefer d f xs rest) (fun x => kPanic x) (fun st f xs => kCallP d st f xs rest) (fun f xs => kCall d f xs rest) o
def kGd (gd : Option (Nat × Bool)) (d : Option Nat) (o : AOp) (op rest : OpsK) : OpsK := fun H P M pd fr s =>
  match wanted fr.env.env gd with
  | none => none
  | some false => match skipD P fr.env.env o with | true => pdK d pd fun pd => putK fr d undefA fun fr => rest H P M pd fr s | false => none
  | some true => op H P M pd fr s
noncomputable def kCons (i : AI) (rest : OpsK) : OpsK := kGd i.gd i.d i.op (kOp i.d (spOf i.op) rest) rest
noncomputable def kOps (is : List AI) : OpsK := List.rec kNil (fun i _ r => kCons i r) is

theorem kOps_eq : ∀ (is : List AI), kOps is = fun H P M pd fr s => evOpsT H P M is pd fr s
  | [] => rfl
  | ⟨d, op, gd, pre⟩ :: rest => by
    funext H P M pd fr s
    show kGd gd d op (kOp d (spOf op) (kOps rest)) (kOps rest) H P M pd fr s = _
    rw [kOps_eq rest]
    unfold kGd
    simp only [evOpsT, pdK_ok, putK_ok]
    cases hw : wanted fr.env.env gd with
    | none => rfl
    | some b =>
      cases b with
      | false => cases hk : skipD P fr.env.env op <;> rfl
      | true =>
        simp only
        cases hp : plainO op with
        | true =>
          obtain ⟨f, h1, h2⟩ := spOf_plain (P := P) (e := fr.env.env) (s := s) hp
          rw [h1]
          show kPlain d f (fun H P M pd fr s => evOpsT H P M rest pd fr s) H P M pd fr s = _
          unfold kPlain
          rw [h2]
          simp only [stK_ok, pdK_ok, putK_ok]
          cases op <;> first | rfl | cases hp
        | false =>
          cases op <;> first | (cases hp; done) | rfl | (simp only [kOp, spOf, kCallP, kCall, stK_ok, pdK_ok, putK_ok]; done) | (simp only [kOp, spOf, kCallP, kCall, stK_ok, pdK_ok, putK_ok]; rfl)
theorem kOps_ok {H : Handler} {P : AProg} {M : Memo} {is : List AI} {pd : List (Nat × Nat)} {fr : TF} {s : ASt} : kOps is H P M pd fr s = evOpsT H P M is pd fr s := by rw [kOps_eq]

/-! ### Code -/
abbrev CodeK := Handler → AProg → Memo → Option Nat → Nat → TF → ASt → Option CT
def cSkip : CodeK := fun _ _ _ _ _ fr s => some ⟨.normal, fr, s⟩
def cReg (ops : OpsK) : CodeK := fun H P M _ _ fr s =>
  match ops H P M [] fr s with
  | some (.norm fr s) => some ⟨.normal, fr, s⟩
  | some (.pan v fr s) => some ⟨.panic v, fr, s⟩
  | none => none
def cRegW (l : List AI) (ops : OpsK) : CodeK := fun H P M _ _ fr s =>
  match ops H P M [] fr s with
  | some (.norm fr' s') => (match djS P fr'.fr.env l with | true => some ⟨.normal, fr', s'⟩ | false => none)
  | _ => none
def cSeq (a b : CodeK) : CodeK := fun H P M rd lf fr s =>
  match a H P M rd lf fr s with
  | some r => match r.ex with | .normal => b H P M rd lf r.fr r.s | _ => some r
  | none => none
def cCond (c : AOpnd) (t f : CodeK) : CodeK := fun H P M rd lf fr s =>
  match evO P fr.env.env c with
  | .bool b => match b with | true => t H P M rd lf fr s | false => f H P M rd lf fr s
  | _ => none
def cBlock (id : Nat) (b : CodeK) : CodeK := fun H P M rd lf fr s =>
  match b H P M rd lf fr s with
  | some r => match r.ex with | .exit j => (match Nat.beq j id with | true => some ⟨.normal, r.fr, r.s⟩ | false => some r) | _ => some r
  | none => none
def cLoop (b : CodeK) : CodeK := fun H P M rd lf fr s => loopT (b H P M rd lf) lf fr s
def cRange (f : AOpnd) (params : List Nat) (assign body : AC) : CodeK := fun H P M rd lf fr s => evCT H P M rd lf (.rangeF f params assign body) fr s
def cExit (id : Nat) : CodeK := fun _ _ _ _ _ fr s => some ⟨.exit id, fr, s⟩
def cRet : CodeK := fun _ _ _ _ _ fr s => some ⟨.ret, fr, s⟩
noncomputable def kC (c : AC) : CodeK :=
  AC.rec cSkip (fun _ ops => cReg (kOps ops)) (fun _ _ a b => cSeq a b) (fun c _ _ t e => cCond c t e) (fun id _ b => cBlock id b) (fun _ b => cLoop b) (fun f ps a b _ _ => cRange f ps a b) (fun id => cExit id) cRet (fun _ b => b) (fun ops => cRegW ops (kOps ops)) c

theorem loopT_congr {f g : TF → ASt → Option CT} (h : ∀ fr s, f fr s = g fr s) : ∀ {n : Nat} {fr : TF} {s : ASt}, loopT f n fr s = loopT g n fr s := by
  have : f = g := by funext fr s; exact h fr s
  subst this
  intros; rfl

theorem kC_ok {H : Handler} {P : AProg} {M : Memo} {rd : Option Nat} {lf : Nat} : ∀ (c : AC) {fr : TF} {s : ASt}, kC c H P M rd lf fr s = evCT H P M rd lf c fr s
  | .skip, _, _ => rfl
  | .exit _, _, _ => rfl
  | .ret, _, _ => rfl
  | .rangeF .., _, _ => rfl
  | .scope b, fr, s => by simp only [evCT]; exact kC_ok b
  | .reg d ops, fr, s => by
    show cReg (kOps ops) H P M rd lf fr s = _
    simp only [evCT, cReg, kOps_ok] <;> rfl
  | .regW ops, fr, s => by
    show cRegW ops (kOps ops) H P M rd lf fr s = _
    simp only [evCT, cRegW, kOps_ok] <;> rfl
  | .seq a b, fr, s => by
    show cSeq (kC a) (kC b) H P M rd lf fr s = _
    simp only [evCT, cSeq, kC_ok a, kC_ok b] <;> rfl
  | .cond c t e, fr, s => by
    show cCond c (kC t) (kC e) H P M rd lf fr s = _
    simp only [evCT, cCond, kC_ok t, kC_ok e] <;> rfl
  | .block id b, fr, s => by
    show cBlock id (kC b) H P M rd lf fr s = _
    simp only [evCT, cBlock, kC_ok b] <;> rfl
  | .loop b, fr, s => by
    show cLoop (kC b) H P M rd lf fr s = _
    simp only [evCT, cLoop]
    exact loopT_congr fun fr s => kC_ok b

/-! ### Calls -/
def modeQ : AExit → Option DM
  | .normal => some .ret
  | .ret => some .ret
  | .panic v => some (.pan v)
  | .exit _ => none
def endQ (P : AProg) (res : List ARV) (s : ASt) (e : Env) : DM → ASt → Option (ARes × ASt)
  | .pan v, s2 => some (.panic v, trimT s (toks v) (trimB s (locs v) s2))
  | .ret, s2 =>
    match resAll P e s2 res with
    | some vs =>
      match resVal s2 vs with
      | some (v, s3) => match settle s v s3 with | (v, s4) => some (.ret v, s4)
      | none => none
    | none => none
noncomputable def runQ (H : Handler) (P : AProg) (M : Memo) (lf : Nat) (f : AF) (args : List AV) (s : ASt) : Option (ARes × ASt) :=
  match Nat.ble args.length f.nt with
  | false => none
  | true =>
  match kC f.body H P M none lf ⟨⟨argsEnv args, .nil⟩, []⟩ (cleanS s) with
  | some r =>
    match modeQ r.ex with
    | some m => match runDs H r.fr.ds m r.s with | some (m', s2) => endQ P f.res s r.fr.env.env m' s2 | none => none
    | none => none
  | none => none

theorem runQ_ok {H : Handler} {P : AProg} {M : Memo} {lf : Nat} {f : AF} {args : List AV} {s : ASt} : runQ H P M lf f args s = runT H P M lf f args s := by
  unfold runQ runT
  cases Nat.ble args.length f.nt with
  | false => rfl
  | true =>
    simp only
    rw [kC_ok]
    cases evCT H P M none lf f.body ⟨⟨argsEnv args, .nil⟩, []⟩ (cleanS s) with
    | none => rfl
    | some r =>
      obtain ⟨ex, fr, s1⟩ := r
      have key : ∀ m, (match runDs H fr.ds m s1 with | some (m', s2) => endQ P f.res s fr.env.env m' s2 | none => none) = (match runDs H fr.ds m s1 with
          | some (.pan v, s2) => some (.panic v, trimT s (toks v) (trimB s (locs v) s2))
          | some (.ret, s2) =>
            match resAll P fr.env.env s2 f.res with
            | some vs =>
              match resVal s2 vs with
              | some (v, s3) => match settle s v s3 with | (v, s4) => some (.ret v, s4)
              | none => none
            | none => none
          | none => none) := by
        intro m
        cases runDs H fr.ds m s1 with
        | none => rfl
        | some x => obtain ⟨m', s2⟩ := x; cases m' <;> rfl
      cases ex with
      | normal => exact key _
      | ret => exact key _
      | panic v => exact key _
      | exit i => rfl

noncomputable def callQ (P : AProg) (M : Memo) (n : Nat) : Handler :=
  Nat.rec { call := fun _ _ _ => none, dcall := fun _ _ _ _ => none }
    (fun n h =>
      { call := fun g args s => AFn.rec (fun f => match P.prim f with | some p => primRun h p args s | none => match P.fn f with | some af => runQ h P M n af args s | none => none) (fun l => roundT h P M n l args s) g
        dcall := fun f args m s => match P.fn f with | some af => runD h P n af args m s | none => none }) n

theorem callQ_ok {P : AProg} {M : Memo} : ∀ (n : Nat), callQ P M n = callT P M n
  | 0 => rfl
  | n + 1 => by
    have ih := callQ_ok (P := P) (M := M) n
    show Handler.mk _ _ = _
    simp only [callT]
    congr 1
    · funext g args s
      cases g with
      | func f =>
        show (match P.prim f with | some p => primRun (callQ P M n) p args s | none => match P.fn f with | some af => runQ (callQ P M n) P M n af args s | none => none) = _
        rw [ih]
        simp only [runQ_ok] <;> rfl
      | yield l =>
        show roundT (callQ P M n) P M n l args s = _
        rw [ih]
    · funext f args m s
      show (match P.fn f with | some af => runD (callQ P M n) P n af args m s | none => none) = _
      rw [ih]
      all_goals rfl

noncomputable def runsQ (P : AProg) (l : List ME) (n g : Nat) (args : List AV) (v : AV) : Bool :=
  match (callQ P (lookM l) n).call (.func g) args emptyS with
  | some (.ret w, _) => match fixR w, fixPs args with | some u, some us => eqV u v && pureV v && eqVs us args && pureL args | _, _ => false
  | _ => false

/-- A closed call, reckoned by the kernel with what is known. -/
theorem pf_runQ {P : AProg} {l : List ME} (hl : Known P l) {n g : Nat} {args : List AV} {v : AV} (h : runsQ P l n g args v = true) : Pf P g args v := by
  refine pf_runT hl (n := n) ?_
  unfold runsQ at h
  unfold runsT
  rw [← callQ_ok]
  exact h

end Go.Fw
