/- The closed facts of a row, one by one. -/
import Derived.JoinedOf
namespace Go.Sl
open Go
def jl (P : Program) (f : FuncId) (fn : Func) (s : ChangeSpec) (c : OpenClaim) : Nat → Bool
  | 0 => c.wf (OpenSpec.ofChange s)
  | 1 => laidOutB P
  | 2 => mapsRowed P
  | 3 => fn.params.all (P.readableRec ·)
  | 4 => namedTie P c.named s.vars
  | 5 => (c.stops == []) && (P.stops == []) && (c.knobs == []) && (P.stopKnobs == [])
  | 6 => c.inPlace == P.inPlace f
  | 7 => c.unfollowed == P.unfollowed f
  | 8 => c.recurses == P.recurses f
  | 9 => c.named == P.varsNamed f
  | 10 => c.maps == (fn.params.toList ++ s.plain.varTypes P).any (P.mapsRec ·)
  | 11 => c.ifaces == (fn.params.toList ++ s.plain.varTypes P).any (P.ifacesRec ·)
  | 12 => c.mapsOut == P.mapsAmong fn.resultTypes.toList
  | 13 => c.loops == (fn.params.toList ++ s.plain.varTypes P).any (P.loopsFrom ·)
  | 14 => c.wideKeys == (fn.params.toList ++ s.plain.varTypes P ++ fn.resultTypes.toList).any (P.wideKeysFrom ·)
  | 15 => s.vars.all (P.varReadable ·)
  | 16 => fn.resultTypes.all (fun t => P.readableRec t && decide (t < P.types.size))
  | 17 => (c.ifacesOut == fn.resultTypes.toList.any (P.ifacesRec ·)) && (c.loopsOut == fn.resultTypes.toList.any (P.loopsFrom ·))
  | 18 => c.plainKeys == P.plainKeys
  | 19 => c.shortTexts.isNone
  | 20 => P.stopsHeard
  | 21 => P.mayEnter
  | 22 => c.lifted == P.liftsFinal
  | 23 => P.make == some c.make
  | 24 => c.kinds == (if c.domain.isEmpty then [] else fn.params.toList.map fun t => match P.underlying t with | some (.int k) => some k | _ => none)
  | 25 => c.pinned == c.pinnedBy
  | 26 => c.veiled == (fn.params.toList ++ s.plain.varTypes P ++ fn.resultTypes.toList).any (P.veiledRec ·)
  | 27 => c.veiledFits P fn.params.toList (fn.params.toList ++ s.plain.varTypes P ++ fn.resultTypes.toList)
  | _ => true
theorem joined_of {P : Program} {f : FuncId} {fn : Func} {s : ChangeSpec} {c : OpenClaim} (h : ∀ i, i < 28 → jl P f fn s c i = true) : joinedFacts P f fn s c = true := by
  have h5 := h 5 (by decide)
  have h17 := h 17 (by decide)
  simp only [jl, Bool.and_eq_true] at h5 h17
  simp only [joinedFacts, Bool.and_eq_true]
  exact ⟨⟨⟨⟨⟨⟨⟨⟨⟨⟨⟨⟨⟨⟨⟨⟨⟨⟨⟨⟨⟨⟨⟨⟨⟨⟨⟨⟨⟨⟨⟨h 0 (by decide), h 1 (by decide)⟩, h 2 (by decide)⟩, h 3 (by decide)⟩, h 4 (by decide)⟩, h5.1.1.1⟩, h5.1.1.2⟩, h5.1.2⟩, h5.2⟩, h 6 (by decide)⟩, h 7 (by decide)⟩, h 8 (by decide)⟩, h 9 (by decide)⟩, h 10 (by decide)⟩, h 11 (by decide)⟩, h 12 (by decide)⟩, h 13 (by decide)⟩, h 14 (by decide)⟩, h 15 (by decide)⟩, h 16 (by decide)⟩, h17.1⟩, h17.2⟩, h 18 (by decide)⟩, h 19 (by decide)⟩, h 20 (by decide)⟩, h 21 (by decide)⟩, h 22 (by decide)⟩, h 23 (by decide)⟩, h 24 (by decide)⟩, h 25 (by decide)⟩, h 26 (by decide)⟩, h 27 (by decide)⟩
/- the words of the program's head -/
theorem wordsSigns_cons : ∀ (w r : List Char), (∀ c ∈ w, c ≠ Char.ofNat 32) → wordsSigns (w ++ Char.ofNat 32 :: r) = w :: wordsSigns r
  | [], r, _ => by
    show wordsSigns (Char.ofNat 32 :: r) = _
    rw [wordsSigns]
  | c :: w, r, h => by
    have h1 : c ≠ Char.ofNat 32 := h c List.mem_cons_self
    have ih := wordsSigns_cons w r (fun c hc => h c (List.mem_cons_of_mem _ hc))
    rw [List.cons_append, wordsSigns, ih]
    exact h1
theorem wordsSigns_last : ∀ (w : List Char), (∀ c ∈ w, c ≠ Char.ofNat 32) → wordsSigns w = [w]
  | [], _ => rfl
  | c :: w, h => by
    have h1 : c ≠ Char.ofNat 32 := h c List.mem_cons_self
    have ih := wordsSigns_last w (fun c hc => h c (List.mem_cons_of_mem _ hc))
    rw [wordsSigns, ih]
    exact h1
def okN (n : Nat) : Bool := !Nat.beq n 32 && Nat.blt n 55296
theorem okN_ne {n : Nat} (h : okN n = true) : Char.ofNat n ≠ Char.ofNat 32 := by
  unfold okN at h
  simp only [Bool.and_eq_true, Bool.not_eq_true', Nat.blt_eq] at h
  intro e
  have h1 : (Char.ofNat n).toNat = n := by
    unfold Char.ofNat
    rw [dif_pos (Or.inl h.2)]
    rfl
  have h2 : (Char.ofNat 32).toNat = 32 := by decide
  rw [e, h2] at h1
  rw [← h1] at h
  exact absurd h.1 (by decide)
def joinW : List (List Nat) → List Char
  | [] => []
  | [w] => w.map Char.ofNat
  | w :: v :: ws => w.map Char.ofNat ++ Char.ofNat 32 :: joinW (v :: ws)
theorem okW {w : List Nat} (h : w.all okN = true) : ∀ c ∈ w.map Char.ofNat, c ≠ Char.ofNat 32 := by
  intro c hc
  obtain ⟨n, hn, rfl⟩ := List.mem_map.1 hc
  exact okN_ne (List.all_eq_true.1 h n hn)
theorem words_join : ∀ (ws : List (List Nat)), ws ≠ [] → ws.all (fun w => w.all okN) = true → wordsSigns (joinW ws) = ws.map (fun w => w.map Char.ofNat)
  | [], h, _ => absurd rfl h
  | [w], _, h => by
    simp only [List.all_cons, List.all_nil, Bool.and_true] at h
    exact wordsSigns_last _ (okW h)
  | w :: v :: ws, _, h => by
    rw [List.all_cons, Bool.and_eq_true] at h
    rw [joinW, wordsSigns_cons _ _ (okW h.1), words_join (v :: ws) (by simp) h.2]
    rfl
abbrev nw (l : List Nat) : List Char := l.map Char.ofNat
abbrev cutW : List Char := nw [99, 117, 116]
abbrev harnW : List Char := nw [104, 97, 114, 110, 101, 115, 115]
theorem toList_of {s : String} {l : List Char} (h : s = String.ofList l) : s.toList = l := by rw [h, String.toList_ofList]
theorem cut_lit : "cut".toList = cutW := toList_of (by decide)
theorem harn_lit : "harness".toList = harnW := toList_of (by decide)
theorem ne_cut {o : String} (h : ¬ o = "cut") : (cutW == o.toList) = false := by
  cases hb : cutW == o.toList with
  | false => rfl
  | true =>
    exfalso
    have h1 : cutW = o.toList := by simpa using hb
    apply h
    have h2 : String.ofList o.toList = o := String.ofList_toList
    rw [← h2, ← h1]
    decide
theorem strip_cut {rest : List (List Char)} : ∀ (os : List String), (∀ o ∈ os, ¬ o = "cut") → stripLifts os (cutW :: rest) = ([], cutW :: rest)
  | [], _ => rfl
  | o :: os, h => by
    rw [stripLifts, ne_cut (h o List.mem_cons_self), if_neg (by simp)]
    exact strip_cut os (fun o ho => h o (List.mem_cons_of_mem _ ho))
theorem behind_cut {P : Program} {s : List Char} {rest : List (List Char)} (hw : wordsSigns P.initOrder.toList = harnW :: s :: cutW :: rest) (hs : isSumSigns s = true) : behindMainWord (wordsSigns P.initOrder.toList) = cutW :: rest := by
  rw [hw]
  unfold behindMainWord
  rw [harn_lit]
  simp only [hs]
  simp
theorem strip_lifts {rest : List (List Char)} : stripLifts liftWords (cutW :: rest) = ([], cutW :: rest) := strip_cut _ (by decide)
theorem mayEnter_cut {P : Program} {s : List Char} {rest : List (List Char)} (hw : wordsSigns P.initOrder.toList = harnW :: s :: cutW :: rest) (hs : isSumSigns s = true) (h1 : P.laysLater = false) (h2 : P.bearsReflect = false) (h3 : P.doorFits [] = true) : P.mayEnter = true := by
  unfold Program.mayEnter
  rw [behind_cut hw hs]
  simp only [strip_lifts, h1, h2, h3, cut_lit]
  simp
theorem headLifts_cut {P : Program} {s : List Char} {rest : List (List Char)} (hw : wordsSigns P.initOrder.toList = harnW :: s :: cutW :: rest) (hs : isSumSigns s = true) : P.headLifts = [] := by
  unfold Program.headLifts
  rw [behind_cut hw hs]
  simp only [strip_lifts]
  split <;> rfl
theorem lifts_cut {P : Program} {s : List Char} {rest : List (List Char)} (hw : wordsSigns P.initOrder.toList = harnW :: s :: cutW :: rest) (hs : isSumSigns s = true) : P.liftsFinal = false := by
  unfold Program.liftsFinal
  rw [behind_cut hw hs, headLifts_cut hw hs]
  have := ne_cut (o := "carried") (by decide)
  simp only [List.head?_cons]
  have h2 : (some cutW == some "carried".toList) = false := by simp [this]
  rw [h2]
  rfl
theorem make_cut {P : Program} {s : List Char} {rest : List (List Char)} (hw : wordsSigns P.initOrder.toList = harnW :: s :: cutW :: rest) (hs : isSumSigns s = true) : P.make = some .cut := by
  unfold Program.make
  rw [behind_cut hw hs]
  simp only [ne_cut (o := "gc") (by decide), ne_cut (o := "spec") (by decide), cut_lit]
  simp
def hexN (n : Nat) : Bool := (Nat.ble 48 n && Nat.ble n 57) || (Nat.ble 97 n && Nat.ble n 102)
def hexC (c : Char) : Bool := (Char.ofNat 48 ≤ c && c ≤ Char.ofNat 57) || (Char.ofNat 97 ≤ c && c ≤ Char.ofNat 102)
theorem hexNC : ∀ n : Fin 128, hexN n.val = true → hexC (Char.ofNat n.val) = true := by decide +kernel
theorem hexN_lt {n : Nat} (h : hexN n = true) : n < 128 := by
  unfold hexN at h
  simp only [Bool.or_eq_true, Bool.and_eq_true, Nat.ble_eq] at h
  omega
theorem sum_ok {l : List Nat} (h1 : Nat.beq l.length 64 = true) (h2 : l.all hexN = true) : isSumSigns (nw l) = true := by
  have key : isSumSigns (nw l) = ((nw l).length == 64 && (nw l).all hexC) := rfl
  rw [key]
  have h3 : l.length = 64 := by simpa [Nat.beq_eq] using h1
  rw [List.length_map, h3]
  simp only [List.all_map, List.all_eq_true, Bool.and_eq_true]
  refine ⟨by decide, fun n hn => ?_⟩
  have hx := List.all_eq_true.1 h2 n hn
  exact hexNC ⟨n, hexN_lt hx⟩ hx
theorem jl21 {P : Program} {f : FuncId} {fn : Func} {s : ChangeSpec} {c : OpenClaim} (h : P.mayEnter = true) : jl P f fn s c 21 = true := h
theorem jl22 {P : Program} {f : FuncId} {fn : Func} {s : ChangeSpec} {c : OpenClaim} (h : P.liftsFinal = false) (h2 : (c.lifted == false) = true) : jl P f fn s c 22 = true := by
  show (c.lifted == P.liftsFinal) = true
  rw [h, h2]
theorem jl23 {P : Program} {f : FuncId} {fn : Func} {s : ChangeSpec} {c : OpenClaim} (h : P.make = some .cut) (h2 : (c.make == .cut) = true) : jl P f fn s c 23 = true := by
  show (P.make == some c.make) = true
  rw [h]
  have : c.make = .cut := by simpa using h2
  rw [this]
  rfl
end Go.Sl
