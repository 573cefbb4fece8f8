/- Programs as text, in plain Lean: what is shown, and the two readers of it. Texts are lists of bytes. No Go in sight. -/
import Derived.Test.YtncakjhianmekaaTreePlain
namespace Go.Proofs.Ytncakjhianmekaa
set_option linter.unusedVariables false
set_option linter.unusedSimpArgs false

def wNothing : List UInt8 := [110, 111, 116, 104, 105, 110, 103]
def wPause : List UInt8 := [112, 97, 117, 115, 101]
def wHalt : List UInt8 := [104, 97, 108, 116]
def wEmit : List UInt8 := [101, 109, 105, 116, 32]
def wAwait : List UInt8 := [97, 119, 97, 105, 116, 32]
def wIf : List UInt8 := [105, 102, 32]
def wWas : List UInt8 := [119, 97, 115, 32]
def wOpen : List UInt8 := [40]
def wClose : List UInt8 := [41]
def wSemi : List UInt8 := [59, 32]
def wBar : List UInt8 := [32, 124, 32]
def wThen : List UInt8 := [32, 116, 104, 101, 110, 32]
def wElse : List UInt8 := [32, 101, 108, 115, 101, 32]
def wEnd : List UInt8 := [32, 101, 110, 100]

def letter (from_ : Nat) (g : Int) : UInt8 := UInt8.ofNat (from_ + g.toNat)
def leafText (x : PNode) : List UInt8 :=
  if x.kind = 0 then wNothing else if x.kind = 1 then wPause else if x.kind = 2 then wHalt else if x.kind = 3 then wEmit ++ [letter 65 x.sig] else wAwait ++ [letter 120 x.sig]
def twoText (x : PNode) (a b : List UInt8) : List UInt8 :=
  if x.kind = 5 then wOpen ++ (a ++ (wSemi ++ (b ++ wClose)))
  else if x.kind = 6 then wOpen ++ (a ++ (wBar ++ (b ++ wClose)))
  else if x.kind = 7 then wIf ++ ([letter 120 x.sig] ++ (wThen ++ (a ++ (wElse ++ (b ++ wEnd)))))
  else wWas ++ ([letter 65 x.sig] ++ (wThen ++ (a ++ (wElse ++ (b ++ wEnd)))))
def textT : Tr → List UInt8
  | .leaf x => leafText x
  | .two x a b => twoText x (textT a) (textT b)
/-- What is behind a word that a text begins with. -/
def cutP : List UInt8 → List UInt8 → Option (List UInt8)
  | [], s => some s
  | _ :: _, [] => none
  | c :: w, d :: s => if c = d then cutP w s else none
/-- A letter's number: one of three from a first one on. -/
def signP (first : UInt8) : List UInt8 → Option (Int × List UInt8)
  | [] => none
  | c :: s => if c = first then some (0, s) else if c = first + 1 then some (1, s) else if c = first + 2 then some (2, s) else none
/-- The program's reader, over a reader of parts that is told how many nodes may come. -/
abbrev Rd := Nat → List UInt8 → Option (Tr × List UInt8)
def behindT (rd : Rd) (left : Nat) (w : List UInt8) (x : PNode) (a : Tr) (s : List UInt8) : Option (Tr × List UInt8) :=
  (rd (left - a.size) s).bind fun b => (cutP w b.2).map fun r => (.two x a b.1, r)
def forkT (rd : Rd) (left : Nat) (x : PNode) (s : List UInt8) : Option (Tr × List UInt8) :=
  (cutP wThen s).bind fun r => (rd left r).bind fun a => (cutP wElse a.2).bind fun r2 => behindT rd left wEnd x a.1 r2
def openT (rd : Rd) (left : Nat) (s : List UInt8) : Option (Tr × List UInt8) :=
  (rd left s).bind fun a =>
    match cutP wBar a.2 with
    | some r2 => behindT rd left wClose ⟨6, 0⟩ a.1 r2
    | none => (cutP wSemi a.2).bind fun r2 => behindT rd left wClose ⟨5, 0⟩ a.1 r2
def oneT (rd : Rd) (left : Nat) (s : List UInt8) : Option (Tr × List UInt8) :=
    match cutP wNothing s with
    | some r => some (.leaf ⟨0, 0⟩, r)
    | none =>
    match cutP wPause s with
    | some r => some (.leaf ⟨1, 0⟩, r)
    | none =>
    match cutP wHalt s with
    | some r => some (.leaf ⟨2, 0⟩, r)
    | none =>
    match cutP wEmit s with
    | some r => (signP 65 r).map fun y => (.leaf ⟨3, y.1⟩, y.2)
    | none =>
    match cutP wAwait s with
    | some r => (signP 120 r).map fun y => (.leaf ⟨4, y.1⟩, y.2)
    | none =>
    match cutP wIf s with
    | some r => (signP 120 r).bind fun y => forkT rd left ⟨7, y.1⟩ y.2
    | none =>
    match cutP wWas s with
    | some r => (signP 65 r).bind fun y => forkT rd left ⟨8, y.1⟩ y.2
    | none => (cutP wOpen s).bind fun r => openT rd left r
def readT : Nat → Rd
  | 0, _, _ => none
  | _ + 1, 0, _ => none
  | n + 1, left + 1, s => oneT (readT n) left s
/-- The reference's reader. -/
def rtwoT (rd : Rd) (left : Nat) (x : PNode) (ahead between behind s : List UInt8) : Option (Tr × List UInt8) :=
  (cutP ahead s).bind fun r => (rd (left - 1) r).bind fun a => (cutP between a.2).bind fun r2 => behindT rd left behind x a.1 r2
def roneT (rd : Rd) (left : Nat) (s : List UInt8) : Option (Tr × List UInt8) :=
    match cutP wNothing s with
    | some r => some (.leaf ⟨0, 0⟩, r)
    | none =>
    match cutP wPause s with
    | some r => some (.leaf ⟨1, 0⟩, r)
    | none =>
    match cutP wHalt s with
    | some r => some (.leaf ⟨2, 0⟩, r)
    | none =>
    match cutP wEmit s with
    | some r => (signP 65 r).map fun y => (.leaf ⟨3, y.1⟩, y.2)
    | none =>
    match cutP wAwait s with
    | some r => (signP 120 r).map fun y => (.leaf ⟨4, y.1⟩, y.2)
    | none =>
    match cutP wIf s with
    | some r => (signP 120 r).bind fun y => rtwoT rd left ⟨7, y.1⟩ wThen wElse wEnd y.2
    | none =>
    match cutP wWas s with
    | some r => (signP 65 r).bind fun y => rtwoT rd left ⟨8, y.1⟩ wThen wElse wEnd y.2
    | none => (cutP wOpen s).bind fun r =>
        match rtwoT rd left ⟨5, 0⟩ [] wSemi wClose r with
        | some y => some y
        | none => rtwoT rd left ⟨6, 0⟩ [] wBar wClose r
def rreadT : Nat → Rd
  | 0, _, _ => none
  | _ + 1, 0, _ => none
  | n + 1, left + 1, s => roneT (rreadT n) left s

theorem cutP_some : ∀ {w s r : List UInt8}, cutP w s = some r → s = w ++ r
  | [], s, r, h => by simp [cutP] at h; simp [h]
  | c :: w, [], r, h => by simp [cutP] at h
  | c :: w, d :: s, r, h => by
    simp only [cutP] at h
    split at h
    · rename_i e; subst e; rw [cutP_some h]; rfl
    · cases h
theorem cutP_app : ∀ (w r : List UInt8), cutP w (w ++ r) = some r
  | [], r => rfl
  | c :: w, r => by simp [cutP, cutP_app w r]
theorem cutP_head {c d : UInt8} {w s : List UInt8} (h : c ≠ d) : cutP (c :: w) (d :: s) = none := by simp [cutP, h]

def okSig (x : PNode) : Prop := x.sig = 0 ∨ x.sig = 1 ∨ x.sig = 2
/-- A node as the readers make it. -/
def rightN (x : PNode) : Prop := badKind x = false ∧ badSig x = false
theorem signP_some {f : UInt8} {s r : List UInt8} {g : Int} (hf : f = 65 ∨ f = 120) (h : signP f s = some (g, r)) : (g = 0 ∨ g = 1 ∨ g = 2) ∧ s = letter f.toNat g :: r := by
  cases s with
  | nil => simp [signP] at h
  | cons c s =>
    simp only [signP] at h
    rcases hf with rfl | rfl
    all_goals
      split at h
      · simp at h; obtain ⟨rfl, rfl⟩ := h; exact ⟨.inl rfl, by rename_i e; rw [e]; rfl⟩
      split at h
      · simp at h; obtain ⟨rfl, rfl⟩ := h; exact ⟨.inr (.inl rfl), by rename_i e; rw [e]; rfl⟩
      split at h
      · simp at h; obtain ⟨rfl, rfl⟩ := h; exact ⟨.inr (.inr rfl), by rename_i e; rw [e]; rfl⟩
      · cases h
theorem signP_app {f : UInt8} (hf : f = 65 ∨ f = 120) {g : Int} (hg : g = 0 ∨ g = 1 ∨ g = 2) (r : List UInt8) : signP f (letter f.toNat g :: r) = some (g, r) := by
  rcases hf with rfl | rfl <;> rcases hg with rfl | rfl | rfl <;> rfl

/-! sound: what is read is shown so -/
structure Reads (left : Nat) (t : Tr) (s r : List UInt8) : Prop where
  text : s = textT t ++ r
  ok : t.ok
  good : ∀ x ∈ t.flat, goodN x
  small : t.size ≤ left
def SoundR (rd : Rd) : Prop := ∀ left s t r, rd left s = some (t, r) → Reads left t s r
theorem leaf_reads {left : Nat} {x : PNode} {s r : List UInt8} (hs : s = leafText x ++ r) (hk : two x.kind = false) (hg : goodN x) : Reads (left + 1) (.leaf x) s r :=
  ⟨hs, hk, fun y hy => by simp [Tr.flat] at hy; subst hy; exact hg, by simp [Tr.size]⟩
theorem two_reads {left : Nat} {x : PNode} {a b : Tr} {s r sa ra sb rb : List UInt8} (ha : Reads left a sa ra) (hb : Reads (left - a.size) b sb rb) (hk : two x.kind = true) (hg : goodN x)
    (hs : s = twoText x (textT a) (textT b) ++ r) : Reads (left + 1) (.two x a b) s r :=
  ⟨hs, ⟨hk, ha.ok, hb.ok⟩, fun y hy => by
    simp only [Tr.flat, List.mem_cons, List.mem_append] at hy
    rcases hy with rfl | h | h
    · exact hg
    · exact ha.good y h
    · exact hb.good y h, by have := ha.small; have := hb.small; simp [Tr.size]; omega⟩
theorem behind_some {rd : Rd} {left : Nat} {w : List UInt8} {x : PNode} {a t : Tr} {s r : List UInt8} (h : behindT rd left w x a s = some (t, r)) :
    ∃ b rb, rd (left - a.size) s = some (b, rb) ∧ cutP w rb = some r ∧ t = .two x a b := by
  simp only [behindT, Option.bind_eq_some_iff, Option.map_eq_some_iff, Prod.mk.injEq] at h
  obtain ⟨⟨b, rb⟩, h1, r', h2, h3, rfl⟩ := h
  exact ⟨b, rb, h1, h2, h3.symm⟩
theorem fork_sound {rd : Rd} (hrd : SoundR rd) {left : Nat} {k g : Int} {s r : List UInt8} {t : Tr} (hk : k = 7 ∨ k = 8) (hg : g = 0 ∨ g = 1 ∨ g = 2) (h : forkT rd left ⟨k, g⟩ s = some (t, r)) :
    Reads (left + 1) t ((if k = 7 then wIf ++ [letter 120 g] else wWas ++ [letter 65 g]) ++ s) r := by
  simp only [forkT, Option.bind_eq_some_iff] at h
  obtain ⟨r1, h1, ⟨a, ra⟩, h2, r2, h3, h4⟩ := h
  obtain ⟨b, rb, h5, h6, rfl⟩ := behind_some h4
  have ha := hrd _ _ _ _ h2
  have hb := hrd _ _ _ _ h5
  have e1 := cutP_some h1; have e3 := cutP_some h3; have e6 := cutP_some h6
  refine two_reads ha hb (by rcases hk with rfl | rfl <;> rfl) (by rcases hk with rfl | rfl <;> rcases hg with rfl | rfl | rfl <;> exact ⟨rfl, rfl⟩) ?_
  simp only at e3
  rw [e1, ha.text, e3, hb.text, e6]
  rcases hk with rfl | rfl <;> simp [twoText]
theorem open_sound {rd : Rd} (hrd : SoundR rd) {left : Nat} {s r : List UInt8} {t : Tr} (h : openT rd left s = some (t, r)) : Reads (left + 1) t (wOpen ++ s) r := by
  simp only [openT, Option.bind_eq_some_iff] at h
  obtain ⟨⟨a, ra⟩, h2, h⟩ := h
  have ha := hrd _ _ _ _ h2
  simp only at h
  split at h
  · rename_i r2 h3
    obtain ⟨b, rb, h5, h6, rfl⟩ := behind_some h
    have hb := hrd _ _ _ _ h5
    refine two_reads ha hb (by decide) ⟨rfl, rfl⟩ ?_
    rw [ha.text, cutP_some h3, hb.text, cutP_some h6]; simp [twoText]
  · rw [Option.bind_eq_some_iff] at h
    obtain ⟨r2, h3, h⟩ := h
    obtain ⟨b, rb, h5, h6, rfl⟩ := behind_some h
    have hb := hrd _ _ _ _ h5
    refine two_reads ha hb (by decide) ⟨rfl, rfl⟩ ?_
    rw [ha.text, cutP_some h3, hb.text, cutP_some h6]; simp [twoText]
theorem one_sound {rd : Rd} (hrd : SoundR rd) {left : Nat} {s r : List UInt8} {t : Tr} (h : oneT rd left s = some (t, r)) : Reads (left + 1) t s r := by
  unfold oneT at h
  split at h
  · rename_i h1; simp at h; obtain ⟨rfl, rfl⟩ := h; exact leaf_reads (by rw [cutP_some h1]; rfl) rfl ⟨rfl, rfl⟩
  split at h
  · rename_i h1; simp at h; obtain ⟨rfl, rfl⟩ := h; exact leaf_reads (by rw [cutP_some h1]; rfl) rfl ⟨rfl, rfl⟩
  split at h
  · rename_i h1; simp at h; obtain ⟨rfl, rfl⟩ := h; exact leaf_reads (by rw [cutP_some h1]; rfl) rfl ⟨rfl, rfl⟩
  split at h
  · rename_i h1
    simp only [Option.map_eq_some_iff, Prod.mk.injEq] at h
    obtain ⟨⟨g, r'⟩, h2, rfl, rfl⟩ := h
    obtain ⟨hg, h3⟩ := signP_some (.inl rfl) h2
    exact leaf_reads (by rw [cutP_some h1, h3]; simp [leafText]) rfl (by rcases hg with rfl | rfl | rfl <;> exact ⟨rfl, rfl⟩)
  split at h
  · rename_i h1
    simp only [Option.map_eq_some_iff, Prod.mk.injEq] at h
    obtain ⟨⟨g, r'⟩, h2, rfl, rfl⟩ := h
    obtain ⟨hg, h3⟩ := signP_some (.inr rfl) h2
    exact leaf_reads (by rw [cutP_some h1, h3]; simp [leafText]) rfl (by rcases hg with rfl | rfl | rfl <;> exact ⟨rfl, rfl⟩)
  split at h
  · rename_i h1
    rw [Option.bind_eq_some_iff] at h
    obtain ⟨⟨g, r'⟩, h2, h⟩ := h
    obtain ⟨hg, h3⟩ := signP_some (.inr rfl) h2
    have := fork_sound hrd (.inl rfl) hg h
    rw [cutP_some h1, h3]; simpa using this
  split at h
  · rename_i h1
    rw [Option.bind_eq_some_iff] at h
    obtain ⟨⟨g, r'⟩, h2, h⟩ := h
    obtain ⟨hg, h3⟩ := signP_some (.inl rfl) h2
    have := fork_sound hrd (.inr rfl) hg h
    rw [cutP_some h1, h3]; simpa using this
  · rw [Option.bind_eq_some_iff] at h
    obtain ⟨r', h1, h⟩ := h
    have := open_sound hrd h
    rw [cutP_some h1]; exact this
theorem read_sound : ∀ n, SoundR (readT n)
  | 0, left, s, t, r, h => by simp [readT] at h
  | n + 1, 0, s, t, r, h => by simp [readT] at h
  | n + 1, left + 1, s, t, r, h => one_sound (read_sound n) h

/-! whole: what is shown is read -/
def WholeR (rd : Rd) (m : Nat) : Prop := ∀ (t : Tr) (left : Nat) (r : List UInt8), t.ok → (∀ x ∈ t.flat, goodN x) → t.size ≤ left → t.size ≤ m → rd left (textT t ++ r) = some (t, r)
theorem good_leaf {x : PNode} (hk : two x.kind = false) (hg : goodN x) : (x = ⟨0, 0⟩ ∨ x = ⟨1, 0⟩ ∨ x = ⟨2, 0⟩) ∨ (x.kind = 3 ∨ x.kind = 4) ∧ (x.sig = 0 ∨ x.sig = 1 ∨ x.sig = 2) := by
  obtain ⟨k, g⟩ := x
  obtain ⟨h1, h2⟩ := hg
  simp [badKind] at h1; simp [two] at hk; simp only [badSig, Bool.or_eq_false_iff, decide_eq_false_iff_not] at h2
  have hk5 : k = 0 ∨ k = 1 ∨ k = 2 ∨ k = 3 ∨ k = 4 := by omega
  rcases hk5 with rfl | rfl | rfl | rfl | rfl <;> simp [signsM] at h2 ⊢ <;> omega
theorem good_two {x : PNode} (hk : two x.kind = true) (hg : goodN x) : (x = ⟨5, 0⟩ ∨ x = ⟨6, 0⟩) ∨ (x.kind = 7 ∨ x.kind = 8) ∧ (x.sig = 0 ∨ x.sig = 1 ∨ x.sig = 2) := by
  obtain ⟨k, g⟩ := x
  obtain ⟨h1, h2⟩ := hg
  simp [badKind] at h1; simp [two] at hk; simp only [badSig, Bool.or_eq_false_iff, decide_eq_false_iff_not] at h2
  have hk5 : k = 5 ∨ k = 6 ∨ k = 7 ∨ k = 8 := by omega
  rcases hk5 with rfl | rfl | rfl | rfl <;> simp [signsM] at h2 ⊢ <;> omega
theorem behind_whole {rd : Rd} {m left : Nat} (h : WholeR rd m) {w : List UInt8} {x : PNode} {a b : Tr} {r : List UInt8} (ok : b.ok) (hg : ∀ y ∈ b.flat, goodN y) (hl : b.size ≤ left - a.size) (hm : b.size ≤ m) :
    behindT rd left w x a (textT b ++ (w ++ r)) = some (.two x a b, r) := by
  simp [behindT, h b _ (w ++ r) ok hg hl hm, cutP_app]
theorem fork_whole {rd : Rd} {m left : Nat} (h : WholeR rd m) {x : PNode} {a b : Tr} {r : List UInt8} (oa : a.ok) (ga : ∀ y ∈ a.flat, goodN y) (ob : b.ok) (gb : ∀ y ∈ b.flat, goodN y) (hl : a.size + b.size ≤ left) (hm : a.size + b.size ≤ m) :
    forkT rd left x (wThen ++ (textT a ++ (wElse ++ (textT b ++ (wEnd ++ r))))) = some (.two x a b, r) := by
  simp only [forkT, cutP_app, Option.bind_some, h a left _ oa ga (by omega) (by omega), behind_whole h (w := wEnd) (r := r) ob gb (by omega : b.size ≤ left - a.size) (by omega)]
theorem rtwo_whole {rd : Rd} {m left : Nat} (h : WholeR rd m) {x : PNode} {a b : Tr} {ahead between behind r : List UInt8} (oa : a.ok) (ga : ∀ y ∈ a.flat, goodN y) (ob : b.ok) (gb : ∀ y ∈ b.flat, goodN y) (hl : a.size + b.size ≤ left) (hm : a.size + b.size ≤ m) :
    rtwoT rd left x ahead between behind (ahead ++ (textT a ++ (between ++ (textT b ++ (behind ++ r))))) = some (.two x a b, r) := by
  have := size_pos b
  simp only [rtwoT, cutP_app, Option.bind_some, h a (left - 1) _ oa ga (by omega) (by omega), behind_whole h (w := behind) (r := r) ob gb (by omega : b.size ≤ left - a.size) (by omega)]
theorem one_whole {rd : Rd} {m left : Nat} (h : WholeR rd m) : ∀ (t : Tr) (r : List UInt8), t.ok → (∀ x ∈ t.flat, goodN x) → t.size ≤ left + 1 → t.size ≤ m + 1 → oneT rd left (textT t ++ r) = some (t, r)
  | .leaf x, r, ok, hg, _, _ => by
    have hx := good_leaf ok (hg x (by simp [Tr.flat]))
    rcases hx with (rfl | rfl | rfl) | ⟨hk, hs⟩
    · simp only [textT, leafText]; rfl
    · simp only [textT, leafText]; rfl
    · simp only [textT, leafText]; rfl
    · obtain ⟨k, g⟩ := x
      simp only at hk hs
      rcases hk with rfl | rfl <;> rcases hs with rfl | rfl | rfl <;> rfl
  | .two x a b, r, ok, hg, hl, hm => by
    obtain ⟨hk, oa, ob⟩ := ok
    have hgs := sub_good hg
    simp only [Tr.size] at hl hm
    have hx := good_two hk (hg x (by simp [Tr.flat]))
    rcases hx with (rfl | rfl) | ⟨hk, hs⟩
    · have hb := behind_whole (left := left) (w := wClose) (x := ⟨5, 0⟩) (a := a) (r := r) h ob hgs.2 (by omega) (by omega)
      have e : textT (.two ⟨5, 0⟩ a b) ++ r = wOpen ++ (textT a ++ (wSemi ++ (textT b ++ (wClose ++ r)))) := by simp [textT, twoText]
      rw [e]
      have e2 : oneT rd left (wOpen ++ (textT a ++ (wSemi ++ (textT b ++ (wClose ++ r))))) = openT rd left (textT a ++ (wSemi ++ (textT b ++ (wClose ++ r)))) := rfl
      rw [e2, openT, h a left _ oa hgs.1 (by omega) (by omega), Option.bind_some]
      have e3 : cutP wBar (wSemi ++ (textT b ++ (wClose ++ r))) = none := rfl
      simp only [e3, cutP_app, Option.bind_some, hb]
    · have hb := behind_whole (left := left) (w := wClose) (x := ⟨6, 0⟩) (a := a) (r := r) h ob hgs.2 (by omega) (by omega)
      have e : textT (.two ⟨6, 0⟩ a b) ++ r = wOpen ++ (textT a ++ (wBar ++ (textT b ++ (wClose ++ r)))) := by simp [textT, twoText]
      rw [e]
      have e2 : oneT rd left (wOpen ++ (textT a ++ (wBar ++ (textT b ++ (wClose ++ r))))) = openT rd left (textT a ++ (wBar ++ (textT b ++ (wClose ++ r)))) := rfl
      rw [e2, openT, h a left _ oa hgs.1 (by omega) (by omega), Option.bind_some]
      simp only [cutP_app, hb]
    · obtain ⟨k, g⟩ := x
      simp only at hk hs
      have hf := fork_whole (left := left) (x := ⟨k, g⟩) (r := r) h oa hgs.1 ob hgs.2 (by omega) (by omega)
      rcases hk with rfl | rfl
      · have e : textT (.two ⟨7, g⟩ a b) ++ r = wIf ++ (letter 120 g :: (wThen ++ (textT a ++ (wElse ++ (textT b ++ (wEnd ++ r)))))) := by simp [textT, twoText]
        rw [e, ← hf]
        rcases hs with rfl | rfl | rfl <;> rfl
      · have e : textT (.two ⟨8, g⟩ a b) ++ r = wWas ++ (letter 65 g :: (wThen ++ (textT a ++ (wElse ++ (textT b ++ (wEnd ++ r)))))) := by simp [textT, twoText]
        rw [e, ← hf]
        rcases hs with rfl | rfl | rfl <;> rfl
theorem read_whole : ∀ n, WholeR (readT n) n
  | 0, t, left, r, _, _, _, h => by have := size_pos t; omega
  | n + 1, t, 0, r, _, _, h, _ => by have := size_pos t; omega
  | n + 1, t, left + 1, r, ok, hg, hl, hm => one_whole (read_whole n) t r ok hg hl hm
theorem rone_whole {rd : Rd} {m left : Nat} (h : WholeR rd m) : ∀ (t : Tr) (r : List UInt8), t.ok → (∀ x ∈ t.flat, goodN x) → t.size ≤ left + 1 → t.size ≤ m + 1 → roneT rd left (textT t ++ r) = some (t, r)
  | .leaf x, r, ok, hg, _, _ => by
    have hx := good_leaf ok (hg x (by simp [Tr.flat]))
    rcases hx with (rfl | rfl | rfl) | ⟨hk, hs⟩
    · simp only [textT, leafText]; rfl
    · simp only [textT, leafText]; rfl
    · simp only [textT, leafText]; rfl
    · obtain ⟨k, g⟩ := x
      simp only at hk hs
      rcases hk with rfl | rfl <;> rcases hs with rfl | rfl | rfl <;> rfl
  | .two x a b, r, ok, hg, hl, hm => by
    obtain ⟨hk, oa, ob⟩ := ok
    have hgs := sub_good hg
    simp only [Tr.size] at hl hm
    have hx := good_two hk (hg x (by simp [Tr.flat]))
    rcases hx with (rfl | rfl) | ⟨hk, hs⟩
    · have hf := rtwo_whole (left := left) (x := ⟨5, 0⟩) (ahead := []) (between := wSemi) (behind := wClose) (r := r) h oa hgs.1 ob hgs.2 (by omega) (by omega)
      have e : textT (.two ⟨5, 0⟩ a b) ++ r = wOpen ++ ([] ++ (textT a ++ (wSemi ++ (textT b ++ (wClose ++ r))))) := by simp [textT, twoText]
      rw [e]
      generalize hq : ([] ++ (textT a ++ (wSemi ++ (textT b ++ (wClose ++ r)))) : List UInt8) = q at hf
      have e2 : roneT rd left (wOpen ++ q) = (match rtwoT rd left ⟨5, 0⟩ [] wSemi wClose q with | some y => some y | none => rtwoT rd left ⟨6, 0⟩ [] wBar wClose q) := rfl
      rw [e2, hf]
    · have hf := rtwo_whole (left := left) (x := ⟨6, 0⟩) (ahead := []) (between := wBar) (behind := wClose) (r := r) h oa hgs.1 ob hgs.2 (by omega) (by omega)
      have e : textT (.two ⟨6, 0⟩ a b) ++ r = wOpen ++ ([] ++ (textT a ++ (wBar ++ (textT b ++ (wClose ++ r))))) := by simp [textT, twoText]
      have hno : rtwoT rd left ⟨5, 0⟩ [] wSemi wClose ([] ++ (textT a ++ (wBar ++ (textT b ++ (wClose ++ r))))) = none := by
        have := size_pos b
        simp only [rtwoT, cutP_app, Option.bind_some, h a (left - 1) _ oa hgs.1 (by omega) (by omega)]
        rfl
      rw [e]
      generalize hq : ([] ++ (textT a ++ (wBar ++ (textT b ++ (wClose ++ r)))) : List UInt8) = q at hf hno
      have e2 : roneT rd left (wOpen ++ q) = (match rtwoT rd left ⟨5, 0⟩ [] wSemi wClose q with | some y => some y | none => rtwoT rd left ⟨6, 0⟩ [] wBar wClose q) := rfl
      rw [e2, hno]; exact hf
    · obtain ⟨k, g⟩ := x
      simp only at hk hs
      have hf := rtwo_whole (left := left) (x := ⟨k, g⟩) (ahead := wThen) (between := wElse) (behind := wEnd) (r := r) h oa hgs.1 ob hgs.2 (by omega) (by omega)
      rcases hk with rfl | rfl
      · have e : textT (.two ⟨7, g⟩ a b) ++ r = wIf ++ (letter 120 g :: (wThen ++ (textT a ++ (wElse ++ (textT b ++ (wEnd ++ r)))))) := by simp [textT, twoText]
        rw [e, ← hf]
        rcases hs with rfl | rfl | rfl <;> rfl
      · have e : textT (.two ⟨8, g⟩ a b) ++ r = wWas ++ (letter 65 g :: (wThen ++ (textT a ++ (wElse ++ (textT b ++ (wEnd ++ r)))))) := by simp [textT, twoText]
        rw [e, ← hf]
        rcases hs with rfl | rfl | rfl <;> rfl
theorem rread_whole : ∀ n, WholeR (rreadT n) n
  | 0, t, left, r, _, _, _, h => by have := size_pos t; omega
  | n + 1, t, 0, r, _, _, h, _ => by have := size_pos t; omega
  | n + 1, t, left + 1, r, ok, hg, hl, hm => rone_whole (rread_whole n) t r ok hg hl hm

/-- What the program's Read tells of a text. -/
def progOfText (s : List UInt8) : Option Tr :=
  match readT 15 14 s with
  | some (t, []) => some t
  | _ => none
theorem progOf_some {s : List UInt8} {t : Tr} (h : progOfText s = some t) : s = textT t ∧ t.ok ∧ (∀ x ∈ t.flat, goodN x) ∧ t.size ≤ 14 := by
  unfold progOfText at h
  split at h
  · rename_i t' h1
    injection h with h; subst h
    have := read_sound 15 _ _ _ _ h1
    exact ⟨by simpa using this.text, this.ok, this.good, this.small⟩
  · cases h
theorem progOf_text {t : Tr} (ok : t.ok) (hg : ∀ x ∈ t.flat, goodN x) (hs : t.size ≤ 14) : progOfText (textT t) = some t := by
  have := read_whole 15 t 14 [] ok hg hs (by omega)
  simp at this
  simp [progOfText, this]
theorem rprogOf_text {t : Tr} (ok : t.ok) (hg : ∀ x ∈ t.flat, goodN x) (hs : t.size ≤ 14) : rreadT 15 14 (textT t) = some (t, []) := by
  have := rread_whole 15 t 14 [] ok hg hs (by omega)
  simpa using this
theorem leafText_len (x : PNode) : (leafText x).length ≤ 24 := by
  unfold leafText; repeat' split
  all_goals simp [wNothing, wPause, wHalt, wEmit, wAwait]
theorem twoText_len (x : PNode) (a b : List UInt8) : (twoText x a b).length ≤ 24 + a.length + b.length := by
  unfold twoText; repeat' split
  all_goals simp [wOpen, wSemi, wClose, wBar, wIf, wWas, wThen, wElse, wEnd]; omega
theorem text_len : ∀ t : Tr, (textT t).length ≤ 24 * t.size
  | .leaf x => leafText_len x
  | .two x a b => by
    have h1 := text_len a; have h2 := text_len b; have h3 := twoText_len x (textT a) (textT b)
    simp only [textT, Tr.size]; omega
end Go.Proofs.Ytncakjhianmekaa
