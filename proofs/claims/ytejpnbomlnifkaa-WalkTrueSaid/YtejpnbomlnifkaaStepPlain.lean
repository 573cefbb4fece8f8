/- The tree of a program, computed; one step of a walk as the document says; what a step leaves. -/
import Derived.Test.YtejpnbomlnifkaaTreePlain
namespace Go.Proofs.Ytejpnbomlnifkaa
set_option linter.unusedVariables false
set_option linter.unusedSimpArgs false

def parseT : Nat → List PNode → Tr × List PNode
  | 0, l => (.leaf ⟨0, 0⟩, l)
  | _ + 1, [] => (.leaf ⟨0, 0⟩, [])
  | f + 1, x :: l => if two x.kind then (.two x (parseT f l).1 (parseT f (parseT f l).2).1, (parseT f (parseT f l).2).2) else (.leaf x, l)
theorem parse_flat : ∀ (t : Tr) (f : Nat) (r : List PNode), t.ok → t.size ≤ f → parseT f (t.flat ++ r) = (t, r)
  | .leaf x, 0, r, _, h => by simp [Tr.size] at h
  | .two x a b, 0, r, _, h => by simp [Tr.size] at h
  | .leaf x, f + 1, r, ok, _ => by
    have ok' : two x.kind = false := ok
    simp [Tr.flat, parseT, ok']
  | .two x a b, f + 1, r, ok, h => by
    obtain ⟨o1, o2, o3⟩ := ok
    simp only [Tr.size] at h
    have h1 := parse_flat a f (b.flat ++ r) o2 (by omega)
    have h2 := parse_flat b f r o3 (by omega)
    simp only [Tr.flat, List.cons_append, List.append_assoc, parseT, o1, if_true, h1, h2]
def treeOf (p : List PNode) : Tr := (parseT 15 p).1
theorem treeOf_flat {t : Tr} (ok : t.ok) (h : t.size ≤ 14) : treeOf t.flat = t := by
  have := parse_flat t 15 [] ok (by omega)
  rw [List.append_nil] at this
  simp [treeOf, this]
theorem tree_of {p : List PNode} (h : checkP p = 0) : (treeOf p).ok ∧ p = (treeOf p).flat ∧ (treeOf p).size ≤ 14 ∧ ∀ x ∈ (treeOf p).flat, goodN x := by
  obtain ⟨t, h1, h2, h3, h4⟩ := check_tree h
  have : treeOf p = t := by rw [h2]; exact treeOf_flat h1 h3
  rw [this]; exact ⟨h1, h2, h3, h4⟩

def zeroR : RestM := ⟨false, [], []⟩
def stepM (p : List PNode) (r : RestM) (ins : Int) : RestM × Bool × Int :=
  if checkR p r ≠ 0 then (zeroR, false, checkR p r) else if ins < 0 ∨ 8 ≤ ins then (zeroR, false, 3) else (turnR (treeOf p) r ins, (turnM (treeOf p) r ins).1, 0)
def beginM (p : List PNode) : RestM × Int := if checkP p ≠ 0 then (zeroR, checkP p) else (freshM p.length, 0)

theorem checkR_ok {p : List PNode} {r : RestM} (h : checkR p r = 0) : checkP p = 0 ∧ r.waits.length = p.length ∧ r.outs.length = 3 ∧ (r.waits.zip p).any (fun y => y.1 && (r.fresh || !waitK y.2.kind)) = false := by
  unfold checkR at h
  split at h
  · rename_i h0; exact absurd h h0
  rename_i h0
  split at h
  · cases h
  rename_i h1
  split at h
  · cases h
  rename_i h2
  refine ⟨by simpa using h0, by omega, by omega, by simpa using h2⟩
theorem checkR_waits {p : List PNode} {r : RestM} (h : checkR p r = 0) : waitsOK p r.waits := by
  obtain ⟨-, h2, -, h4⟩ := checkR_ok h
  intro j hj
  have hjl : j < r.waits.length := by
    rcases Nat.lt_or_ge j r.waits.length with q | q
    · exact q
    · rw [List.getElem?_eq_none q] at hj; cases hj
  have hjp : j < p.length := by omega
  refine ⟨p[j], List.getElem?_eq_getElem hjp, ?_⟩
  have := List.any_eq_false.1 h4 (r.waits[j], p[j]) (List.mem_iff_getElem.2 ⟨j, by simp; omega, by simp⟩)
  rw [List.getElem?_eq_getElem hjl] at hj
  simp only [Option.getD_some] at hj
  simp only [hj, Bool.true_and, Bool.or_eq_true, not_or, Bool.not_eq_true] at this
  simpa using this.2
theorem checkR_make {p : List PNode} {r : RestM} (h1 : checkP p = 0) (h2 : r.waits.length = p.length) (h3 : r.outs.length = 3) (hf : r.fresh = false) (hw : waitsOK p r.waits) : checkR p r = 0 := by
  unfold checkR
  rw [if_neg (by simpa using h1), if_neg (by omega), if_neg]
  rw [Bool.not_eq_true]
  refine List.any_eq_false.2 fun y hy => ?_
  obtain ⟨j, hj, e⟩ := List.mem_iff_getElem.1 hy
  rw [List.getElem_zip] at e
  subst e
  simp only [List.length_zip] at hj
  simp only [hf, Bool.false_or, Bool.and_eq_true, Bool.not_eq_true']
  rintro ⟨q1, q2⟩
  obtain ⟨x, hx1, hx2⟩ := hw j (by rw [List.getElem?_eq_getElem (by omega)]; simpa using q1)
  rw [List.getElem?_eq_getElem (by omega)] at hx1
  injection hx1 with hx1
  rw [← hx1] at hx2
  rw [q2] at hx2; cases hx2
theorem writes_waitsOK {t : Tr} {s s' : StM} (h : WritesW t 0 s s') (hs : ∀ j : Nat, s.W[j]?.getD false = false) : waitsOK t.flat s'.W := fun j hj => by
  rcases h.at_ j hj with q | ⟨-, x, q1, q2⟩
  · rw [hs j] at q; cases q
  · exact ⟨x, q1, q2⟩
theorem rep_false (n j : Nat) : (List.replicate n false)[j]?.getD false = false := by
  rw [List.getElem?_replicate]; split <;> rfl
theorem turn_len (t : Tr) (r : RestM) (ins : Int) : (turnM t r ins).2.W.length = t.size ∧ (turnM t r ins).2.O.length = 3 := by
  unfold turnM
  split
  · have := beginT_len (thereM ins) (wasM r.outs) t 0 ⟨List.replicate t.size false, [false, false, false]⟩; simpa using this
  split
  · have := onT_len (thereM ins) (wasM r.outs) r.waits t 0 ⟨List.replicate t.size false, [false, false, false]⟩; simpa using this
  · simp
theorem turn_waits {t : Tr} {r : RestM} (ins : Int) (ok : t.ok) (hg : ∀ x ∈ t.flat, goodN x) (hw : waitsOK t.flat r.waits) : waitsOK t.flat (turnM t r ins).2.W := by
  unfold turnM
  split
  · exact writes_waitsOK (begin_writes _ _ t 0 _ ok hg) (rep_false _)
  split
  · rename_i hs; exact writes_waitsOK (on_writes _ _ hw t 0 _ (TreeAt.root t) ok hg hs) (rep_false _)
  · intro j hj; rw [rep_false] at hj; cases hj
theorem turn_over {t : Tr} {r : RestM} {ins : Int} (h : (turnM t r ins).1 = true) : (turnM t r ins).2.W = List.replicate t.size false := by
  unfold turnM at h ⊢
  split
  · rename_i h1; rw [if_pos h1] at h; exact begin_over _ _ t 0 _ h
  rename_i h1; rw [if_neg h1] at h
  split
  · rename_i h2; rw [if_pos h2] at h; exact on_over _ _ _ t 0 _ h
  · rfl
/-- What comes of a step is right. -/
theorem step_ok {p : List PNode} {r : RestM} {ins : Int} (h : (stepM p r ins).2.2 = 0) : checkR p (stepM p r ins).1 = 0 ∧ (stepM p r ins).1.fresh = false ∧ (stepM p r ins).1.waits.length = p.length ∧ ((stepM p r ins).2.1 = true → (stepM p r ins).1.waits.contains true = false) := by
  unfold stepM at h ⊢
  split at h
  · rename_i h0; exact absurd h h0
  rename_i h0
  split at h
  · cases h
  rename_i h1
  rw [if_neg h0, if_neg h1]
  have hr : checkR p r = 0 := by simpa using h0
  obtain ⟨c1, c2, c3, c4⟩ := checkR_ok hr
  obtain ⟨t1, t2, t3, t4⟩ := tree_of c1
  have hw := checkR_waits hr
  have hl := turn_len (treeOf p) r ins
  have hpl : p.length = (treeOf p).size := by rw [← flat_size, ← t2]
  have hw2 : waitsOK p (turnM (treeOf p) r ins).2.W := by
    have := turn_waits (t := treeOf p) (r := r) ins t1 t4 (by rw [← t2]; exact hw)
    rwa [← t2] at this
  refine ⟨checkR_make c1 (by show _ = _; rw [hpl]; exact hl.1) hl.2 rfl hw2, rfl, by rw [hpl]; exact hl.1, fun ho => ?_⟩
  have := turn_over (t := treeOf p) (r := r) (ins := ins) ho
  show (turnM (treeOf p) r ins).2.W.contains true = false
  rw [this]; simp
/-- Who waits nowhere, and is not fresh, does nothing. -/
theorem step_idle {p : List PNode} {r : RestM} {ins : Int} (h : checkR p r = 0) (hf : r.fresh = false) (hn : r.waits.contains true = false) (h0 : 0 ≤ ins) (h8 : ins < 8) :
    stepM p r ins = (⟨false, List.replicate p.length false, [false, false, false]⟩, false, 0) := by
  obtain ⟨c1, c2, c3, c4⟩ := checkR_ok h
  obtain ⟨t1, t2, t3, t4⟩ := tree_of c1
  have hpl : p.length = (treeOf p).size := by rw [← flat_size, ← t2]
  have hs : someT r.waits (treeOf p) 0 = false := by
    unfold someT
    rw [List.drop_zero, List.take_of_length_le (by omega)]; exact hn
  unfold stepM
  rw [if_neg (by simpa using h), if_neg (by omega)]
  simp [turnR, turnM, hf, hs, hpl]
end Go.Proofs.Ytejpnbomlnifkaa
