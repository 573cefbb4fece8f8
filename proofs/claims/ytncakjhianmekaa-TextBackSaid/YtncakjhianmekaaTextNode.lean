/- text's reader: fork and node walked. -/
import Derived.Test.YtncakjhianmekaaTextRd
namespace Go.Proofs.Ytncakjhianmekaa
set_option linter.unusedVariables false
set_option linter.unusedSimpArgs false
open Go.RowKit

theorem cutP_isP (w s : List UInt8) : cutP w s = if isP w s then some (restP w s) else none := by
  unfold isP restP; cases cutP w s <;> rfl
theorem flat_two (x : PNode) (a b : Tr) : (Tr.two x a b).flat = x :: (a.flat ++ b.flat) := by simp [Tr.flat]
section
variable {W0 w : World} {g : Nat} {s : List UInt8} {ps : List PNode}
theorem RS.cut (h : RS W0 g w s ps) (word : List UInt8) : RS W0 g (w.setCell ⟨g, 0, none⟩ (S (restP word s))) (restP word s) ps := h.rest _ (by have := rest_len word s; have := h.short; omega)
theorem may_no (h : RS W0 g w s ps) (word : List UInt8) (hw : word.length ≤ 1000) (hi : isP word s = false) :
    Calls Try.prog 27 #[.pointer (some ⟨g, 0, none⟩), S word] w fun e w' => e = .returned (.bool false) ∧ RS W0 g w' s ps := by
  refine (may_any h word hw).mono ?_; rintro e w1 ⟨rfl, rfl⟩
  exact ⟨by rw [hi], by have := h.cut word; rwa [restP_no hi] at this ⊢⟩
theorem may_yes (h : RS W0 g w s ps) (word : List UInt8) (hw : word.length ≤ 1000) (hi : isP word s = true) :
    Calls Try.prog 27 #[.pointer (some ⟨g, 0, none⟩), S word] w fun e w' => e = .returned (.bool true) ∧ RS W0 g w' (restP word s) ps := by
  refine (may_any h word hw).mono ?_; rintro e w1 ⟨rfl, rfl⟩
  exact ⟨by rw [hi], h.cut word⟩
theorem must_yes' (h : RS W0 g w s ps) (word : List UInt8) (hw : word.length ≤ 1000) (hi : isP word s = true) :
    Calls Try.prog 31 #[.pointer (some ⟨g, 0, none⟩), S word] w fun e w' => e = .returned (.tuple #[]) ∧ RS W0 g w' (restP word s) ps := by
  refine (must_yes h word hw hi).mono ?_; rintro e w1 ⟨rfl, rfl⟩
  exact ⟨rfl, h.cut word⟩
theorem flatN_len (ps : List PNode) : (flatN ps).length = ps.length * 2 := by
  induction ps with
  | nil => rfl
  | cons x l ih => simp only [flatN, List.flatMap_cons, List.length_append, List.length_cons] at *; rw [ih]; simp; omega
/-- The node that a reader put first is of another kind now. -/
theorem RS.kind {qs : List PNode} {x : PNode} (h : RS W0 g w s (ps ++ x :: qs)) (kd : Int) : ∃ b c, w.cell? ⟨g, 1, none⟩ = some (.slice (some ⟨b, 0, none⟩) (ps.length + (qs.length + 1)) c) ∧ w.cell? ⟨b, ps.length * 2, none⟩ = some (PK x) ∧ w.frozen? ⟨b, ps.length * 2, none⟩ = false ∧
    RS W0 g (w.setCell ⟨b, ps.length * 2, none⟩ (I kd)) s (ps ++ ⟨kd, x.sig⟩ :: qs) := by
  obtain ⟨v, c1, ho⟩ := h.c1
  have hl : (ps ++ x :: qs).length = ps.length + (qs.length + 1) := by simp
  rw [hl] at ho
  obtain ⟨b, c, rfl⟩ := own_form ho (by omega)
  have hb := (ho.lt b rfl)
  have hg := (flat2_get PK PS (ps ++ x :: qs) ps.length)
  have hx : (ps ++ x :: qs)[ps.length]? = some x := by simp
  rw [hx] at hg
  have hst := ho.stored (ps.length * 2) (I kd)
  have hset : (flatN (ps ++ x :: qs)).set (ps.length * 2) (I kd) = flatN (ps ++ ⟨kd, x.sig⟩ :: qs) := by
    have e : (flatN ps).length = ps.length * 2 := flatN_len ps
    simp only [flatN, List.flatMap_append, List.flatMap_cons]
    rw [List.set_append_right _ _ (by rw [show (List.flatMap (fun x => [PK x, PS x]) ps).length = ps.length * 2 from e]; exact Nat.le_refl _)]
    rw [show (List.flatMap (fun x => [PK x, PS x]) ps).length = ps.length * 2 from e]; simp
  rw [hset] at hst
  refine ⟨b, c, c1, ?_, ho.frozenAt _, h.ext.setCell (by show W0.heap.size ≤ b; have := h.low; omega) _, h.low, ?_, ?_, ⟨.slice (some ⟨b, 0, none⟩) (ps.length + (qs.length + 1)) c, ?_, ?_⟩, ?_, h.short⟩
  · rw [ho.cellAt _ (by omega)]; exact hg.1
  · rw [World.cell?_setCell_other _ _ _ _ (by intro e; injection e; omega)]; exact h.c0
  · rw [World.frozen?_setCell]; exact h.f0
  · rw [World.cell?_setCell_other _ _ _ _ (by intro e; injection e; omega)]; exact c1
  · have := hst.1; simpa using this
  · rw [World.frozen?_setCell]; exact h.f1
end
/-- What node leaves. -/
def NodePost (W0 : World) (g : Nat) (ps : List PNode) (o : Option (Tr × List UInt8)) (e : Ending) (w' : World) : Prop :=
  match o with | some q => e = .returned (.tuple #[]) ∧ RS W0 g w' q.2 (ps ++ q.1.flat) | none => e = .panicked [broken] ∧ Ext W0 w'
def NodeOK (n : Nat) : Prop := ∀ (W0 : World) (g : Nat) (w : World) (s : List UInt8) (ps : List PNode) (left : Nat), RS W0 g w s ps → ps.length + left = 14 → left < n →
  Calls Try.prog 19 #[.pointer (some ⟨g, 0, none⟩)] w (NodePost W0 g ps (readT n left s))
theorem NodeOK.yes {n : Nat} (h : NodeOK n) {W0 : World} {g : Nat} {w : World} {s : List UInt8} {ps : List PNode} {left : Nat} (hr : RS W0 g w s ps) (hl : ps.length + left = 14) (hn : left < n) {q : Tr × List UInt8} (hq : readT n left s = some q) :
    Calls Try.prog 19 #[.pointer (some ⟨g, 0, none⟩)] w fun e w' => e = .returned (.tuple #[]) ∧ RS W0 g w' q.2 (ps ++ q.1.flat) := by
  have := h W0 g w s ps left hr hl hn; rw [hq] at this; exact this
theorem NodeOK.no {n : Nat} (h : NodeOK n) {W0 : World} {g : Nat} {w : World} {s : List UInt8} {ps : List PNode} {left : Nat} (hr : RS W0 g w s ps) (hl : ps.length + left = 14) (hn : left < n) (hq : readT n left s = none) :
    Calls Try.prog 19 #[.pointer (some ⟨g, 0, none⟩)] w fun e w' => e = .panicked [broken] ∧ Ext W0 w' := by
  have := h W0 g w s ps left hr hl hn; rw [hq] at this; exact this
theorem read_small {n left : Nat} {s r : List UInt8} {t : Tr} (h : readT n left s = some (t, r)) : t.size ≤ left := (read_sound n _ _ _ _ h).small
/-- What fork leaves. -/
def ForkPost (W0 : World) (g : Nat) (ps : List PNode) (x : PNode) (o : Option (Tr × List UInt8)) (e : Ending) (w' : World) : Prop :=
  match o with | some q => ∃ a b, q.1 = .two x a b ∧ e = .returned (.tuple #[]) ∧ RS W0 g w' q.2 (ps ++ (a.flat ++ b.flat)) | none => e = .panicked [broken] ∧ Ext W0 w'

set_option maxHeartbeats 2000000 in
theorem fork_any {n : Nat} (hN : NodeOK n) {W0 : World} {g : Nat} {w : World} {s : List UInt8} {ps : List PNode} {left : Nat} (h : RS W0 g w s ps) (hl : ps.length + left = 14) (hn : left < n) (x : PNode) :
    Calls Try.prog 30 #[.pointer (some ⟨g, 0, none⟩)] w (ForkPost W0 g ps x (forkT (readT n) left x s)) := by
  generalize hF : forkT (readT n) left x s = F
  unfold forkT behindT at hF
  have HN := Lib.hid hN; clear hN
  rw [cutP_isP] at hF
  cases hi : isP wThen s
  · rw [hi] at hF; simp at hF; subst hF
    have HI := Lib.hid hi; have H := Lib.hid h; clear hi h
    go_enter Try.func30, Try.ntmps30
    go_wp2_with fail
    refine (must_no H.out wThen (by decide) HI.out).mono ?_; rintro e w1 ⟨rfl, x1⟩
    go_wp2
    exact ⟨rfl, rfl, x1⟩
  rw [hi] at hF; simp only [if_true, Option.bind_some] at hF
  generalize hr1 : restP wThen s = s1 at hF
  cases ha : readT n left s1 with
  | none =>
    rw [ha] at hF; simp at hF; subst hF
    have HI := Lib.hid hi; have H := Lib.hid h; subst hr1; have HA := Lib.hid ha; clear hi h ha
    go_enter Try.func30, Try.ntmps30
    go_wp2_with fail
    refine (must_yes' H.out wThen (by decide) HI.out).mono ?_; rintro e w1 ⟨rfl, h1⟩
    have H1 := Lib.hid h1; clear h1
    go_wp2_with fail
    refine (HN.out.no H1.out hl hn HA.out).mono ?_; rintro e w2 ⟨rfl, x2⟩
    go_wp2
    exact ⟨rfl, rfl, x2⟩
  | some qa =>
    obtain ⟨a, sa⟩ := qa
    have hsm := read_small ha
    have HL2 : Hid ((ps ++ a.flat).length + (left - a.size) = 14) := by unfold Hid; rw [List.length_append, flat_size]; omega
    have hn2 : left - a.size < n := by omega
    rw [ha] at hF; simp only [Option.bind_some] at hF
    rw [cutP_isP] at hF
    cases he : isP wElse sa
    · rw [he] at hF; simp at hF; subst hF
      have HI := Lib.hid hi; have H := Lib.hid h; subst hr1; have HA := Lib.hid ha; have HE := Lib.hid he; clear hi h ha he
      go_enter Try.func30, Try.ntmps30
      go_wp2_with fail
      refine (must_yes' H.out wThen (by decide) HI.out).mono ?_; rintro e w1 ⟨rfl, h1⟩
      have H1 := Lib.hid h1; clear h1
      go_wp2_with fail
      refine (HN.out.yes H1.out hl hn HA.out).mono ?_; rintro e w2 ⟨rfl, h2⟩
      have H2 := Lib.hid h2; clear h2
      go_wp2_with fail
      refine (must_no H2.out wElse (by decide) HE.out).mono ?_; rintro e w3 ⟨rfl, x3⟩
      go_wp2
      exact ⟨rfl, rfl, x3⟩
    rw [he] at hF; simp only [if_true, Option.bind_some] at hF
    cases hb : readT n (left - a.size) (restP wElse sa) with
    | none =>
      rw [hb] at hF; simp at hF; subst hF
      have HI := Lib.hid hi; have H := Lib.hid h; subst hr1; have HA := Lib.hid ha; have HE := Lib.hid he; have HB := Lib.hid hb; clear hi h ha he hb
      go_enter Try.func30, Try.ntmps30
      go_wp2_with fail
      refine (must_yes' H.out wThen (by decide) HI.out).mono ?_; rintro e w1 ⟨rfl, h1⟩
      have H1 := Lib.hid h1; clear h1
      go_wp2_with fail
      refine (HN.out.yes H1.out hl hn HA.out).mono ?_; rintro e w2 ⟨rfl, h2⟩
      have H2 := Lib.hid h2; clear h2
      go_wp2_with fail
      refine (must_yes' H2.out wElse (by decide) HE.out).mono ?_; rintro e w3 ⟨rfl, h3⟩
      have H3 := Lib.hid h3; clear h3
      go_wp2_with fail
      refine (HN.out.no H3.out HL2.out hn2 HB.out).mono ?_; rintro e w4 ⟨rfl, x4⟩
      go_wp2
      exact ⟨rfl, rfl, x4⟩
    | some qb =>
      obtain ⟨b, sb⟩ := qb
      rw [hb] at hF; simp only [Option.bind_some] at hF
      rw [cutP_isP] at hF
      cases hd : isP wEnd sb
      · rw [hd] at hF; simp at hF; subst hF
        have HI := Lib.hid hi; have H := Lib.hid h; subst hr1; have HA := Lib.hid ha; have HE := Lib.hid he; have HB := Lib.hid hb; have HD := Lib.hid hd; clear hi h ha he hb hd
        go_enter Try.func30, Try.ntmps30
        go_wp2_with fail
        refine (must_yes' H.out wThen (by decide) HI.out).mono ?_; rintro e w1 ⟨rfl, h1⟩
        have H1 := Lib.hid h1; clear h1
        go_wp2_with fail
        refine (HN.out.yes H1.out hl hn HA.out).mono ?_; rintro e w2 ⟨rfl, h2⟩
        have H2 := Lib.hid h2; clear h2
        go_wp2_with fail
        refine (must_yes' H2.out wElse (by decide) HE.out).mono ?_; rintro e w3 ⟨rfl, h3⟩
        have H3 := Lib.hid h3; clear h3
        go_wp2_with fail
        refine (HN.out.yes H3.out HL2.out hn2 HB.out).mono ?_; rintro e w4 ⟨rfl, h4⟩
        have H4 := Lib.hid h4; clear h4
        go_wp2_with fail
        refine (must_no H4.out wEnd (by decide) HD.out).mono ?_; rintro e w5 ⟨rfl, x5⟩
        go_wp2
        exact ⟨rfl, rfl, x5⟩
      · rw [hd] at hF; simp at hF; subst hF
        have HI := Lib.hid hi; have H := Lib.hid h; subst hr1; have HA := Lib.hid ha; have HE := Lib.hid he; have HB := Lib.hid hb; have HD := Lib.hid hd; clear hi h ha he hb hd
        go_enter Try.func30, Try.ntmps30
        go_wp2_with fail
        refine (must_yes' H.out wThen (by decide) HI.out).mono ?_; rintro e w1 ⟨rfl, h1⟩
        have H1 := Lib.hid h1; clear h1
        go_wp2_with fail
        refine (HN.out.yes H1.out hl hn HA.out).mono ?_; rintro e w2 ⟨rfl, h2⟩
        have H2 := Lib.hid h2; clear h2
        go_wp2_with fail
        refine (must_yes' H2.out wElse (by decide) HE.out).mono ?_; rintro e w3 ⟨rfl, h3⟩
        have H3 := Lib.hid h3; clear h3
        go_wp2_with fail
        refine (HN.out.yes H3.out HL2.out hn2 HB.out).mono ?_; rintro e w4 ⟨rfl, h4⟩
        have H4 := Lib.hid h4; clear h4
        go_wp2_with fail
        refine (must_yes' H4.out wEnd (by decide) HD.out).mono ?_; rintro e w5 ⟨rfl, h5⟩
        go_wp2
        go_end0
        exact ⟨a, b, rfl, rfl, by rw [← List.append_assoc]; exact h5⟩

-- node, where no node may come any more
set_option maxHeartbeats 2000000 in
theorem node_full0 {W0 : World} {g : Nat} {w : World} {s : List UInt8} {ps : List PNode} (h : RS W0 g w s ps) (hl : ps.length = 14) (hi0 : isP wNothing s = true) :
    Calls Try.prog 19 #[.pointer (some ⟨g, 0, none⟩)] w fun e w' => e = .panicked [broken] ∧ Ext W0 w' := by
  have H0 := Lib.hid h; clear h
  have HI0' := Lib.hid hi0; clear hi0
  go_enter Try.func19, Try.ntmps19
  go_wp2_with fail
  refine (may_yes H0.out wNothing (by decide) HI0'.out).mono ?_; rintro e w1 ⟨rfl, h1⟩
  have H1 := Lib.hid h1; clear h1
  go_wp2_with fail
  refine (put_full H1.out 0 0 hl).mono ?_; rintro e w2 ⟨rfl, x2⟩
  go_wp2
  exact ⟨rfl, rfl, x2⟩
set_option maxHeartbeats 2000000 in
theorem node_full1 {W0 : World} {g : Nat} {w : World} {s : List UInt8} {ps : List PNode} (h : RS W0 g w s ps) (hl : ps.length = 14) (hi0 : isP wNothing s = false) (hi1 : isP wPause s = true) :
    Calls Try.prog 19 #[.pointer (some ⟨g, 0, none⟩)] w fun e w' => e = .panicked [broken] ∧ Ext W0 w' := by
  have H0 := Lib.hid h; clear h
  have HI0' := Lib.hid hi0; clear hi0
  have HI1' := Lib.hid hi1; clear hi1
  go_enter Try.func19, Try.ntmps19
  go_wp2_with fail
  refine (may_no H0.out wNothing (by decide) HI0'.out).mono ?_; rintro e w1 ⟨rfl, h1⟩
  have H1 := Lib.hid h1; clear h1
  go_wp2_with fail
  refine (may_yes H1.out wPause (by decide) HI1'.out).mono ?_; rintro e w2 ⟨rfl, h2⟩
  have H2 := Lib.hid h2; clear h2
  go_wp2_with fail
  refine (put_full H2.out 1 0 hl).mono ?_; rintro e w3 ⟨rfl, x3⟩
  go_wp2
  exact ⟨rfl, rfl, x3⟩
set_option maxHeartbeats 2000000 in
theorem node_full2 {W0 : World} {g : Nat} {w : World} {s : List UInt8} {ps : List PNode} (h : RS W0 g w s ps) (hl : ps.length = 14) (hi0 : isP wNothing s = false) (hi1 : isP wPause s = false) (hi2 : isP wHalt s = true) :
    Calls Try.prog 19 #[.pointer (some ⟨g, 0, none⟩)] w fun e w' => e = .panicked [broken] ∧ Ext W0 w' := by
  have H0 := Lib.hid h; clear h
  have HI0' := Lib.hid hi0; clear hi0
  have HI1' := Lib.hid hi1; clear hi1
  have HI2' := Lib.hid hi2; clear hi2
  go_enter Try.func19, Try.ntmps19
  go_wp2_with fail
  refine (may_no H0.out wNothing (by decide) HI0'.out).mono ?_; rintro e w1 ⟨rfl, h1⟩
  have H1 := Lib.hid h1; clear h1
  go_wp2_with fail
  refine (may_no H1.out wPause (by decide) HI1'.out).mono ?_; rintro e w2 ⟨rfl, h2⟩
  have H2 := Lib.hid h2; clear h2
  go_wp2_with fail
  refine (may_yes H2.out wHalt (by decide) HI2'.out).mono ?_; rintro e w3 ⟨rfl, h3⟩
  have H3 := Lib.hid h3; clear h3
  go_wp2_with fail
  refine (put_full H3.out 2 0 hl).mono ?_; rintro e w4 ⟨rfl, x4⟩
  go_wp2
  exact ⟨rfl, rfl, x4⟩
set_option maxHeartbeats 2000000 in
theorem node_sign3 {W0 : World} {g : Nat} {w : World} {s : List UInt8} {ps : List PNode} (h : RS W0 g w s ps) (hi0 : isP wNothing s = false) (hi1 : isP wPause s = false) (hi2 : isP wHalt s = false) (hi3 : isP wEmit s = true) (hn : signP 65 (restP wEmit s) = none) :
    Calls Try.prog 19 #[.pointer (some ⟨g, 0, none⟩)] w fun e w' => e = .panicked [broken] ∧ Ext W0 w' := by
  have hs := fun (Q : World) (hQ : RS W0 g Q (restP wEmit s) ps) => sign65_any hQ
  rw [hn] at hs
  have H0 := Lib.hid h; clear h
  have HI0' := Lib.hid hi0; clear hi0
  have HI1' := Lib.hid hi1; clear hi1
  have HI2' := Lib.hid hi2; clear hi2
  have HI3' := Lib.hid hi3; clear hi3
  have HN' := Lib.hid hn; clear hn
  have HS' := Lib.hid hs; clear hs
  go_enter Try.func19, Try.ntmps19
  go_wp2_with fail
  refine (may_no H0.out wNothing (by decide) HI0'.out).mono ?_; rintro e w1 ⟨rfl, h1⟩
  have H1 := Lib.hid h1; clear h1
  go_wp2_with fail
  refine (may_no H1.out wPause (by decide) HI1'.out).mono ?_; rintro e w2 ⟨rfl, h2⟩
  have H2 := Lib.hid h2; clear h2
  go_wp2_with fail
  refine (may_no H2.out wHalt (by decide) HI2'.out).mono ?_; rintro e w3 ⟨rfl, h3⟩
  have H3 := Lib.hid h3; clear h3
  go_wp2_with fail
  refine (may_yes H3.out wEmit (by decide) HI3'.out).mono ?_; rintro e w4 ⟨rfl, h4⟩
  have H4 := Lib.hid h4; clear h4
  go_wp2_with fail
  refine (HS'.out _ H4.out).mono ?_; rintro e w5 ⟨rfl, x5⟩
  go_wp2
  exact ⟨rfl, rfl, x5⟩
set_option maxHeartbeats 2000000 in
theorem node_full3 {W0 : World} {g : Nat} {w : World} {s : List UInt8} {ps : List PNode} (h : RS W0 g w s ps) (hl : ps.length = 14) (hi0 : isP wNothing s = false) (hi1 : isP wPause s = false) (hi2 : isP wHalt s = false) (hi3 : isP wEmit s = true) {q : Int × List UInt8} (hn : signP 65 (restP wEmit s) = some q) :
    Calls Try.prog 19 #[.pointer (some ⟨g, 0, none⟩)] w fun e w' => e = .panicked [broken] ∧ Ext W0 w' := by
  have hs := fun (Q : World) (hQ : RS W0 g Q (restP wEmit s) ps) => sign65_any hQ
  rw [hn] at hs
  obtain ⟨y, r⟩ := q
  have H0 := Lib.hid h; clear h
  have HI0' := Lib.hid hi0; clear hi0
  have HI1' := Lib.hid hi1; clear hi1
  have HI2' := Lib.hid hi2; clear hi2
  have HI3' := Lib.hid hi3; clear hi3
  have HN' := Lib.hid hn; clear hn
  have HS' := Lib.hid hs; clear hs
  go_enter Try.func19, Try.ntmps19
  go_wp2_with fail
  refine (may_no H0.out wNothing (by decide) HI0'.out).mono ?_; rintro e w1 ⟨rfl, h1⟩
  have H1 := Lib.hid h1; clear h1
  go_wp2_with fail
  refine (may_no H1.out wPause (by decide) HI1'.out).mono ?_; rintro e w2 ⟨rfl, h2⟩
  have H2 := Lib.hid h2; clear h2
  go_wp2_with fail
  refine (may_no H2.out wHalt (by decide) HI2'.out).mono ?_; rintro e w3 ⟨rfl, h3⟩
  have H3 := Lib.hid h3; clear h3
  go_wp2_with fail
  refine (may_yes H3.out wEmit (by decide) HI3'.out).mono ?_; rintro e w4 ⟨rfl, h4⟩
  have H4 := Lib.hid h4; clear h4
  go_wp2_with fail
  refine (HS'.out _ H4.out).mono ?_; rintro e w5 ⟨rfl, h5⟩
  have H5 := Lib.hid h5; clear h5
  go_wp2_with fail
  refine (put_full H5.out 3 y hl).mono ?_; rintro e w6 ⟨rfl, x6⟩
  go_wp2
  exact ⟨rfl, rfl, x6⟩
set_option maxHeartbeats 2000000 in
theorem node_sign4 {W0 : World} {g : Nat} {w : World} {s : List UInt8} {ps : List PNode} (h : RS W0 g w s ps) (hi0 : isP wNothing s = false) (hi1 : isP wPause s = false) (hi2 : isP wHalt s = false) (hi3 : isP wEmit s = false) (hi4 : isP wAwait s = true) (hn : signP 120 (restP wAwait s) = none) :
    Calls Try.prog 19 #[.pointer (some ⟨g, 0, none⟩)] w fun e w' => e = .panicked [broken] ∧ Ext W0 w' := by
  have hs := fun (Q : World) (hQ : RS W0 g Q (restP wAwait s) ps) => sign120_any hQ
  rw [hn] at hs
  have H0 := Lib.hid h; clear h
  have HI0' := Lib.hid hi0; clear hi0
  have HI1' := Lib.hid hi1; clear hi1
  have HI2' := Lib.hid hi2; clear hi2
  have HI3' := Lib.hid hi3; clear hi3
  have HI4' := Lib.hid hi4; clear hi4
  have HN' := Lib.hid hn; clear hn
  have HS' := Lib.hid hs; clear hs
  go_enter Try.func19, Try.ntmps19
  go_wp2_with fail
  refine (may_no H0.out wNothing (by decide) HI0'.out).mono ?_; rintro e w1 ⟨rfl, h1⟩
  have H1 := Lib.hid h1; clear h1
  go_wp2_with fail
  refine (may_no H1.out wPause (by decide) HI1'.out).mono ?_; rintro e w2 ⟨rfl, h2⟩
  have H2 := Lib.hid h2; clear h2
  go_wp2_with fail
  refine (may_no H2.out wHalt (by decide) HI2'.out).mono ?_; rintro e w3 ⟨rfl, h3⟩
  have H3 := Lib.hid h3; clear h3
  go_wp2_with fail
  refine (may_no H3.out wEmit (by decide) HI3'.out).mono ?_; rintro e w4 ⟨rfl, h4⟩
  have H4 := Lib.hid h4; clear h4
  go_wp2_with fail
  refine (may_yes H4.out wAwait (by decide) HI4'.out).mono ?_; rintro e w5 ⟨rfl, h5⟩
  have H5 := Lib.hid h5; clear h5
  go_wp2_with fail
  refine (HS'.out _ H5.out).mono ?_; rintro e w6 ⟨rfl, x6⟩
  go_wp2
  exact ⟨rfl, rfl, x6⟩
set_option maxHeartbeats 2000000 in
theorem node_full4 {W0 : World} {g : Nat} {w : World} {s : List UInt8} {ps : List PNode} (h : RS W0 g w s ps) (hl : ps.length = 14) (hi0 : isP wNothing s = false) (hi1 : isP wPause s = false) (hi2 : isP wHalt s = false) (hi3 : isP wEmit s = false) (hi4 : isP wAwait s = true) {q : Int × List UInt8} (hn : signP 120 (restP wAwait s) = some q) :
    Calls Try.prog 19 #[.pointer (some ⟨g, 0, none⟩)] w fun e w' => e = .panicked [broken] ∧ Ext W0 w' := by
  have hs := fun (Q : World) (hQ : RS W0 g Q (restP wAwait s) ps) => sign120_any hQ
  rw [hn] at hs
  obtain ⟨y, r⟩ := q
  have H0 := Lib.hid h; clear h
  have HI0' := Lib.hid hi0; clear hi0
  have HI1' := Lib.hid hi1; clear hi1
  have HI2' := Lib.hid hi2; clear hi2
  have HI3' := Lib.hid hi3; clear hi3
  have HI4' := Lib.hid hi4; clear hi4
  have HN' := Lib.hid hn; clear hn
  have HS' := Lib.hid hs; clear hs
  go_enter Try.func19, Try.ntmps19
  go_wp2_with fail
  refine (may_no H0.out wNothing (by decide) HI0'.out).mono ?_; rintro e w1 ⟨rfl, h1⟩
  have H1 := Lib.hid h1; clear h1
  go_wp2_with fail
  refine (may_no H1.out wPause (by decide) HI1'.out).mono ?_; rintro e w2 ⟨rfl, h2⟩
  have H2 := Lib.hid h2; clear h2
  go_wp2_with fail
  refine (may_no H2.out wHalt (by decide) HI2'.out).mono ?_; rintro e w3 ⟨rfl, h3⟩
  have H3 := Lib.hid h3; clear h3
  go_wp2_with fail
  refine (may_no H3.out wEmit (by decide) HI3'.out).mono ?_; rintro e w4 ⟨rfl, h4⟩
  have H4 := Lib.hid h4; clear h4
  go_wp2_with fail
  refine (may_yes H4.out wAwait (by decide) HI4'.out).mono ?_; rintro e w5 ⟨rfl, h5⟩
  have H5 := Lib.hid h5; clear h5
  go_wp2_with fail
  refine (HS'.out _ H5.out).mono ?_; rintro e w6 ⟨rfl, h6⟩
  have H6 := Lib.hid h6; clear h6
  go_wp2_with fail
  refine (put_full H6.out 4 y hl).mono ?_; rintro e w7 ⟨rfl, x7⟩
  go_wp2
  exact ⟨rfl, rfl, x7⟩
set_option maxHeartbeats 2000000 in
theorem node_sign5 {W0 : World} {g : Nat} {w : World} {s : List UInt8} {ps : List PNode} (h : RS W0 g w s ps) (hi0 : isP wNothing s = false) (hi1 : isP wPause s = false) (hi2 : isP wHalt s = false) (hi3 : isP wEmit s = false) (hi4 : isP wAwait s = false) (hi5 : isP wIf s = true) (hn : signP 120 (restP wIf s) = none) :
    Calls Try.prog 19 #[.pointer (some ⟨g, 0, none⟩)] w fun e w' => e = .panicked [broken] ∧ Ext W0 w' := by
  have hs := fun (Q : World) (hQ : RS W0 g Q (restP wIf s) ps) => sign120_any hQ
  rw [hn] at hs
  have H0 := Lib.hid h; clear h
  have HI0' := Lib.hid hi0; clear hi0
  have HI1' := Lib.hid hi1; clear hi1
  have HI2' := Lib.hid hi2; clear hi2
  have HI3' := Lib.hid hi3; clear hi3
  have HI4' := Lib.hid hi4; clear hi4
  have HI5' := Lib.hid hi5; clear hi5
  have HN' := Lib.hid hn; clear hn
  have HS' := Lib.hid hs; clear hs
  go_enter Try.func19, Try.ntmps19
  go_wp2_with fail
  refine (may_no H0.out wNothing (by decide) HI0'.out).mono ?_; rintro e w1 ⟨rfl, h1⟩
  have H1 := Lib.hid h1; clear h1
  go_wp2_with fail
  refine (may_no H1.out wPause (by decide) HI1'.out).mono ?_; rintro e w2 ⟨rfl, h2⟩
  have H2 := Lib.hid h2; clear h2
  go_wp2_with fail
  refine (may_no H2.out wHalt (by decide) HI2'.out).mono ?_; rintro e w3 ⟨rfl, h3⟩
  have H3 := Lib.hid h3; clear h3
  go_wp2_with fail
  refine (may_no H3.out wEmit (by decide) HI3'.out).mono ?_; rintro e w4 ⟨rfl, h4⟩
  have H4 := Lib.hid h4; clear h4
  go_wp2_with fail
  refine (may_no H4.out wAwait (by decide) HI4'.out).mono ?_; rintro e w5 ⟨rfl, h5⟩
  have H5 := Lib.hid h5; clear h5
  go_wp2_with fail
  refine (may_yes H5.out wIf (by decide) HI5'.out).mono ?_; rintro e w6 ⟨rfl, h6⟩
  have H6 := Lib.hid h6; clear h6
  go_wp2_with fail
  refine (HS'.out _ H6.out).mono ?_; rintro e w7 ⟨rfl, x7⟩
  go_wp2
  exact ⟨rfl, rfl, x7⟩
set_option maxHeartbeats 2000000 in
theorem node_full5 {W0 : World} {g : Nat} {w : World} {s : List UInt8} {ps : List PNode} (h : RS W0 g w s ps) (hl : ps.length = 14) (hi0 : isP wNothing s = false) (hi1 : isP wPause s = false) (hi2 : isP wHalt s = false) (hi3 : isP wEmit s = false) (hi4 : isP wAwait s = false) (hi5 : isP wIf s = true) {q : Int × List UInt8} (hn : signP 120 (restP wIf s) = some q) :
    Calls Try.prog 19 #[.pointer (some ⟨g, 0, none⟩)] w fun e w' => e = .panicked [broken] ∧ Ext W0 w' := by
  have hs := fun (Q : World) (hQ : RS W0 g Q (restP wIf s) ps) => sign120_any hQ
  rw [hn] at hs
  obtain ⟨y, r⟩ := q
  have H0 := Lib.hid h; clear h
  have HI0' := Lib.hid hi0; clear hi0
  have HI1' := Lib.hid hi1; clear hi1
  have HI2' := Lib.hid hi2; clear hi2
  have HI3' := Lib.hid hi3; clear hi3
  have HI4' := Lib.hid hi4; clear hi4
  have HI5' := Lib.hid hi5; clear hi5
  have HN' := Lib.hid hn; clear hn
  have HS' := Lib.hid hs; clear hs
  go_enter Try.func19, Try.ntmps19
  go_wp2_with fail
  refine (may_no H0.out wNothing (by decide) HI0'.out).mono ?_; rintro e w1 ⟨rfl, h1⟩
  have H1 := Lib.hid h1; clear h1
  go_wp2_with fail
  refine (may_no H1.out wPause (by decide) HI1'.out).mono ?_; rintro e w2 ⟨rfl, h2⟩
  have H2 := Lib.hid h2; clear h2
  go_wp2_with fail
  refine (may_no H2.out wHalt (by decide) HI2'.out).mono ?_; rintro e w3 ⟨rfl, h3⟩
  have H3 := Lib.hid h3; clear h3
  go_wp2_with fail
  refine (may_no H3.out wEmit (by decide) HI3'.out).mono ?_; rintro e w4 ⟨rfl, h4⟩
  have H4 := Lib.hid h4; clear h4
  go_wp2_with fail
  refine (may_no H4.out wAwait (by decide) HI4'.out).mono ?_; rintro e w5 ⟨rfl, h5⟩
  have H5 := Lib.hid h5; clear h5
  go_wp2_with fail
  refine (may_yes H5.out wIf (by decide) HI5'.out).mono ?_; rintro e w6 ⟨rfl, h6⟩
  have H6 := Lib.hid h6; clear h6
  go_wp2_with fail
  refine (HS'.out _ H6.out).mono ?_; rintro e w7 ⟨rfl, h7⟩
  have H7 := Lib.hid h7; clear h7
  go_wp2_with fail
  refine (put_full H7.out 7 y hl).mono ?_; rintro e w8 ⟨rfl, x8⟩
  go_wp2
  exact ⟨rfl, rfl, x8⟩
set_option maxHeartbeats 2000000 in
theorem node_sign6 {W0 : World} {g : Nat} {w : World} {s : List UInt8} {ps : List PNode} (h : RS W0 g w s ps) (hi0 : isP wNothing s = false) (hi1 : isP wPause s = false) (hi2 : isP wHalt s = false) (hi3 : isP wEmit s = false) (hi4 : isP wAwait s = false) (hi5 : isP wIf s = false) (hi6 : isP wWas s = true) (hn : signP 65 (restP wWas s) = none) :
    Calls Try.prog 19 #[.pointer (some ⟨g, 0, none⟩)] w fun e w' => e = .panicked [broken] ∧ Ext W0 w' := by
  have hs := fun (Q : World) (hQ : RS W0 g Q (restP wWas s) ps) => sign65_any hQ
  rw [hn] at hs
  have H0 := Lib.hid h; clear h
  have HI0' := Lib.hid hi0; clear hi0
  have HI1' := Lib.hid hi1; clear hi1
  have HI2' := Lib.hid hi2; clear hi2
  have HI3' := Lib.hid hi3; clear hi3
  have HI4' := Lib.hid hi4; clear hi4
  have HI5' := Lib.hid hi5; clear hi5
  have HI6' := Lib.hid hi6; clear hi6
  have HN' := Lib.hid hn; clear hn
  have HS' := Lib.hid hs; clear hs
  go_enter Try.func19, Try.ntmps19
  go_wp2_with fail
  refine (may_no H0.out wNothing (by decide) HI0'.out).mono ?_; rintro e w1 ⟨rfl, h1⟩
  have H1 := Lib.hid h1; clear h1
  go_wp2_with fail
  refine (may_no H1.out wPause (by decide) HI1'.out).mono ?_; rintro e w2 ⟨rfl, h2⟩
  have H2 := Lib.hid h2; clear h2
  go_wp2_with fail
  refine (may_no H2.out wHalt (by decide) HI2'.out).mono ?_; rintro e w3 ⟨rfl, h3⟩
  have H3 := Lib.hid h3; clear h3
  go_wp2_with fail
  refine (may_no H3.out wEmit (by decide) HI3'.out).mono ?_; rintro e w4 ⟨rfl, h4⟩
  have H4 := Lib.hid h4; clear h4
  go_wp2_with fail
  refine (may_no H4.out wAwait (by decide) HI4'.out).mono ?_; rintro e w5 ⟨rfl, h5⟩
  have H5 := Lib.hid h5; clear h5
  go_wp2_with fail
  refine (may_no H5.out wIf (by decide) HI5'.out).mono ?_; rintro e w6 ⟨rfl, h6⟩
  have H6 := Lib.hid h6; clear h6
  go_wp2_with fail
  refine (may_yes H6.out wWas (by decide) HI6'.out).mono ?_; rintro e w7 ⟨rfl, h7⟩
  have H7 := Lib.hid h7; clear h7
  go_wp2_with fail
  refine (HS'.out _ H7.out).mono ?_; rintro e w8 ⟨rfl, x8⟩
  go_wp2
  exact ⟨rfl, rfl, x8⟩
set_option maxHeartbeats 2000000 in
theorem node_full6 {W0 : World} {g : Nat} {w : World} {s : List UInt8} {ps : List PNode} (h : RS W0 g w s ps) (hl : ps.length = 14) (hi0 : isP wNothing s = false) (hi1 : isP wPause s = false) (hi2 : isP wHalt s = false) (hi3 : isP wEmit s = false) (hi4 : isP wAwait s = false) (hi5 : isP wIf s = false) (hi6 : isP wWas s = true) {q : Int × List UInt8} (hn : signP 65 (restP wWas s) = some q) :
    Calls Try.prog 19 #[.pointer (some ⟨g, 0, none⟩)] w fun e w' => e = .panicked [broken] ∧ Ext W0 w' := by
  have hs := fun (Q : World) (hQ : RS W0 g Q (restP wWas s) ps) => sign65_any hQ
  rw [hn] at hs
  obtain ⟨y, r⟩ := q
  have H0 := Lib.hid h; clear h
  have HI0' := Lib.hid hi0; clear hi0
  have HI1' := Lib.hid hi1; clear hi1
  have HI2' := Lib.hid hi2; clear hi2
  have HI3' := Lib.hid hi3; clear hi3
  have HI4' := Lib.hid hi4; clear hi4
  have HI5' := Lib.hid hi5; clear hi5
  have HI6' := Lib.hid hi6; clear hi6
  have HN' := Lib.hid hn; clear hn
  have HS' := Lib.hid hs; clear hs
  go_enter Try.func19, Try.ntmps19
  go_wp2_with fail
  refine (may_no H0.out wNothing (by decide) HI0'.out).mono ?_; rintro e w1 ⟨rfl, h1⟩
  have H1 := Lib.hid h1; clear h1
  go_wp2_with fail
  refine (may_no H1.out wPause (by decide) HI1'.out).mono ?_; rintro e w2 ⟨rfl, h2⟩
  have H2 := Lib.hid h2; clear h2
  go_wp2_with fail
  refine (may_no H2.out wHalt (by decide) HI2'.out).mono ?_; rintro e w3 ⟨rfl, h3⟩
  have H3 := Lib.hid h3; clear h3
  go_wp2_with fail
  refine (may_no H3.out wEmit (by decide) HI3'.out).mono ?_; rintro e w4 ⟨rfl, h4⟩
  have H4 := Lib.hid h4; clear h4
  go_wp2_with fail
  refine (may_no H4.out wAwait (by decide) HI4'.out).mono ?_; rintro e w5 ⟨rfl, h5⟩
  have H5 := Lib.hid h5; clear h5
  go_wp2_with fail
  refine (may_no H5.out wIf (by decide) HI5'.out).mono ?_; rintro e w6 ⟨rfl, h6⟩
  have H6 := Lib.hid h6; clear h6
  go_wp2_with fail
  refine (may_yes H6.out wWas (by decide) HI6'.out).mono ?_; rintro e w7 ⟨rfl, h7⟩
  have H7 := Lib.hid h7; clear h7
  go_wp2_with fail
  refine (HS'.out _ H7.out).mono ?_; rintro e w8 ⟨rfl, h8⟩
  have H8 := Lib.hid h8; clear h8
  go_wp2_with fail
  refine (put_full H8.out 8 y hl).mono ?_; rintro e w9 ⟨rfl, x9⟩
  go_wp2
  exact ⟨rfl, rfl, x9⟩
set_option maxHeartbeats 2000000 in
theorem node_full7 {W0 : World} {g : Nat} {w : World} {s : List UInt8} {ps : List PNode} (h : RS W0 g w s ps) (hl : ps.length = 14) (hi0 : isP wNothing s = false) (hi1 : isP wPause s = false) (hi2 : isP wHalt s = false) (hi3 : isP wEmit s = false) (hi4 : isP wAwait s = false) (hi5 : isP wIf s = false) (hi6 : isP wWas s = false) (hi7 : isP wOpen s = true) :
    Calls Try.prog 19 #[.pointer (some ⟨g, 0, none⟩)] w fun e w' => e = .panicked [broken] ∧ Ext W0 w' := by
  have H0 := Lib.hid h; clear h
  have HI0' := Lib.hid hi0; clear hi0
  have HI1' := Lib.hid hi1; clear hi1
  have HI2' := Lib.hid hi2; clear hi2
  have HI3' := Lib.hid hi3; clear hi3
  have HI4' := Lib.hid hi4; clear hi4
  have HI5' := Lib.hid hi5; clear hi5
  have HI6' := Lib.hid hi6; clear hi6
  have HI7' := Lib.hid hi7; clear hi7
  go_enter Try.func19, Try.ntmps19
  go_wp2_with fail
  refine (may_no H0.out wNothing (by decide) HI0'.out).mono ?_; rintro e w1 ⟨rfl, h1⟩
  have H1 := Lib.hid h1; clear h1
  go_wp2_with fail
  refine (may_no H1.out wPause (by decide) HI1'.out).mono ?_; rintro e w2 ⟨rfl, h2⟩
  have H2 := Lib.hid h2; clear h2
  go_wp2_with fail
  refine (may_no H2.out wHalt (by decide) HI2'.out).mono ?_; rintro e w3 ⟨rfl, h3⟩
  have H3 := Lib.hid h3; clear h3
  go_wp2_with fail
  refine (may_no H3.out wEmit (by decide) HI3'.out).mono ?_; rintro e w4 ⟨rfl, h4⟩
  have H4 := Lib.hid h4; clear h4
  go_wp2_with fail
  refine (may_no H4.out wAwait (by decide) HI4'.out).mono ?_; rintro e w5 ⟨rfl, h5⟩
  have H5 := Lib.hid h5; clear h5
  go_wp2_with fail
  refine (may_no H5.out wIf (by decide) HI5'.out).mono ?_; rintro e w6 ⟨rfl, h6⟩
  have H6 := Lib.hid h6; clear h6
  go_wp2_with fail
  refine (may_no H6.out wWas (by decide) HI6'.out).mono ?_; rintro e w7 ⟨rfl, h7⟩
  have H7 := Lib.hid h7; clear h7
  go_wp2_with fail
  refine (must_yes' H7.out wOpen (by decide) HI7'.out).mono ?_; rintro e w8 ⟨rfl, h8⟩
  have H8 := Lib.hid h8; clear h8
  go_wp2_with fail
  refine (put_full H8.out 5 0 hl).mono ?_; rintro e w9 ⟨rfl, x9⟩
  go_wp2
  exact ⟨rfl, rfl, x9⟩
set_option maxHeartbeats 2000000 in
theorem node_none {W0 : World} {g : Nat} {w : World} {s : List UInt8} {ps : List PNode} (h : RS W0 g w s ps) (hi0 : isP wNothing s = false) (hi1 : isP wPause s = false) (hi2 : isP wHalt s = false) (hi3 : isP wEmit s = false) (hi4 : isP wAwait s = false) (hi5 : isP wIf s = false) (hi6 : isP wWas s = false) (hi7 : isP wOpen s = false) :
    Calls Try.prog 19 #[.pointer (some ⟨g, 0, none⟩)] w fun e w' => e = .panicked [broken] ∧ Ext W0 w' := by
  have H0 := Lib.hid h; clear h
  have HI0' := Lib.hid hi0; clear hi0
  have HI1' := Lib.hid hi1; clear hi1
  have HI2' := Lib.hid hi2; clear hi2
  have HI3' := Lib.hid hi3; clear hi3
  have HI4' := Lib.hid hi4; clear hi4
  have HI5' := Lib.hid hi5; clear hi5
  have HI6' := Lib.hid hi6; clear hi6
  have HI7' := Lib.hid hi7; clear hi7
  go_enter Try.func19, Try.ntmps19
  go_wp2_with fail
  refine (may_no H0.out wNothing (by decide) HI0'.out).mono ?_; rintro e w1 ⟨rfl, h1⟩
  have H1 := Lib.hid h1; clear h1
  go_wp2_with fail
  refine (may_no H1.out wPause (by decide) HI1'.out).mono ?_; rintro e w2 ⟨rfl, h2⟩
  have H2 := Lib.hid h2; clear h2
  go_wp2_with fail
  refine (may_no H2.out wHalt (by decide) HI2'.out).mono ?_; rintro e w3 ⟨rfl, h3⟩
  have H3 := Lib.hid h3; clear h3
  go_wp2_with fail
  refine (may_no H3.out wEmit (by decide) HI3'.out).mono ?_; rintro e w4 ⟨rfl, h4⟩
  have H4 := Lib.hid h4; clear h4
  go_wp2_with fail
  refine (may_no H4.out wAwait (by decide) HI4'.out).mono ?_; rintro e w5 ⟨rfl, h5⟩
  have H5 := Lib.hid h5; clear h5
  go_wp2_with fail
  refine (may_no H5.out wIf (by decide) HI5'.out).mono ?_; rintro e w6 ⟨rfl, h6⟩
  have H6 := Lib.hid h6; clear h6
  go_wp2_with fail
  refine (may_no H6.out wWas (by decide) HI6'.out).mono ?_; rintro e w7 ⟨rfl, h7⟩
  have H7 := Lib.hid h7; clear h7
  go_wp2_with fail
  refine (must_no H7.out wOpen (by decide) HI7'.out).mono ?_; rintro e w8 ⟨rfl, x8⟩
  go_wp2
  exact ⟨rfl, rfl, x8⟩
set_option maxHeartbeats 2000000 in
theorem node_leaf0 {W0 : World} {g : Nat} {w : World} {s : List UInt8} {ps : List PNode} (h : RS W0 g w s ps) (hl : ps.length < 14) (hi0 : isP wNothing s = true) :
    Calls Try.prog 19 #[.pointer (some ⟨g, 0, none⟩)] w fun e w' => e = .returned (.tuple #[]) ∧ RS W0 g w' (restP wNothing s) (ps ++ [⟨0, 0⟩]) := by
  have H0 := Lib.hid h; clear h
  have HI0' := Lib.hid hi0; clear hi0
  go_enter Try.func19, Try.ntmps19
  go_wp2_with fail
  refine (may_yes H0.out wNothing (by decide) HI0'.out).mono ?_; rintro e w1 ⟨rfl, h1⟩
  have H1 := Lib.hid h1; clear h1
  go_wp2_with fail
  refine (put_ok H1.out 0 0 hl).mono ?_; rintro e w2 ⟨rfl, h2⟩
  have H2 := Lib.hid h2; clear h2
  go_wp2
  go_end0
  exact ⟨rfl, H2.out⟩
set_option maxHeartbeats 2000000 in
theorem node_leaf1 {W0 : World} {g : Nat} {w : World} {s : List UInt8} {ps : List PNode} (h : RS W0 g w s ps) (hl : ps.length < 14) (hi0 : isP wNothing s = false) (hi1 : isP wPause s = true) :
    Calls Try.prog 19 #[.pointer (some ⟨g, 0, none⟩)] w fun e w' => e = .returned (.tuple #[]) ∧ RS W0 g w' (restP wPause s) (ps ++ [⟨1, 0⟩]) := by
  have H0 := Lib.hid h; clear h
  have HI0' := Lib.hid hi0; clear hi0
  have HI1' := Lib.hid hi1; clear hi1
  go_enter Try.func19, Try.ntmps19
  go_wp2_with fail
  refine (may_no H0.out wNothing (by decide) HI0'.out).mono ?_; rintro e w1 ⟨rfl, h1⟩
  have H1 := Lib.hid h1; clear h1
  go_wp2_with fail
  refine (may_yes H1.out wPause (by decide) HI1'.out).mono ?_; rintro e w2 ⟨rfl, h2⟩
  have H2 := Lib.hid h2; clear h2
  go_wp2_with fail
  refine (put_ok H2.out 1 0 hl).mono ?_; rintro e w3 ⟨rfl, h3⟩
  have H3 := Lib.hid h3; clear h3
  go_wp2
  go_end0
  exact ⟨rfl, H3.out⟩
set_option maxHeartbeats 2000000 in
theorem node_leaf2 {W0 : World} {g : Nat} {w : World} {s : List UInt8} {ps : List PNode} (h : RS W0 g w s ps) (hl : ps.length < 14) (hi0 : isP wNothing s = false) (hi1 : isP wPause s = false) (hi2 : isP wHalt s = true) :
    Calls Try.prog 19 #[.pointer (some ⟨g, 0, none⟩)] w fun e w' => e = .returned (.tuple #[]) ∧ RS W0 g w' (restP wHalt s) (ps ++ [⟨2, 0⟩]) := by
  have H0 := Lib.hid h; clear h
  have HI0' := Lib.hid hi0; clear hi0
  have HI1' := Lib.hid hi1; clear hi1
  have HI2' := Lib.hid hi2; clear hi2
  go_enter Try.func19, Try.ntmps19
  go_wp2_with fail
  refine (may_no H0.out wNothing (by decide) HI0'.out).mono ?_; rintro e w1 ⟨rfl, h1⟩
  have H1 := Lib.hid h1; clear h1
  go_wp2_with fail
  refine (may_no H1.out wPause (by decide) HI1'.out).mono ?_; rintro e w2 ⟨rfl, h2⟩
  have H2 := Lib.hid h2; clear h2
  go_wp2_with fail
  refine (may_yes H2.out wHalt (by decide) HI2'.out).mono ?_; rintro e w3 ⟨rfl, h3⟩
  have H3 := Lib.hid h3; clear h3
  go_wp2_with fail
  refine (put_ok H3.out 2 0 hl).mono ?_; rintro e w4 ⟨rfl, h4⟩
  have H4 := Lib.hid h4; clear h4
  go_wp2
  go_end0
  exact ⟨rfl, H4.out⟩
set_option maxHeartbeats 2000000 in
theorem node_leaf3 {W0 : World} {g : Nat} {w : World} {s : List UInt8} {ps : List PNode} (h : RS W0 g w s ps) (hl : ps.length < 14) (hi0 : isP wNothing s = false) (hi1 : isP wPause s = false) (hi2 : isP wHalt s = false) (hi3 : isP wEmit s = true) {q : Int × List UInt8} (hn : signP 65 (restP wEmit s) = some q) :
    Calls Try.prog 19 #[.pointer (some ⟨g, 0, none⟩)] w fun e w' => e = .returned (.tuple #[]) ∧ RS W0 g w' q.2 (ps ++ [⟨3, q.1⟩]) := by
  have hs := fun (Q : World) (hQ : RS W0 g Q (restP wEmit s) ps) => sign65_any hQ
  rw [hn] at hs
  obtain ⟨y, r⟩ := q
  have H0 := Lib.hid h; clear h
  have HI0' := Lib.hid hi0; clear hi0
  have HI1' := Lib.hid hi1; clear hi1
  have HI2' := Lib.hid hi2; clear hi2
  have HI3' := Lib.hid hi3; clear hi3
  have HN' := Lib.hid hn; clear hn
  have HS' := Lib.hid hs; clear hs
  go_enter Try.func19, Try.ntmps19
  go_wp2_with fail
  refine (may_no H0.out wNothing (by decide) HI0'.out).mono ?_; rintro e w1 ⟨rfl, h1⟩
  have H1 := Lib.hid h1; clear h1
  go_wp2_with fail
  refine (may_no H1.out wPause (by decide) HI1'.out).mono ?_; rintro e w2 ⟨rfl, h2⟩
  have H2 := Lib.hid h2; clear h2
  go_wp2_with fail
  refine (may_no H2.out wHalt (by decide) HI2'.out).mono ?_; rintro e w3 ⟨rfl, h3⟩
  have H3 := Lib.hid h3; clear h3
  go_wp2_with fail
  refine (may_yes H3.out wEmit (by decide) HI3'.out).mono ?_; rintro e w4 ⟨rfl, h4⟩
  have H4 := Lib.hid h4; clear h4
  go_wp2_with fail
  refine (HS'.out _ H4.out).mono ?_; rintro e w5 ⟨rfl, h5⟩
  have H5 := Lib.hid h5; clear h5
  go_wp2_with fail
  refine (put_ok H5.out 3 y hl).mono ?_; rintro e w6 ⟨rfl, h6⟩
  have H6 := Lib.hid h6; clear h6
  go_wp2
  go_end0
  exact ⟨rfl, H6.out⟩
set_option maxHeartbeats 2000000 in
theorem node_leaf4 {W0 : World} {g : Nat} {w : World} {s : List UInt8} {ps : List PNode} (h : RS W0 g w s ps) (hl : ps.length < 14) (hi0 : isP wNothing s = false) (hi1 : isP wPause s = false) (hi2 : isP wHalt s = false) (hi3 : isP wEmit s = false) (hi4 : isP wAwait s = true) {q : Int × List UInt8} (hn : signP 120 (restP wAwait s) = some q) :
    Calls Try.prog 19 #[.pointer (some ⟨g, 0, none⟩)] w fun e w' => e = .returned (.tuple #[]) ∧ RS W0 g w' q.2 (ps ++ [⟨4, q.1⟩]) := by
  have hs := fun (Q : World) (hQ : RS W0 g Q (restP wAwait s) ps) => sign120_any hQ
  rw [hn] at hs
  obtain ⟨y, r⟩ := q
  have H0 := Lib.hid h; clear h
  have HI0' := Lib.hid hi0; clear hi0
  have HI1' := Lib.hid hi1; clear hi1
  have HI2' := Lib.hid hi2; clear hi2
  have HI3' := Lib.hid hi3; clear hi3
  have HI4' := Lib.hid hi4; clear hi4
  have HN' := Lib.hid hn; clear hn
  have HS' := Lib.hid hs; clear hs
  go_enter Try.func19, Try.ntmps19
  go_wp2_with fail
  refine (may_no H0.out wNothing (by decide) HI0'.out).mono ?_; rintro e w1 ⟨rfl, h1⟩
  have H1 := Lib.hid h1; clear h1
  go_wp2_with fail
  refine (may_no H1.out wPause (by decide) HI1'.out).mono ?_; rintro e w2 ⟨rfl, h2⟩
  have H2 := Lib.hid h2; clear h2
  go_wp2_with fail
  refine (may_no H2.out wHalt (by decide) HI2'.out).mono ?_; rintro e w3 ⟨rfl, h3⟩
  have H3 := Lib.hid h3; clear h3
  go_wp2_with fail
  refine (may_no H3.out wEmit (by decide) HI3'.out).mono ?_; rintro e w4 ⟨rfl, h4⟩
  have H4 := Lib.hid h4; clear h4
  go_wp2_with fail
  refine (may_yes H4.out wAwait (by decide) HI4'.out).mono ?_; rintro e w5 ⟨rfl, h5⟩
  have H5 := Lib.hid h5; clear h5
  go_wp2_with fail
  refine (HS'.out _ H5.out).mono ?_; rintro e w6 ⟨rfl, h6⟩
  have H6 := Lib.hid h6; clear h6
  go_wp2_with fail
  refine (put_ok H6.out 4 y hl).mono ?_; rintro e w7 ⟨rfl, h7⟩
  have H7 := Lib.hid h7; clear h7
  go_wp2
  go_end0
  exact ⟨rfl, H7.out⟩
set_option maxHeartbeats 2000000 in
theorem node_fork5 {W0 : World} {g : Nat} {w : World} {s : List UInt8} {ps : List PNode} (h : RS W0 g w s ps) {n l : Nat} (hN : NodeOK n) (hl : ps.length + (l + 1) = 14) (hln : l < n) (hi0 : isP wNothing s = false) (hi1 : isP wPause s = false) (hi2 : isP wHalt s = false) (hi3 : isP wEmit s = false) (hi4 : isP wAwait s = false) (hi5 : isP wIf s = true) {q : Int × List UInt8} (hn : signP 120 (restP wIf s) = some q) {f : Tr × List UInt8} (hf : forkT (readT n) l ⟨7, q.1⟩ q.2 = some f) :
    Calls Try.prog 19 #[.pointer (some ⟨g, 0, none⟩)] w fun e w' => e = .returned (.tuple #[]) ∧ RS W0 g w' f.2 (ps ++ f.1.flat) := by
  have hs := fun (Q : World) (hQ : RS W0 g Q (restP wIf s) ps) => sign120_any hQ
  rw [hn] at hs
  obtain ⟨y, r⟩ := q
  have hk := fun (Q : World) (hQ : RS W0 g Q r (ps ++ [⟨7, y⟩])) => fork_any hN hQ (left := l) (by simp; omega) hln ⟨7, y⟩
  rw [hf] at hk
  have H0 := Lib.hid h; clear h
  have HI0' := Lib.hid hi0; clear hi0
  have HI1' := Lib.hid hi1; clear hi1
  have HI2' := Lib.hid hi2; clear hi2
  have HI3' := Lib.hid hi3; clear hi3
  have HI4' := Lib.hid hi4; clear hi4
  have HI5' := Lib.hid hi5; clear hi5
  have HN' := Lib.hid hn; clear hn
  have HS' := Lib.hid hs; clear hs
  have HK' := Lib.hid hk; clear hk
  have HN' := Lib.hid hN; clear hN
  have HF' := Lib.hid hf; clear hf
  go_enter Try.func19, Try.ntmps19
  go_wp2_with fail
  refine (may_no H0.out wNothing (by decide) HI0'.out).mono ?_; rintro e w1 ⟨rfl, h1⟩
  have H1 := Lib.hid h1; clear h1
  go_wp2_with fail
  refine (may_no H1.out wPause (by decide) HI1'.out).mono ?_; rintro e w2 ⟨rfl, h2⟩
  have H2 := Lib.hid h2; clear h2
  go_wp2_with fail
  refine (may_no H2.out wHalt (by decide) HI2'.out).mono ?_; rintro e w3 ⟨rfl, h3⟩
  have H3 := Lib.hid h3; clear h3
  go_wp2_with fail
  refine (may_no H3.out wEmit (by decide) HI3'.out).mono ?_; rintro e w4 ⟨rfl, h4⟩
  have H4 := Lib.hid h4; clear h4
  go_wp2_with fail
  refine (may_no H4.out wAwait (by decide) HI4'.out).mono ?_; rintro e w5 ⟨rfl, h5⟩
  have H5 := Lib.hid h5; clear h5
  go_wp2_with fail
  refine (may_yes H5.out wIf (by decide) HI5'.out).mono ?_; rintro e w6 ⟨rfl, h6⟩
  have H6 := Lib.hid h6; clear h6
  go_wp2_with fail
  refine (HS'.out _ H6.out).mono ?_; rintro e w7 ⟨rfl, h7⟩
  have H7 := Lib.hid h7; clear h7
  go_wp2_with fail
  refine (put_ok H7.out 7 y (by omega)).mono ?_; rintro e w8 ⟨rfl, h8⟩
  have H8 := Lib.hid h8; clear h8
  go_wp2_with fail
  refine (HK'.out _ H8.out).mono ?_; rintro e wz ⟨a, b, hq, rfl, hz⟩
  go_wp2
  go_end0
  exact ⟨rfl, by rw [hq, flat_two]; simpa using hz⟩
set_option maxHeartbeats 2000000 in
theorem node_forkno5 {W0 : World} {g : Nat} {w : World} {s : List UInt8} {ps : List PNode} (h : RS W0 g w s ps) {n l : Nat} (hN : NodeOK n) (hl : ps.length + (l + 1) = 14) (hln : l < n) (hi0 : isP wNothing s = false) (hi1 : isP wPause s = false) (hi2 : isP wHalt s = false) (hi3 : isP wEmit s = false) (hi4 : isP wAwait s = false) (hi5 : isP wIf s = true) {q : Int × List UInt8} (hn : signP 120 (restP wIf s) = some q) (hf : forkT (readT n) l ⟨7, q.1⟩ q.2 = none) :
    Calls Try.prog 19 #[.pointer (some ⟨g, 0, none⟩)] w fun e w' => e = .panicked [broken] ∧ Ext W0 w' := by
  have hs := fun (Q : World) (hQ : RS W0 g Q (restP wIf s) ps) => sign120_any hQ
  rw [hn] at hs
  obtain ⟨y, r⟩ := q
  have hk := fun (Q : World) (hQ : RS W0 g Q r (ps ++ [⟨7, y⟩])) => fork_any hN hQ (left := l) (by simp; omega) hln ⟨7, y⟩
  rw [hf] at hk
  have H0 := Lib.hid h; clear h
  have HI0' := Lib.hid hi0; clear hi0
  have HI1' := Lib.hid hi1; clear hi1
  have HI2' := Lib.hid hi2; clear hi2
  have HI3' := Lib.hid hi3; clear hi3
  have HI4' := Lib.hid hi4; clear hi4
  have HI5' := Lib.hid hi5; clear hi5
  have HN' := Lib.hid hn; clear hn
  have HS' := Lib.hid hs; clear hs
  have HK' := Lib.hid hk; clear hk
  have HN' := Lib.hid hN; clear hN
  have HF' := Lib.hid hf; clear hf
  go_enter Try.func19, Try.ntmps19
  go_wp2_with fail
  refine (may_no H0.out wNothing (by decide) HI0'.out).mono ?_; rintro e w1 ⟨rfl, h1⟩
  have H1 := Lib.hid h1; clear h1
  go_wp2_with fail
  refine (may_no H1.out wPause (by decide) HI1'.out).mono ?_; rintro e w2 ⟨rfl, h2⟩
  have H2 := Lib.hid h2; clear h2
  go_wp2_with fail
  refine (may_no H2.out wHalt (by decide) HI2'.out).mono ?_; rintro e w3 ⟨rfl, h3⟩
  have H3 := Lib.hid h3; clear h3
  go_wp2_with fail
  refine (may_no H3.out wEmit (by decide) HI3'.out).mono ?_; rintro e w4 ⟨rfl, h4⟩
  have H4 := Lib.hid h4; clear h4
  go_wp2_with fail
  refine (may_no H4.out wAwait (by decide) HI4'.out).mono ?_; rintro e w5 ⟨rfl, h5⟩
  have H5 := Lib.hid h5; clear h5
  go_wp2_with fail
  refine (may_yes H5.out wIf (by decide) HI5'.out).mono ?_; rintro e w6 ⟨rfl, h6⟩
  have H6 := Lib.hid h6; clear h6
  go_wp2_with fail
  refine (HS'.out _ H6.out).mono ?_; rintro e w7 ⟨rfl, h7⟩
  have H7 := Lib.hid h7; clear h7
  go_wp2_with fail
  refine (put_ok H7.out 7 y (by omega)).mono ?_; rintro e w8 ⟨rfl, h8⟩
  have H8 := Lib.hid h8; clear h8
  go_wp2_with fail
  refine (HK'.out _ H8.out).mono ?_; rintro e w9 ⟨rfl, x9⟩
  go_wp2
  exact ⟨rfl, rfl, x9⟩
set_option maxHeartbeats 2000000 in
theorem node_fork6 {W0 : World} {g : Nat} {w : World} {s : List UInt8} {ps : List PNode} (h : RS W0 g w s ps) {n l : Nat} (hN : NodeOK n) (hl : ps.length + (l + 1) = 14) (hln : l < n) (hi0 : isP wNothing s = false) (hi1 : isP wPause s = false) (hi2 : isP wHalt s = false) (hi3 : isP wEmit s = false) (hi4 : isP wAwait s = false) (hi5 : isP wIf s = false) (hi6 : isP wWas s = true) {q : Int × List UInt8} (hn : signP 65 (restP wWas s) = some q) {f : Tr × List UInt8} (hf : forkT (readT n) l ⟨8, q.1⟩ q.2 = some f) :
    Calls Try.prog 19 #[.pointer (some ⟨g, 0, none⟩)] w fun e w' => e = .returned (.tuple #[]) ∧ RS W0 g w' f.2 (ps ++ f.1.flat) := by
  have hs := fun (Q : World) (hQ : RS W0 g Q (restP wWas s) ps) => sign65_any hQ
  rw [hn] at hs
  obtain ⟨y, r⟩ := q
  have hk := fun (Q : World) (hQ : RS W0 g Q r (ps ++ [⟨8, y⟩])) => fork_any hN hQ (left := l) (by simp; omega) hln ⟨8, y⟩
  rw [hf] at hk
  have H0 := Lib.hid h; clear h
  have HI0' := Lib.hid hi0; clear hi0
  have HI1' := Lib.hid hi1; clear hi1
  have HI2' := Lib.hid hi2; clear hi2
  have HI3' := Lib.hid hi3; clear hi3
  have HI4' := Lib.hid hi4; clear hi4
  have HI5' := Lib.hid hi5; clear hi5
  have HI6' := Lib.hid hi6; clear hi6
  have HN' := Lib.hid hn; clear hn
  have HS' := Lib.hid hs; clear hs
  have HK' := Lib.hid hk; clear hk
  have HN' := Lib.hid hN; clear hN
  have HF' := Lib.hid hf; clear hf
  go_enter Try.func19, Try.ntmps19
  go_wp2_with fail
  refine (may_no H0.out wNothing (by decide) HI0'.out).mono ?_; rintro e w1 ⟨rfl, h1⟩
  have H1 := Lib.hid h1; clear h1
  go_wp2_with fail
  refine (may_no H1.out wPause (by decide) HI1'.out).mono ?_; rintro e w2 ⟨rfl, h2⟩
  have H2 := Lib.hid h2; clear h2
  go_wp2_with fail
  refine (may_no H2.out wHalt (by decide) HI2'.out).mono ?_; rintro e w3 ⟨rfl, h3⟩
  have H3 := Lib.hid h3; clear h3
  go_wp2_with fail
  refine (may_no H3.out wEmit (by decide) HI3'.out).mono ?_; rintro e w4 ⟨rfl, h4⟩
  have H4 := Lib.hid h4; clear h4
  go_wp2_with fail
  refine (may_no H4.out wAwait (by decide) HI4'.out).mono ?_; rintro e w5 ⟨rfl, h5⟩
  have H5 := Lib.hid h5; clear h5
  go_wp2_with fail
  refine (may_no H5.out wIf (by decide) HI5'.out).mono ?_; rintro e w6 ⟨rfl, h6⟩
  have H6 := Lib.hid h6; clear h6
  go_wp2_with fail
  refine (may_yes H6.out wWas (by decide) HI6'.out).mono ?_; rintro e w7 ⟨rfl, h7⟩
  have H7 := Lib.hid h7; clear h7
  go_wp2_with fail
  refine (HS'.out _ H7.out).mono ?_; rintro e w8 ⟨rfl, h8⟩
  have H8 := Lib.hid h8; clear h8
  go_wp2_with fail
  refine (put_ok H8.out 8 y (by omega)).mono ?_; rintro e w9 ⟨rfl, h9⟩
  have H9 := Lib.hid h9; clear h9
  go_wp2_with fail
  refine (HK'.out _ H9.out).mono ?_; rintro e wz ⟨a, b, hq, rfl, hz⟩
  go_wp2
  go_end0
  exact ⟨rfl, by rw [hq, flat_two]; simpa using hz⟩
set_option maxHeartbeats 2000000 in
theorem node_forkno6 {W0 : World} {g : Nat} {w : World} {s : List UInt8} {ps : List PNode} (h : RS W0 g w s ps) {n l : Nat} (hN : NodeOK n) (hl : ps.length + (l + 1) = 14) (hln : l < n) (hi0 : isP wNothing s = false) (hi1 : isP wPause s = false) (hi2 : isP wHalt s = false) (hi3 : isP wEmit s = false) (hi4 : isP wAwait s = false) (hi5 : isP wIf s = false) (hi6 : isP wWas s = true) {q : Int × List UInt8} (hn : signP 65 (restP wWas s) = some q) (hf : forkT (readT n) l ⟨8, q.1⟩ q.2 = none) :
    Calls Try.prog 19 #[.pointer (some ⟨g, 0, none⟩)] w fun e w' => e = .panicked [broken] ∧ Ext W0 w' := by
  have hs := fun (Q : World) (hQ : RS W0 g Q (restP wWas s) ps) => sign65_any hQ
  rw [hn] at hs
  obtain ⟨y, r⟩ := q
  have hk := fun (Q : World) (hQ : RS W0 g Q r (ps ++ [⟨8, y⟩])) => fork_any hN hQ (left := l) (by simp; omega) hln ⟨8, y⟩
  rw [hf] at hk
  have H0 := Lib.hid h; clear h
  have HI0' := Lib.hid hi0; clear hi0
  have HI1' := Lib.hid hi1; clear hi1
  have HI2' := Lib.hid hi2; clear hi2
  have HI3' := Lib.hid hi3; clear hi3
  have HI4' := Lib.hid hi4; clear hi4
  have HI5' := Lib.hid hi5; clear hi5
  have HI6' := Lib.hid hi6; clear hi6
  have HN' := Lib.hid hn; clear hn
  have HS' := Lib.hid hs; clear hs
  have HK' := Lib.hid hk; clear hk
  have HN' := Lib.hid hN; clear hN
  have HF' := Lib.hid hf; clear hf
  go_enter Try.func19, Try.ntmps19
  go_wp2_with fail
  refine (may_no H0.out wNothing (by decide) HI0'.out).mono ?_; rintro e w1 ⟨rfl, h1⟩
  have H1 := Lib.hid h1; clear h1
  go_wp2_with fail
  refine (may_no H1.out wPause (by decide) HI1'.out).mono ?_; rintro e w2 ⟨rfl, h2⟩
  have H2 := Lib.hid h2; clear h2
  go_wp2_with fail
  refine (may_no H2.out wHalt (by decide) HI2'.out).mono ?_; rintro e w3 ⟨rfl, h3⟩
  have H3 := Lib.hid h3; clear h3
  go_wp2_with fail
  refine (may_no H3.out wEmit (by decide) HI3'.out).mono ?_; rintro e w4 ⟨rfl, h4⟩
  have H4 := Lib.hid h4; clear h4
  go_wp2_with fail
  refine (may_no H4.out wAwait (by decide) HI4'.out).mono ?_; rintro e w5 ⟨rfl, h5⟩
  have H5 := Lib.hid h5; clear h5
  go_wp2_with fail
  refine (may_no H5.out wIf (by decide) HI5'.out).mono ?_; rintro e w6 ⟨rfl, h6⟩
  have H6 := Lib.hid h6; clear h6
  go_wp2_with fail
  refine (may_yes H6.out wWas (by decide) HI6'.out).mono ?_; rintro e w7 ⟨rfl, h7⟩
  have H7 := Lib.hid h7; clear h7
  go_wp2_with fail
  refine (HS'.out _ H7.out).mono ?_; rintro e w8 ⟨rfl, h8⟩
  have H8 := Lib.hid h8; clear h8
  go_wp2_with fail
  refine (put_ok H8.out 8 y (by omega)).mono ?_; rintro e w9 ⟨rfl, h9⟩
  have H9 := Lib.hid h9; clear h9
  go_wp2_with fail
  refine (HK'.out _ H9.out).mono ?_; rintro e w10 ⟨rfl, x10⟩
  go_wp2
  exact ⟨rfl, rfl, x10⟩
set_option maxHeartbeats 2000000 in
theorem open_a {W0 : World} {g : Nat} {w : World} {s : List UInt8} {ps : List PNode} (h : RS W0 g w s ps) {n l : Nat} (hN : NodeOK n) (hl : ps.length + (l + 1) = 14) (hln : l < n) (hi0 : isP wNothing s = false) (hi1 : isP wPause s = false) (hi2 : isP wHalt s = false) (hi3 : isP wEmit s = false) (hi4 : isP wAwait s = false) (hi5 : isP wIf s = false) (hi6 : isP wWas s = false) (hi7 : isP wOpen s = true) (ha : readT n l (restP wOpen s) = none) :
    Calls Try.prog 19 #[.pointer (some ⟨g, 0, none⟩)] w fun e w' => e = .panicked [broken] ∧ Ext W0 w' := by
  have hl1 : (ps ++ [(⟨5, 0⟩ : PNode)]).length + l = 14 := by simp; omega
  have H0 := Lib.hid h; clear h
  have HI0' := Lib.hid hi0; clear hi0
  have HI1' := Lib.hid hi1; clear hi1
  have HI2' := Lib.hid hi2; clear hi2
  have HI3' := Lib.hid hi3; clear hi3
  have HI4' := Lib.hid hi4; clear hi4
  have HI5' := Lib.hid hi5; clear hi5
  have HI6' := Lib.hid hi6; clear hi6
  have HI7' := Lib.hid hi7; clear hi7
  have HN' := Lib.hid hN; clear hN
  have HA' := Lib.hid ha; clear ha
  have HL1' := Lib.hid hl1; clear hl1
  go_enter Try.func19, Try.ntmps19
  go_wp2_with fail
  refine (may_no H0.out wNothing (by decide) HI0'.out).mono ?_; rintro e w1 ⟨rfl, h1⟩
  have H1 := Lib.hid h1; clear h1
  go_wp2_with fail
  refine (may_no H1.out wPause (by decide) HI1'.out).mono ?_; rintro e w2 ⟨rfl, h2⟩
  have H2 := Lib.hid h2; clear h2
  go_wp2_with fail
  refine (may_no H2.out wHalt (by decide) HI2'.out).mono ?_; rintro e w3 ⟨rfl, h3⟩
  have H3 := Lib.hid h3; clear h3
  go_wp2_with fail
  refine (may_no H3.out wEmit (by decide) HI3'.out).mono ?_; rintro e w4 ⟨rfl, h4⟩
  have H4 := Lib.hid h4; clear h4
  go_wp2_with fail
  refine (may_no H4.out wAwait (by decide) HI4'.out).mono ?_; rintro e w5 ⟨rfl, h5⟩
  have H5 := Lib.hid h5; clear h5
  go_wp2_with fail
  refine (may_no H5.out wIf (by decide) HI5'.out).mono ?_; rintro e w6 ⟨rfl, h6⟩
  have H6 := Lib.hid h6; clear h6
  go_wp2_with fail
  refine (may_no H6.out wWas (by decide) HI6'.out).mono ?_; rintro e w7 ⟨rfl, h7⟩
  have H7 := Lib.hid h7; clear h7
  go_wp2_with fail
  refine (must_yes' H7.out wOpen (by decide) HI7'.out).mono ?_; rintro e w8 ⟨rfl, h8⟩
  have H8 := Lib.hid h8; clear h8
  go_wp2_with fail
  refine (put_ok H8.out 5 0 (by omega)).mono ?_; rintro e w9 ⟨rfl, h9⟩
  have H9 := Lib.hid h9; clear h9
  go_wp2_with fail
  refine (HN'.out.no H9.out HL1'.out hln HA'.out).mono ?_; rintro e w10 ⟨rfl, x10⟩
  go_wp2
  exact ⟨rfl, rfl, x10⟩
set_option maxHeartbeats 2000000 in
theorem open_nosemi {W0 : World} {g : Nat} {w : World} {s : List UInt8} {ps : List PNode} (h : RS W0 g w s ps) {n l : Nat} (hN : NodeOK n) (hl : ps.length + (l + 1) = 14) (hln : l < n) (hi0 : isP wNothing s = false) (hi1 : isP wPause s = false) (hi2 : isP wHalt s = false) (hi3 : isP wEmit s = false) (hi4 : isP wAwait s = false) (hi5 : isP wIf s = false) (hi6 : isP wWas s = false) (hi7 : isP wOpen s = true) {qa : Tr × List UInt8} (ha : readT n l (restP wOpen s) = some qa) (hb : isP wBar qa.2 = false) (hm : isP wSemi qa.2 = false) :
    Calls Try.prog 19 #[.pointer (some ⟨g, 0, none⟩)] w fun e w' => e = .panicked [broken] ∧ Ext W0 w' := by
  have hl1 : (ps ++ [(⟨5, 0⟩ : PNode)]).length + l = 14 := by simp; omega
  have hl2 : ((ps ++ [(⟨5, 0⟩ : PNode)]) ++ qa.1.flat).length + (l - qa.1.size) = 14 := by have := read_small (t := qa.1) (r := qa.2) ha; simp [flat_size]; omega
  have hl3 : l - qa.1.size < n := by omega
  have H0 := Lib.hid h; clear h
  have HM' := Lib.hid hm; clear hm
  have HI0' := Lib.hid hi0; clear hi0
  have HI1' := Lib.hid hi1; clear hi1
  have HI2' := Lib.hid hi2; clear hi2
  have HI3' := Lib.hid hi3; clear hi3
  have HI4' := Lib.hid hi4; clear hi4
  have HI5' := Lib.hid hi5; clear hi5
  have HI6' := Lib.hid hi6; clear hi6
  have HI7' := Lib.hid hi7; clear hi7
  have HN' := Lib.hid hN; clear hN
  have HA' := Lib.hid ha; clear ha
  have HB' := Lib.hid hb; clear hb
  have HL1' := Lib.hid hl1; clear hl1
  have HL2' := Lib.hid hl2; clear hl2
  go_enter Try.func19, Try.ntmps19
  go_wp2_with fail
  refine (may_no H0.out wNothing (by decide) HI0'.out).mono ?_; rintro e w1 ⟨rfl, h1⟩
  have H1 := Lib.hid h1; clear h1
  go_wp2_with fail
  refine (may_no H1.out wPause (by decide) HI1'.out).mono ?_; rintro e w2 ⟨rfl, h2⟩
  have H2 := Lib.hid h2; clear h2
  go_wp2_with fail
  refine (may_no H2.out wHalt (by decide) HI2'.out).mono ?_; rintro e w3 ⟨rfl, h3⟩
  have H3 := Lib.hid h3; clear h3
  go_wp2_with fail
  refine (may_no H3.out wEmit (by decide) HI3'.out).mono ?_; rintro e w4 ⟨rfl, h4⟩
  have H4 := Lib.hid h4; clear h4
  go_wp2_with fail
  refine (may_no H4.out wAwait (by decide) HI4'.out).mono ?_; rintro e w5 ⟨rfl, h5⟩
  have H5 := Lib.hid h5; clear h5
  go_wp2_with fail
  refine (may_no H5.out wIf (by decide) HI5'.out).mono ?_; rintro e w6 ⟨rfl, h6⟩
  have H6 := Lib.hid h6; clear h6
  go_wp2_with fail
  refine (may_no H6.out wWas (by decide) HI6'.out).mono ?_; rintro e w7 ⟨rfl, h7⟩
  have H7 := Lib.hid h7; clear h7
  go_wp2_with fail
  refine (must_yes' H7.out wOpen (by decide) HI7'.out).mono ?_; rintro e w8 ⟨rfl, h8⟩
  have H8 := Lib.hid h8; clear h8
  go_wp2_with fail
  refine (put_ok H8.out 5 0 (by omega)).mono ?_; rintro e w9 ⟨rfl, h9⟩
  have H9 := Lib.hid h9; clear h9
  go_wp2_with fail
  refine (HN'.out.yes H9.out HL1'.out hln HA'.out).mono ?_; rintro e w10 ⟨rfl, h10⟩
  have H10 := Lib.hid h10; clear h10
  go_wp2_with fail
  refine (may_no H10.out wBar (by decide) HB'.out).mono ?_; rintro e w11 ⟨rfl, h11⟩
  have H11 := Lib.hid h11; clear h11
  go_wp2_with fail
  refine (must_no H11.out wSemi (by decide) HM'.out).mono ?_; rintro e w12 ⟨rfl, x12⟩
  go_wp2
  exact ⟨rfl, rfl, x12⟩
set_option maxHeartbeats 2000000 in
theorem open_bar_b {W0 : World} {g : Nat} {w : World} {s : List UInt8} {ps : List PNode} (h : RS W0 g w s ps) {n l : Nat} (hN : NodeOK n) (hl : ps.length + (l + 1) = 14) (hln : l < n) (hi0 : isP wNothing s = false) (hi1 : isP wPause s = false) (hi2 : isP wHalt s = false) (hi3 : isP wEmit s = false) (hi4 : isP wAwait s = false) (hi5 : isP wIf s = false) (hi6 : isP wWas s = false) (hi7 : isP wOpen s = true) {qa : Tr × List UInt8} (ha : readT n l (restP wOpen s) = some qa) (hb : isP wBar qa.2 = true) (hc : readT n (l - qa.1.size) (restP wBar qa.2) = none) :
    Calls Try.prog 19 #[.pointer (some ⟨g, 0, none⟩)] w fun e w' => e = .panicked [broken] ∧ Ext W0 w' := by
  have hl1 : (ps ++ [(⟨5, 0⟩ : PNode)]).length + l = 14 := by simp; omega
  have hl2 : ((ps ++ [(⟨5, 0⟩ : PNode)]) ++ qa.1.flat).length + (l - qa.1.size) = 14 := by have := read_small (t := qa.1) (r := qa.2) ha; simp [flat_size]; omega
  have hl3 : l - qa.1.size < n := by omega
  have H0 := Lib.hid h; clear h
  have HI0' := Lib.hid hi0; clear hi0
  have HI1' := Lib.hid hi1; clear hi1
  have HI2' := Lib.hid hi2; clear hi2
  have HI3' := Lib.hid hi3; clear hi3
  have HI4' := Lib.hid hi4; clear hi4
  have HI5' := Lib.hid hi5; clear hi5
  have HI6' := Lib.hid hi6; clear hi6
  have HI7' := Lib.hid hi7; clear hi7
  have HN' := Lib.hid hN; clear hN
  have HA' := Lib.hid ha; clear ha
  have HB' := Lib.hid hb; clear hb
  have HL1' := Lib.hid hl1; clear hl1
  have HL2' := Lib.hid hl2; clear hl2
  have HC' := Lib.hid hc; clear hc
  go_enter Try.func19, Try.ntmps19
  go_wp2_with fail
  refine (may_no H0.out wNothing (by decide) HI0'.out).mono ?_; rintro e w1 ⟨rfl, h1⟩
  have H1 := Lib.hid h1; clear h1
  go_wp2_with fail
  refine (may_no H1.out wPause (by decide) HI1'.out).mono ?_; rintro e w2 ⟨rfl, h2⟩
  have H2 := Lib.hid h2; clear h2
  go_wp2_with fail
  refine (may_no H2.out wHalt (by decide) HI2'.out).mono ?_; rintro e w3 ⟨rfl, h3⟩
  have H3 := Lib.hid h3; clear h3
  go_wp2_with fail
  refine (may_no H3.out wEmit (by decide) HI3'.out).mono ?_; rintro e w4 ⟨rfl, h4⟩
  have H4 := Lib.hid h4; clear h4
  go_wp2_with fail
  refine (may_no H4.out wAwait (by decide) HI4'.out).mono ?_; rintro e w5 ⟨rfl, h5⟩
  have H5 := Lib.hid h5; clear h5
  go_wp2_with fail
  refine (may_no H5.out wIf (by decide) HI5'.out).mono ?_; rintro e w6 ⟨rfl, h6⟩
  have H6 := Lib.hid h6; clear h6
  go_wp2_with fail
  refine (may_no H6.out wWas (by decide) HI6'.out).mono ?_; rintro e w7 ⟨rfl, h7⟩
  have H7 := Lib.hid h7; clear h7
  go_wp2_with fail
  refine (must_yes' H7.out wOpen (by decide) HI7'.out).mono ?_; rintro e w8 ⟨rfl, h8⟩
  have H8 := Lib.hid h8; clear h8
  go_wp2_with fail
  refine (put_ok H8.out 5 0 (by omega)).mono ?_; rintro e w9 ⟨rfl, h9⟩
  have H9 := Lib.hid h9; clear h9
  go_wp2_with fail
  refine (HN'.out.yes H9.out HL1'.out hln HA'.out).mono ?_; rintro e w10 ⟨rfl, h10⟩
  have H10 := Lib.hid h10; clear h10
  go_wp2_with fail
  refine (may_yes H10.out wBar (by decide) HB'.out).mono ?_; rintro e w11 ⟨rfl, h11⟩
  rw [List.append_assoc] at h11
  obtain ⟨bk, ck, k1, k2, k3, h12⟩ := h11.kind 6
  have hk0 := (ps.length : Nat)
  have H12 := Lib.hid h12; clear h12 h11
  go_wp2_with fail
  clear k1 k2 k3
  have HL4 : Hid ((ps ++ (⟨6, 0⟩ : PNode) :: qa.1.flat).length + (l - qa.1.size) = 14) := by have := HL2'.out; unfold Hid; simpa using this
  refine (HN'.out.no H12.out HL4.out hl3 HC'.out).mono ?_; rintro e w13 ⟨rfl, x13⟩
  go_wp2
  exact ⟨rfl, rfl, x13⟩
set_option maxHeartbeats 2000000 in
theorem open_bar_e {W0 : World} {g : Nat} {w : World} {s : List UInt8} {ps : List PNode} (h : RS W0 g w s ps) {n l : Nat} (hN : NodeOK n) (hl : ps.length + (l + 1) = 14) (hln : l < n) (hi0 : isP wNothing s = false) (hi1 : isP wPause s = false) (hi2 : isP wHalt s = false) (hi3 : isP wEmit s = false) (hi4 : isP wAwait s = false) (hi5 : isP wIf s = false) (hi6 : isP wWas s = false) (hi7 : isP wOpen s = true) {qa : Tr × List UInt8} (ha : readT n l (restP wOpen s) = some qa) (hb : isP wBar qa.2 = true) {qb : Tr × List UInt8} (hc : readT n (l - qa.1.size) (restP wBar qa.2) = some qb) (hd : isP wClose qb.2 = false) :
    Calls Try.prog 19 #[.pointer (some ⟨g, 0, none⟩)] w fun e w' => e = .panicked [broken] ∧ Ext W0 w' := by
  have hl1 : (ps ++ [(⟨5, 0⟩ : PNode)]).length + l = 14 := by simp; omega
  have hl2 : ((ps ++ [(⟨5, 0⟩ : PNode)]) ++ qa.1.flat).length + (l - qa.1.size) = 14 := by have := read_small (t := qa.1) (r := qa.2) ha; simp [flat_size]; omega
  have hl3 : l - qa.1.size < n := by omega
  have H0 := Lib.hid h; clear h
  have HI0' := Lib.hid hi0; clear hi0
  have HI1' := Lib.hid hi1; clear hi1
  have HI2' := Lib.hid hi2; clear hi2
  have HI3' := Lib.hid hi3; clear hi3
  have HI4' := Lib.hid hi4; clear hi4
  have HI5' := Lib.hid hi5; clear hi5
  have HI6' := Lib.hid hi6; clear hi6
  have HI7' := Lib.hid hi7; clear hi7
  have HN' := Lib.hid hN; clear hN
  have HA' := Lib.hid ha; clear ha
  have HB' := Lib.hid hb; clear hb
  have HL1' := Lib.hid hl1; clear hl1
  have HL2' := Lib.hid hl2; clear hl2
  have HC' := Lib.hid hc; clear hc
  have HD' := Lib.hid hd; clear hd
  go_enter Try.func19, Try.ntmps19
  go_wp2_with fail
  refine (may_no H0.out wNothing (by decide) HI0'.out).mono ?_; rintro e w1 ⟨rfl, h1⟩
  have H1 := Lib.hid h1; clear h1
  go_wp2_with fail
  refine (may_no H1.out wPause (by decide) HI1'.out).mono ?_; rintro e w2 ⟨rfl, h2⟩
  have H2 := Lib.hid h2; clear h2
  go_wp2_with fail
  refine (may_no H2.out wHalt (by decide) HI2'.out).mono ?_; rintro e w3 ⟨rfl, h3⟩
  have H3 := Lib.hid h3; clear h3
  go_wp2_with fail
  refine (may_no H3.out wEmit (by decide) HI3'.out).mono ?_; rintro e w4 ⟨rfl, h4⟩
  have H4 := Lib.hid h4; clear h4
  go_wp2_with fail
  refine (may_no H4.out wAwait (by decide) HI4'.out).mono ?_; rintro e w5 ⟨rfl, h5⟩
  have H5 := Lib.hid h5; clear h5
  go_wp2_with fail
  refine (may_no H5.out wIf (by decide) HI5'.out).mono ?_; rintro e w6 ⟨rfl, h6⟩
  have H6 := Lib.hid h6; clear h6
  go_wp2_with fail
  refine (may_no H6.out wWas (by decide) HI6'.out).mono ?_; rintro e w7 ⟨rfl, h7⟩
  have H7 := Lib.hid h7; clear h7
  go_wp2_with fail
  refine (must_yes' H7.out wOpen (by decide) HI7'.out).mono ?_; rintro e w8 ⟨rfl, h8⟩
  have H8 := Lib.hid h8; clear h8
  go_wp2_with fail
  refine (put_ok H8.out 5 0 (by omega)).mono ?_; rintro e w9 ⟨rfl, h9⟩
  have H9 := Lib.hid h9; clear h9
  go_wp2_with fail
  refine (HN'.out.yes H9.out HL1'.out hln HA'.out).mono ?_; rintro e w10 ⟨rfl, h10⟩
  have H10 := Lib.hid h10; clear h10
  go_wp2_with fail
  refine (may_yes H10.out wBar (by decide) HB'.out).mono ?_; rintro e w11 ⟨rfl, h11⟩
  rw [List.append_assoc] at h11
  obtain ⟨bk, ck, k1, k2, k3, h12⟩ := h11.kind 6
  have hk0 := (ps.length : Nat)
  have H12 := Lib.hid h12; clear h12 h11
  go_wp2_with fail
  clear k1 k2 k3
  have HL4 : Hid ((ps ++ (⟨6, 0⟩ : PNode) :: qa.1.flat).length + (l - qa.1.size) = 14) := by have := HL2'.out; unfold Hid; simpa using this
  refine (HN'.out.yes H12.out HL4.out hl3 HC'.out).mono ?_; rintro e w13 ⟨rfl, h13⟩
  have H13 := Lib.hid h13; clear h13
  go_wp2_with fail
  refine (must_no H13.out wClose (by decide) HD'.out).mono ?_; rintro e w14 ⟨rfl, x14⟩
  go_wp2
  exact ⟨rfl, rfl, x14⟩
set_option maxHeartbeats 2000000 in
theorem open_bar_ok {W0 : World} {g : Nat} {w : World} {s : List UInt8} {ps : List PNode} (h : RS W0 g w s ps) {n l : Nat} (hN : NodeOK n) (hl : ps.length + (l + 1) = 14) (hln : l < n) (hi0 : isP wNothing s = false) (hi1 : isP wPause s = false) (hi2 : isP wHalt s = false) (hi3 : isP wEmit s = false) (hi4 : isP wAwait s = false) (hi5 : isP wIf s = false) (hi6 : isP wWas s = false) (hi7 : isP wOpen s = true) {qa : Tr × List UInt8} (ha : readT n l (restP wOpen s) = some qa) (hb : isP wBar qa.2 = true) {qb : Tr × List UInt8} (hc : readT n (l - qa.1.size) (restP wBar qa.2) = some qb) (hd : isP wClose qb.2 = true) :
    Calls Try.prog 19 #[.pointer (some ⟨g, 0, none⟩)] w fun e w' => e = .returned (.tuple #[]) ∧ RS W0 g w' (restP wClose qb.2) (ps ++ (⟨6, 0⟩ :: (qa.1.flat ++ qb.1.flat))) := by
  have hl1 : (ps ++ [(⟨5, 0⟩ : PNode)]).length + l = 14 := by simp; omega
  have hl2 : ((ps ++ [(⟨5, 0⟩ : PNode)]) ++ qa.1.flat).length + (l - qa.1.size) = 14 := by have := read_small (t := qa.1) (r := qa.2) ha; simp [flat_size]; omega
  have hl3 : l - qa.1.size < n := by omega
  have H0 := Lib.hid h; clear h
  have HI0' := Lib.hid hi0; clear hi0
  have HI1' := Lib.hid hi1; clear hi1
  have HI2' := Lib.hid hi2; clear hi2
  have HI3' := Lib.hid hi3; clear hi3
  have HI4' := Lib.hid hi4; clear hi4
  have HI5' := Lib.hid hi5; clear hi5
  have HI6' := Lib.hid hi6; clear hi6
  have HI7' := Lib.hid hi7; clear hi7
  have HN' := Lib.hid hN; clear hN
  have HA' := Lib.hid ha; clear ha
  have HB' := Lib.hid hb; clear hb
  have HL1' := Lib.hid hl1; clear hl1
  have HL2' := Lib.hid hl2; clear hl2
  have HC' := Lib.hid hc; clear hc
  have HD' := Lib.hid hd; clear hd
  go_enter Try.func19, Try.ntmps19
  go_wp2_with fail
  refine (may_no H0.out wNothing (by decide) HI0'.out).mono ?_; rintro e w1 ⟨rfl, h1⟩
  have H1 := Lib.hid h1; clear h1
  go_wp2_with fail
  refine (may_no H1.out wPause (by decide) HI1'.out).mono ?_; rintro e w2 ⟨rfl, h2⟩
  have H2 := Lib.hid h2; clear h2
  go_wp2_with fail
  refine (may_no H2.out wHalt (by decide) HI2'.out).mono ?_; rintro e w3 ⟨rfl, h3⟩
  have H3 := Lib.hid h3; clear h3
  go_wp2_with fail
  refine (may_no H3.out wEmit (by decide) HI3'.out).mono ?_; rintro e w4 ⟨rfl, h4⟩
  have H4 := Lib.hid h4; clear h4
  go_wp2_with fail
  refine (may_no H4.out wAwait (by decide) HI4'.out).mono ?_; rintro e w5 ⟨rfl, h5⟩
  have H5 := Lib.hid h5; clear h5
  go_wp2_with fail
  refine (may_no H5.out wIf (by decide) HI5'.out).mono ?_; rintro e w6 ⟨rfl, h6⟩
  have H6 := Lib.hid h6; clear h6
  go_wp2_with fail
  refine (may_no H6.out wWas (by decide) HI6'.out).mono ?_; rintro e w7 ⟨rfl, h7⟩
  have H7 := Lib.hid h7; clear h7
  go_wp2_with fail
  refine (must_yes' H7.out wOpen (by decide) HI7'.out).mono ?_; rintro e w8 ⟨rfl, h8⟩
  have H8 := Lib.hid h8; clear h8
  go_wp2_with fail
  refine (put_ok H8.out 5 0 (by omega)).mono ?_; rintro e w9 ⟨rfl, h9⟩
  have H9 := Lib.hid h9; clear h9
  go_wp2_with fail
  refine (HN'.out.yes H9.out HL1'.out hln HA'.out).mono ?_; rintro e w10 ⟨rfl, h10⟩
  have H10 := Lib.hid h10; clear h10
  go_wp2_with fail
  refine (may_yes H10.out wBar (by decide) HB'.out).mono ?_; rintro e w11 ⟨rfl, h11⟩
  rw [List.append_assoc] at h11
  obtain ⟨bk, ck, k1, k2, k3, h12⟩ := h11.kind 6
  have hk0 := (ps.length : Nat)
  have H12 := Lib.hid h12; clear h12 h11
  go_wp2_with fail
  clear k1 k2 k3
  have HL4 : Hid ((ps ++ (⟨6, 0⟩ : PNode) :: qa.1.flat).length + (l - qa.1.size) = 14) := by have := HL2'.out; unfold Hid; simpa using this
  refine (HN'.out.yes H12.out HL4.out hl3 HC'.out).mono ?_; rintro e w13 ⟨rfl, h13⟩
  have H13 := Lib.hid h13; clear h13
  go_wp2_with fail
  refine (must_yes' H13.out wClose (by decide) HD'.out).mono ?_; rintro e w14 ⟨rfl, h14⟩
  have H14 := Lib.hid h14; clear h14
  go_wp2
  go_end0
  exact ⟨rfl, by have := H14.out; simpa using this⟩
set_option maxHeartbeats 2000000 in
theorem open_semi_b {W0 : World} {g : Nat} {w : World} {s : List UInt8} {ps : List PNode} (h : RS W0 g w s ps) {n l : Nat} (hN : NodeOK n) (hl : ps.length + (l + 1) = 14) (hln : l < n) (hi0 : isP wNothing s = false) (hi1 : isP wPause s = false) (hi2 : isP wHalt s = false) (hi3 : isP wEmit s = false) (hi4 : isP wAwait s = false) (hi5 : isP wIf s = false) (hi6 : isP wWas s = false) (hi7 : isP wOpen s = true) {qa : Tr × List UInt8} (ha : readT n l (restP wOpen s) = some qa) (hb : isP wBar qa.2 = false) (hm : isP wSemi qa.2 = true) (hc : readT n (l - qa.1.size) (restP wSemi qa.2) = none) :
    Calls Try.prog 19 #[.pointer (some ⟨g, 0, none⟩)] w fun e w' => e = .panicked [broken] ∧ Ext W0 w' := by
  have hl1 : (ps ++ [(⟨5, 0⟩ : PNode)]).length + l = 14 := by simp; omega
  have hl2 : ((ps ++ [(⟨5, 0⟩ : PNode)]) ++ qa.1.flat).length + (l - qa.1.size) = 14 := by have := read_small (t := qa.1) (r := qa.2) ha; simp [flat_size]; omega
  have hl3 : l - qa.1.size < n := by omega
  have H0 := Lib.hid h; clear h
  have HI0' := Lib.hid hi0; clear hi0
  have HI1' := Lib.hid hi1; clear hi1
  have HI2' := Lib.hid hi2; clear hi2
  have HI3' := Lib.hid hi3; clear hi3
  have HI4' := Lib.hid hi4; clear hi4
  have HI5' := Lib.hid hi5; clear hi5
  have HI6' := Lib.hid hi6; clear hi6
  have HI7' := Lib.hid hi7; clear hi7
  have HN' := Lib.hid hN; clear hN
  have HA' := Lib.hid ha; clear ha
  have HB' := Lib.hid hb; clear hb
  have HL1' := Lib.hid hl1; clear hl1
  have HL2' := Lib.hid hl2; clear hl2
  have HC' := Lib.hid hc; clear hc
  have HM' := Lib.hid hm; clear hm
  go_enter Try.func19, Try.ntmps19
  go_wp2_with fail
  refine (may_no H0.out wNothing (by decide) HI0'.out).mono ?_; rintro e w1 ⟨rfl, h1⟩
  have H1 := Lib.hid h1; clear h1
  go_wp2_with fail
  refine (may_no H1.out wPause (by decide) HI1'.out).mono ?_; rintro e w2 ⟨rfl, h2⟩
  have H2 := Lib.hid h2; clear h2
  go_wp2_with fail
  refine (may_no H2.out wHalt (by decide) HI2'.out).mono ?_; rintro e w3 ⟨rfl, h3⟩
  have H3 := Lib.hid h3; clear h3
  go_wp2_with fail
  refine (may_no H3.out wEmit (by decide) HI3'.out).mono ?_; rintro e w4 ⟨rfl, h4⟩
  have H4 := Lib.hid h4; clear h4
  go_wp2_with fail
  refine (may_no H4.out wAwait (by decide) HI4'.out).mono ?_; rintro e w5 ⟨rfl, h5⟩
  have H5 := Lib.hid h5; clear h5
  go_wp2_with fail
  refine (may_no H5.out wIf (by decide) HI5'.out).mono ?_; rintro e w6 ⟨rfl, h6⟩
  have H6 := Lib.hid h6; clear h6
  go_wp2_with fail
  refine (may_no H6.out wWas (by decide) HI6'.out).mono ?_; rintro e w7 ⟨rfl, h7⟩
  have H7 := Lib.hid h7; clear h7
  go_wp2_with fail
  refine (must_yes' H7.out wOpen (by decide) HI7'.out).mono ?_; rintro e w8 ⟨rfl, h8⟩
  have H8 := Lib.hid h8; clear h8
  go_wp2_with fail
  refine (put_ok H8.out 5 0 (by omega)).mono ?_; rintro e w9 ⟨rfl, h9⟩
  have H9 := Lib.hid h9; clear h9
  go_wp2_with fail
  refine (HN'.out.yes H9.out HL1'.out hln HA'.out).mono ?_; rintro e w10 ⟨rfl, h10⟩
  have H10 := Lib.hid h10; clear h10
  go_wp2_with fail
  refine (may_no H10.out wBar (by decide) HB'.out).mono ?_; rintro e w11 ⟨rfl, h11⟩
  have H11 := Lib.hid h11; clear h11
  go_wp2_with fail
  refine (must_yes' H11.out wSemi (by decide) HM'.out).mono ?_; rintro e w12 ⟨rfl, h12⟩
  have H12 := Lib.hid h12; clear h12
  go_wp2_with fail
  refine (HN'.out.no H12.out HL2'.out hl3 HC'.out).mono ?_; rintro e w13 ⟨rfl, x13⟩
  go_wp2
  exact ⟨rfl, rfl, x13⟩
set_option maxHeartbeats 2000000 in
theorem open_semi_e {W0 : World} {g : Nat} {w : World} {s : List UInt8} {ps : List PNode} (h : RS W0 g w s ps) {n l : Nat} (hN : NodeOK n) (hl : ps.length + (l + 1) = 14) (hln : l < n) (hi0 : isP wNothing s = false) (hi1 : isP wPause s = false) (hi2 : isP wHalt s = false) (hi3 : isP wEmit s = false) (hi4 : isP wAwait s = false) (hi5 : isP wIf s = false) (hi6 : isP wWas s = false) (hi7 : isP wOpen s = true) {qa : Tr × List UInt8} (ha : readT n l (restP wOpen s) = some qa) (hb : isP wBar qa.2 = false) (hm : isP wSemi qa.2 = true) {qb : Tr × List UInt8} (hc : readT n (l - qa.1.size) (restP wSemi qa.2) = some qb) (hd : isP wClose qb.2 = false) :
    Calls Try.prog 19 #[.pointer (some ⟨g, 0, none⟩)] w fun e w' => e = .panicked [broken] ∧ Ext W0 w' := by
  have hl1 : (ps ++ [(⟨5, 0⟩ : PNode)]).length + l = 14 := by simp; omega
  have hl2 : ((ps ++ [(⟨5, 0⟩ : PNode)]) ++ qa.1.flat).length + (l - qa.1.size) = 14 := by have := read_small (t := qa.1) (r := qa.2) ha; simp [flat_size]; omega
  have hl3 : l - qa.1.size < n := by omega
  have H0 := Lib.hid h; clear h
  have HI0' := Lib.hid hi0; clear hi0
  have HI1' := Lib.hid hi1; clear hi1
  have HI2' := Lib.hid hi2; clear hi2
  have HI3' := Lib.hid hi3; clear hi3
  have HI4' := Lib.hid hi4; clear hi4
  have HI5' := Lib.hid hi5; clear hi5
  have HI6' := Lib.hid hi6; clear hi6
  have HI7' := Lib.hid hi7; clear hi7
  have HN' := Lib.hid hN; clear hN
  have HA' := Lib.hid ha; clear ha
  have HB' := Lib.hid hb; clear hb
  have HL1' := Lib.hid hl1; clear hl1
  have HL2' := Lib.hid hl2; clear hl2
  have HC' := Lib.hid hc; clear hc
  have HM' := Lib.hid hm; clear hm
  have HD' := Lib.hid hd; clear hd
  go_enter Try.func19, Try.ntmps19
  go_wp2_with fail
  refine (may_no H0.out wNothing (by decide) HI0'.out).mono ?_; rintro e w1 ⟨rfl, h1⟩
  have H1 := Lib.hid h1; clear h1
  go_wp2_with fail
  refine (may_no H1.out wPause (by decide) HI1'.out).mono ?_; rintro e w2 ⟨rfl, h2⟩
  have H2 := Lib.hid h2; clear h2
  go_wp2_with fail
  refine (may_no H2.out wHalt (by decide) HI2'.out).mono ?_; rintro e w3 ⟨rfl, h3⟩
  have H3 := Lib.hid h3; clear h3
  go_wp2_with fail
  refine (may_no H3.out wEmit (by decide) HI3'.out).mono ?_; rintro e w4 ⟨rfl, h4⟩
  have H4 := Lib.hid h4; clear h4
  go_wp2_with fail
  refine (may_no H4.out wAwait (by decide) HI4'.out).mono ?_; rintro e w5 ⟨rfl, h5⟩
  have H5 := Lib.hid h5; clear h5
  go_wp2_with fail
  refine (may_no H5.out wIf (by decide) HI5'.out).mono ?_; rintro e w6 ⟨rfl, h6⟩
  have H6 := Lib.hid h6; clear h6
  go_wp2_with fail
  refine (may_no H6.out wWas (by decide) HI6'.out).mono ?_; rintro e w7 ⟨rfl, h7⟩
  have H7 := Lib.hid h7; clear h7
  go_wp2_with fail
  refine (must_yes' H7.out wOpen (by decide) HI7'.out).mono ?_; rintro e w8 ⟨rfl, h8⟩
  have H8 := Lib.hid h8; clear h8
  go_wp2_with fail
  refine (put_ok H8.out 5 0 (by omega)).mono ?_; rintro e w9 ⟨rfl, h9⟩
  have H9 := Lib.hid h9; clear h9
  go_wp2_with fail
  refine (HN'.out.yes H9.out HL1'.out hln HA'.out).mono ?_; rintro e w10 ⟨rfl, h10⟩
  have H10 := Lib.hid h10; clear h10
  go_wp2_with fail
  refine (may_no H10.out wBar (by decide) HB'.out).mono ?_; rintro e w11 ⟨rfl, h11⟩
  have H11 := Lib.hid h11; clear h11
  go_wp2_with fail
  refine (must_yes' H11.out wSemi (by decide) HM'.out).mono ?_; rintro e w12 ⟨rfl, h12⟩
  have H12 := Lib.hid h12; clear h12
  go_wp2_with fail
  refine (HN'.out.yes H12.out HL2'.out hl3 HC'.out).mono ?_; rintro e w13 ⟨rfl, h13⟩
  have H13 := Lib.hid h13; clear h13
  go_wp2_with fail
  refine (must_no H13.out wClose (by decide) HD'.out).mono ?_; rintro e w14 ⟨rfl, x14⟩
  go_wp2
  exact ⟨rfl, rfl, x14⟩
set_option maxHeartbeats 2000000 in
theorem open_semi_ok {W0 : World} {g : Nat} {w : World} {s : List UInt8} {ps : List PNode} (h : RS W0 g w s ps) {n l : Nat} (hN : NodeOK n) (hl : ps.length + (l + 1) = 14) (hln : l < n) (hi0 : isP wNothing s = false) (hi1 : isP wPause s = false) (hi2 : isP wHalt s = false) (hi3 : isP wEmit s = false) (hi4 : isP wAwait s = false) (hi5 : isP wIf s = false) (hi6 : isP wWas s = false) (hi7 : isP wOpen s = true) {qa : Tr × List UInt8} (ha : readT n l (restP wOpen s) = some qa) (hb : isP wBar qa.2 = false) (hm : isP wSemi qa.2 = true) {qb : Tr × List UInt8} (hc : readT n (l - qa.1.size) (restP wSemi qa.2) = some qb) (hd : isP wClose qb.2 = true) :
    Calls Try.prog 19 #[.pointer (some ⟨g, 0, none⟩)] w fun e w' => e = .returned (.tuple #[]) ∧ RS W0 g w' (restP wClose qb.2) (ps ++ (⟨5, 0⟩ :: (qa.1.flat ++ qb.1.flat))) := by
  have hl1 : (ps ++ [(⟨5, 0⟩ : PNode)]).length + l = 14 := by simp; omega
  have hl2 : ((ps ++ [(⟨5, 0⟩ : PNode)]) ++ qa.1.flat).length + (l - qa.1.size) = 14 := by have := read_small (t := qa.1) (r := qa.2) ha; simp [flat_size]; omega
  have hl3 : l - qa.1.size < n := by omega
  have H0 := Lib.hid h; clear h
  have HI0' := Lib.hid hi0; clear hi0
  have HI1' := Lib.hid hi1; clear hi1
  have HI2' := Lib.hid hi2; clear hi2
  have HI3' := Lib.hid hi3; clear hi3
  have HI4' := Lib.hid hi4; clear hi4
  have HI5' := Lib.hid hi5; clear hi5
  have HI6' := Lib.hid hi6; clear hi6
  have HI7' := Lib.hid hi7; clear hi7
  have HN' := Lib.hid hN; clear hN
  have HA' := Lib.hid ha; clear ha
  have HB' := Lib.hid hb; clear hb
  have HL1' := Lib.hid hl1; clear hl1
  have HL2' := Lib.hid hl2; clear hl2
  have HC' := Lib.hid hc; clear hc
  have HM' := Lib.hid hm; clear hm
  have HD' := Lib.hid hd; clear hd
  go_enter Try.func19, Try.ntmps19
  go_wp2_with fail
  refine (may_no H0.out wNothing (by decide) HI0'.out).mono ?_; rintro e w1 ⟨rfl, h1⟩
  have H1 := Lib.hid h1; clear h1
  go_wp2_with fail
  refine (may_no H1.out wPause (by decide) HI1'.out).mono ?_; rintro e w2 ⟨rfl, h2⟩
  have H2 := Lib.hid h2; clear h2
  go_wp2_with fail
  refine (may_no H2.out wHalt (by decide) HI2'.out).mono ?_; rintro e w3 ⟨rfl, h3⟩
  have H3 := Lib.hid h3; clear h3
  go_wp2_with fail
  refine (may_no H3.out wEmit (by decide) HI3'.out).mono ?_; rintro e w4 ⟨rfl, h4⟩
  have H4 := Lib.hid h4; clear h4
  go_wp2_with fail
  refine (may_no H4.out wAwait (by decide) HI4'.out).mono ?_; rintro e w5 ⟨rfl, h5⟩
  have H5 := Lib.hid h5; clear h5
  go_wp2_with fail
  refine (may_no H5.out wIf (by decide) HI5'.out).mono ?_; rintro e w6 ⟨rfl, h6⟩
  have H6 := Lib.hid h6; clear h6
  go_wp2_with fail
  refine (may_no H6.out wWas (by decide) HI6'.out).mono ?_; rintro e w7 ⟨rfl, h7⟩
  have H7 := Lib.hid h7; clear h7
  go_wp2_with fail
  refine (must_yes' H7.out wOpen (by decide) HI7'.out).mono ?_; rintro e w8 ⟨rfl, h8⟩
  have H8 := Lib.hid h8; clear h8
  go_wp2_with fail
  refine (put_ok H8.out 5 0 (by omega)).mono ?_; rintro e w9 ⟨rfl, h9⟩
  have H9 := Lib.hid h9; clear h9
  go_wp2_with fail
  refine (HN'.out.yes H9.out HL1'.out hln HA'.out).mono ?_; rintro e w10 ⟨rfl, h10⟩
  have H10 := Lib.hid h10; clear h10
  go_wp2_with fail
  refine (may_no H10.out wBar (by decide) HB'.out).mono ?_; rintro e w11 ⟨rfl, h11⟩
  have H11 := Lib.hid h11; clear h11
  go_wp2_with fail
  refine (must_yes' H11.out wSemi (by decide) HM'.out).mono ?_; rintro e w12 ⟨rfl, h12⟩
  have H12 := Lib.hid h12; clear h12
  go_wp2_with fail
  refine (HN'.out.yes H12.out HL2'.out hl3 HC'.out).mono ?_; rintro e w13 ⟨rfl, h13⟩
  have H13 := Lib.hid h13; clear h13
  go_wp2_with fail
  refine (must_yes' H13.out wClose (by decide) HD'.out).mono ?_; rintro e w14 ⟨rfl, h14⟩
  have H14 := Lib.hid h14; clear h14
  go_wp2
  go_end0
  exact ⟨rfl, by have := H14.out; simpa using this⟩
end Go.Proofs.Ytncakjhianmekaa
