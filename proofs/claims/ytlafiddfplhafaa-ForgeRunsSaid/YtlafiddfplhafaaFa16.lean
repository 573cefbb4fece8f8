/- The smith's rests: a closure that makes three gates. -/
import Derived.Test.YtlafiddfplhafaaFa14
import Derived.Test.YtlafiddfplhafaaFa15
import Derived.Test.YtlafiddfplhafaaFa09
import Derived.Test.YtlafiddfplhafaaFa01
namespace Go.Proofs.Ytlafiddfplhafaa
set_option linter.unusedVariables false
set_option linter.unusedSimpArgs false
set_option linter.unusedVariables false
set_option linter.unusedSimpArgs false
open Go.RowKit
/-- The k-th of some states; the last, behind them. -/
def nthS : List SmithM → Nat → SmithM
  | [], _ => ⟨[], [], [], [], [], [], .slice none 0 0, .slice none 0 0, .slice none 0 0, 0, []⟩
  | [s], _ => s
  | s :: _ :: _, 0 => s
  | _ :: s :: l, k + 1 => nthS (s :: l) k
section
variable {w : World} {base b : Nat} {i0 : Int} {pv : Value} {S : SmithM}
set_option maxRecDepth 100000 in
set_option maxHeartbeats 8000000 in
theorem rests_any {L : List (Nat × TypeId × List Value)} (h : SmithP w base b i0 pv S) (hL : Locals b L w) (m3 m5 : Nat) (T3 T5 : TypeId) (bg ov sm : Int) (h3 : (m3, T3, [.pointer (some ⟨b, 0, none⟩)]) ∈ L) (h5 : (m5, T5, [I bg]) ∈ L) (hl : S.gs.length ≤ 900) :
    Calls Try.prog 79 #[.agg #[I ov, I sm], .pointer (some ⟨m3, 0, none⟩), .pointer (some ⟨m5, 0, none⟩)] w fun e w' =>
      e = .returned (I ((S.gs.length + 2 : Nat) : Int)) ∧ MadeP w w' base b i0 pv (((S.pushG (gAny [bg, sm])).pushG (gNot S.gs.length)).pushG (gAny [ov, ((S.gs.length + 1 : Nat) : Int)])) := by
  obtain ⟨W, hW⟩ : ∃ W, W = w.alloc (.cells #[I ov, I sm] 81) := ⟨_, rfl⟩
  have hi : NodeI w base b i0 pv ((w.heap.size, 81, [I ov, I sm]) :: L) S W := by rw [hW]; exact NodeI.push ⟨h, hL, Below.refl _ _, RelF.refl _ _⟩ 81 [I ov, I sm] _ rfl
  obtain ⟨g, hg⟩ : ∃ g, g = S.gs.length := ⟨_, rfl⟩
  obtain ⟨S1, hS1⟩ : ∃ S1, S1 = S.pushG (gAny [bg, sm]) := ⟨_, rfl⟩
  obtain ⟨S2, hS2⟩ : ∃ S2, S2 = S1.pushG (gNot g) := ⟨_, rfl⟩
  obtain ⟨S3, hS3⟩ : ∃ S3, S3 = S2.pushG (gAny [ov, (g : Int) + 1]) := ⟨_, rfl⟩
  have l1 : S1.gs.length = g + 1 := by rw [hS1, hg]; simp
  have l2 : S2.gs.length = g + 2 := by rw [hS2]; simp [l1]
  have c3 : ∀ k w', NodeI w base b i0 pv ((w.heap.size, 81, [I ov, I sm]) :: L) (nthS [S, S1, S2, S3] k) w' → w'.cell? ⟨m3, 0, none⟩ = some (.pointer (some ⟨b, 0, none⟩)) := fun k w' h => h.cell (List.mem_cons_of_mem _ h3) 0
  have c5 : ∀ k w', NodeI w base b i0 pv ((w.heap.size, 81, [I ov, I sm]) :: L) (nthS [S, S1, S2, S3] k) w' → w'.cell? ⟨m5, 0, none⟩ = some (I bg) := fun k w' h => h.cell (List.mem_cons_of_mem _ h5) 0
  have cx : ∀ j k w', NodeI w base b i0 pv ((w.heap.size, 81, [I ov, I sm]) :: L) (nthS [S, S1, S2, S3] k) w' → w'.cell? ⟨w.heap.size, j, none⟩ = [I ov, I sm][j]? := fun j k w' h => h.cell (List.mem_cons_self ..) j
  have C3 := Lib.hid c3; have C5 := Lib.hid c5; have CX := Lib.hid cx; have HI := Lib.hid hi; have HW := Lib.hid hW; have HG := Lib.hid hg; have HS1 := Lib.hid hS1; have HS2 := Lib.hid hS2; have HS3 := Lib.hid hS3; have L1 := Lib.hid l1; have L2 := Lib.hid l2
  have HL : Hid (g ≤ 900) := by unfold Hid; omega
  have HR : Hid (((S.pushG (gAny [bg, sm])).pushG (gNot S.gs.length)).pushG (gAny [ov, ((S.gs.length + 1 : Nat) : Int)]) = S3) := by unfold Hid; rw [hS3, hS2, hS1, hg]; rfl
  have HG2 : Hid (S.gs.length = g) := hg.symm
  rw [HR.out, HG2.out]
  clear h hL h3 h5 hW hi hg hS1 hS2 hS3 l1 l2 c3 c5 cx hl
  go_enter Try.func79, Try.ntmps79
  go_wp2_with fail
  rw [← HW.out]
  refine wp_flow7 14 0 [9, 10, 12] [] (RelF b) (fun k => NodeI w base b i0 pv ((w.heap.size, 81, [I ov, I sm]) :: L) (nthS [S, S1, S2, S3] k)) [isV (.pointer (some ⟨b, 0, none⟩)), isV (.pointer (some ⟨w.heap.size, 0, none⟩)), isV (I ov), isV (.pointer (some ⟨b, 0, none⟩)), isV (.pointer (some ⟨b, 0, none⟩)), isV (I bg), isV (.pointer (some ⟨w.heap.size, 1, none⟩)), isV (I sm), fun v w => ∃ gz, v = .slice (some ⟨gz, 0, none⟩) 2 2 ∧ ArgP w base b (.slice (some ⟨gz, 0, none⟩) 2 2) [bg, sm], isV (.int .i64 ((g : Int))), isV (.int .i64 ((g : Int) + 1)), fun v w => ∃ gz, v = .slice (some ⟨gz, 0, none⟩) 2 2 ∧ ArgP w base b (.slice (some ⟨gz, 0, none⟩) 2 2) [ov, (g : Int) + 1], isV (.int .i64 ((g : Int) + 2)), isV (.int .i64 ((g : Int) + 2))] (by kernel_rfl) rfl rfl (by kernel_rfl) (by kernel_rfl) (by kernel_rfl) (RelF.refl b _) (fun _ _ _ h k => RelF.trans h k) (fun k w' w'' h hx => NodeI.ext h hx) HI.out ⟨.inr (fun _ _ _ h _ => h), .inr (fun _ _ _ h _ => h), .inr (fun _ _ _ h _ => h), .inr (fun _ _ _ h _ => h), .inr (fun _ _ _ h _ => h), .inr (fun _ _ _ h _ => h), .inr (fun _ _ _ h _ => h), .inr (fun _ _ _ h _ => h), .inr (fun v w w' ⟨g, e, h⟩ hr => ⟨g, e, h.rel hr⟩), .inr (fun _ _ _ h _ => h), .inr (fun _ _ _ h _ => h), .inr (fun v w w' ⟨g, e, h⟩ hr => ⟨g, e, h.rel hr⟩), .inr (fun _ _ _ h _ => h), .inr (fun _ _ _ h _ => h), trivial⟩ ?each ?rest
  case each =>
    refine .light rfl ?_ (.light rfl ?_ (.light rfl ?_ (.light rfl ?_ (.light rfl ?_ (.light rfl ?_ (.light rfl ?_ (.light rfl ?_ (.light rfl ?_ (.heavy 0 rfl ?_ (.heavy 1 rfl ?_ (.light rfl ?_ (.heavy 2 rfl ?_ (.light rfl ?_ (.nil))))))))))))))
    · intro fa fw fk hr hinv hs hb
      have s1 : fa.tmps[(1 : Nat)]? = some (.pointer (some ⟨m3, 0, none⟩)) := (hb 1 (by kernel_rfl)).trans (by rfl)
      have c0 := C3.out fk fw hinv
      refine .inl ⟨wanted_free rfl, fun K hK => ?_⟩
      clear hs hb hr hinv
      go_simp
      exact hK _ _ rfl (Ext.refl _)
    · intro fa fw fk hr hinv hs hb
      have s3 : fa.tmps[(3 : Nat)]? = some (.pointer (some ⟨w.heap.size, 0, none⟩)) := (hb 3 (by kernel_rfl)).trans (by rfl)
      refine .inl ⟨wanted_free rfl, fun K hK => ?_⟩
      clear hs hb hr hinv
      go_simp
      exact hK _ _ rfl (Ext.refl _)
    · intro fa fw fk hr hinv hs hb
      obtain ⟨_, s6, rfl⟩ := hs 1 6 (by kernel_rfl) (by kernel_rfl)
      have c0 := (CX.out 0 fk fw hinv).trans rfl
      refine .inl ⟨wanted_free rfl, fun K hK => ?_⟩
      clear hs hb hr hinv
      go_simp
      exact hK _ _ rfl (Ext.refl _)
    · intro fa fw fk hr hinv hs hb
      have s1 : fa.tmps[(1 : Nat)]? = some (.pointer (some ⟨m3, 0, none⟩)) := (hb 1 (by kernel_rfl)).trans (by rfl)
      have c0 := C3.out fk fw hinv
      refine .inl ⟨wanted_free rfl, fun K hK => ?_⟩
      clear hs hb hr hinv
      go_simp
      exact hK _ _ rfl (Ext.refl _)
    · intro fa fw fk hr hinv hs hb
      have s1 : fa.tmps[(1 : Nat)]? = some (.pointer (some ⟨m3, 0, none⟩)) := (hb 1 (by kernel_rfl)).trans (by rfl)
      have c0 := C3.out fk fw hinv
      refine .inl ⟨wanted_free rfl, fun K hK => ?_⟩
      clear hs hb hr hinv
      go_simp
      exact hK _ _ rfl (Ext.refl _)
    · intro fa fw fk hr hinv hs hb
      have s2 : fa.tmps[(2 : Nat)]? = some (.pointer (some ⟨m5, 0, none⟩)) := (hb 2 (by kernel_rfl)).trans (by rfl)
      have c0 := C5.out fk fw hinv
      refine .inl ⟨wanted_free rfl, fun K hK => ?_⟩
      clear hs hb hr hinv
      go_simp
      exact hK _ _ rfl (Ext.refl _)
    · intro fa fw fk hr hinv hs hb
      have s3 : fa.tmps[(3 : Nat)]? = some (.pointer (some ⟨w.heap.size, 0, none⟩)) := (hb 3 (by kernel_rfl)).trans (by rfl)
      refine .inl ⟨wanted_free rfl, fun K hK => ?_⟩
      clear hs hb hr hinv
      go_simp
      exact hK _ _ rfl (Ext.refl _)
    · intro fa fw fk hr hinv hs hb
      obtain ⟨_, s11, rfl⟩ := hs 6 11 (by kernel_rfl) (by kernel_rfl)
      have c0 := (CX.out 1 fk fw hinv).trans rfl
      refine .inl ⟨wanted_free rfl, fun K hK => ?_⟩
      clear hs hb hr hinv
      go_simp
      exact hK _ _ rfl (Ext.refl _)
    · intro fa fw fk hr hinv hs hb
      obtain ⟨_, s10, rfl⟩ := hs 5 10 (by kernel_rfl) (by kernel_rfl)
      obtain ⟨_, s12, rfl⟩ := hs 7 12 (by kernel_rfl) (by kernel_rfl)
      refine .inl ⟨wanted_free rfl, fun K hK => ?_⟩
      clear hs hb
      go_simp
      exact hK _ _ ⟨fw.heap.size, rfl, ArgP.new hinv.sm [bg, sm] _ rfl (by simp)⟩ ((Ext.refl _).alloc _)
    · intro fa fw hr hinv hs hb
      obtain ⟨_, s9, rfl⟩ := hs 4 9 (by kernel_rfl) (by kernel_rfl)
      obtain ⟨_, s13, b13, rfl, k13⟩ := hs 8 13 (by kernel_rfl) (by kernel_rfl)
      refine ⟨wanted_free rfl, fun K hK => ?_⟩
      clear hs hb
      go_simp
      refine (sany_any hinv.sm _ [bg, sm] k13 (by show S.gs.length ≤ 1000; have := HL.out; have := HG2.out; omega)).mono ?_
      rintro e w' ⟨rfl, hm⟩
      have hq := hinv.step hm
      rw [show (nthS [S, S1, S2, S3] 0).gs.length = g from HG2.out]
      exact hK _ _ rfl hm.rel (by show NodeI _ _ _ _ _ _ S1 _; rw [HS1.out]; exact hq)
    · intro fa fw hr hinv hs hb
      obtain ⟨_, s8, rfl⟩ := hs 3 8 (by kernel_rfl) (by kernel_rfl)
      obtain ⟨_, s14, rfl⟩ := hs 9 14 (by kernel_rfl) (by kernel_rfl)
      refine ⟨wanted_free rfl, fun K hK => ?_⟩
      clear hs hb
      go_simp
      refine (snot_any hinv.sm (g : Int) (by show S1.gs.length ≤ 1000; have := HL.out; have := L1.out; omega)).mono ?_
      rintro e w' ⟨rfl, hm⟩
      have hq := hinv.step hm
      rw [show (nthS [S, S1, S2, S3] 1).gs.length = g + 1 from L1.out]
      exact hK _ _ rfl hm.rel (by show NodeI _ _ _ _ _ _ S2 _; rw [HS2.out]; exact hq)
    · intro fa fw fk hr hinv hs hb
      obtain ⟨_, s7, rfl⟩ := hs 2 7 (by kernel_rfl) (by kernel_rfl)
      obtain ⟨_, s15, rfl⟩ := hs 10 15 (by kernel_rfl) (by kernel_rfl)
      refine .inl ⟨wanted_free rfl, fun K hK => ?_⟩
      clear hs hb
      go_simp
      exact hK _ _ ⟨fw.heap.size, rfl, ArgP.new hinv.sm [ov, (g : Int) + 1] _ rfl (by simp)⟩ ((Ext.refl _).alloc _)
    · intro fa fw hr hinv hs hb
      obtain ⟨_, s5, rfl⟩ := hs 0 5 (by kernel_rfl) (by kernel_rfl)
      obtain ⟨_, s16, b16, rfl, k16⟩ := hs 11 16 (by kernel_rfl) (by kernel_rfl)
      refine ⟨wanted_free rfl, fun K hK => ?_⟩
      clear hs hb
      go_simp
      refine (sany_any hinv.sm _ [ov, (g : Int) + 1] k16 (by show S2.gs.length ≤ 1000; have := HL.out; have := L2.out; omega)).mono ?_
      rintro e w' ⟨rfl, hm⟩
      have hq := hinv.step hm
      rw [show (nthS [S, S1, S2, S3] 2).gs.length = g + 2 from L2.out]
      exact hK _ _ rfl hm.rel (by show NodeI _ _ _ _ _ _ S3 _; rw [HS3.out]; exact hq)
    · intro fa fw fk hr hinv hs hb
      obtain ⟨_, s17, rfl⟩ := hs 12 17 (by kernel_rfl) (by kernel_rfl)
      refine .inl ⟨wanted_free rfl, fun K hK => ?_⟩
      clear hs hb hr hinv
      go_simp
      exact hK _ _ rfl (Ext.refl _)
  case rest =>
    intro w9 hrw9 hiw9
    rintro _ rfl
    rintro _ rfl
    rintro _ rfl
    rintro _ rfl
    rintro _ rfl
    rintro _ rfl
    rintro _ rfl
    rintro _ rfl
    rintro _ ⟨b13, rfl, k13⟩
    rintro _ rfl
    rintro _ rfl
    rintro _ ⟨b16, rfl, k16⟩
    rintro _ rfl
    rintro _ rfl
    simp only [putAll, List.take, Act.put, List.setIfInBounds_toArray, List.set_cons_zero, List.set_cons_succ]
    refine wpAny_done (by kernel_rfl) ?_ _
    have HM := Lib.hid (NodeI.made hiw9)
    clear hrw9 hiw9
    go_wp2
    go_ret
    exact ⟨rfl, HM.out⟩
end
end Go.Proofs.Ytlafiddfplhafaa
/- The smith's node: leaves. -/
namespace Go.Proofs.Ytlafiddfplhafaa
set_option linter.unusedVariables false
set_option linter.unusedSimpArgs false
open Go.RowKit
def emOf (E : List (Int × Int)) : List (List Int) := [emitsF E 0, emitsF E 1, emitsF E 2]
/-- The smith within node. -/
abbrev stN (c : SmithM) (rv : Value) (es : List Value) (G : List GateM) (R : List StoreM) (E : List (Int × Int)) : SmithM := ⟨G, R, c.outs, [0, 1, 2], [5, 6, 7], emOf E, rv, c.iv, c.wv, c.eb, es⟩
section
variable (w0 : World) (b : Nat) (PA : Option Addr) (n pc : Nat) (c : SmithM) (p : List PNode)
/-- What is told of node. -/
def NodeOK (t : Tr) (k : Nat) : Prop := ∀ (w : World) (rv : Value) (es : List Value) (G : List GateM) (R : List StoreM) (E : List (Int × Int)) (bg : Int), Ext w0 w → SmithP w w0.heap.size b 3 (.slice PA n pc) (stN c rv es G R E) →
  G.length + 9 * t.size ≤ 800 → R.length + t.size ≤ 800 → E.length + t.size ≤ 800 → 8 ≤ G.length → 0 ≤ bg → bg < G.length →
  Calls Try.prog 39 #[.pointer (some ⟨b, 0, none⟩), I k, I bg] w fun e w' => ∃ rv' es', e = .returned (.agg #[I (nodeF t G.length R.length bg).over, I (nodeF t G.length R.length bg).some]) ∧
    MadeP w w' w0.heap.size b 3 (.slice PA n pc) (stN c rv' es' (G ++ (nodeF t G.length R.length bg).G) (R ++ (nodeF t G.length R.length bg).R) (E ++ (nodeF t G.length R.length bg).E))
abbrev nodeL (w : World) (b : Nat) (bg kd sg : Int) : List (Nat × TypeId × List Value) :=
  [(w.heap.size + 1 + 1 + 1, 64, [I kd, I sg]), (w.heap.size + 1 + 1, 81, [I 0, I 0]), (w.heap.size + 1, 3, [I bg]), (w.heap.size, 72, [.pointer (some ⟨b, 0, none⟩)])]
abbrev nodeB (w : World) (b : Nat) (bg kd sg : Int) : World :=
  (((w.alloc (.cells #[.pointer (some ⟨b, 0, none⟩)] 72)).alloc (.cells #[I bg] 3)).alloc (.cells #[I 0, I 0] 81)).alloc (.cells #[I kd, I sg] 64)
theorem NodeI.begin {w : World} {base b : Nat} {i0 : Int} {pv : Value} {S : SmithM} (h : SmithP w base b i0 pv S) (bg kd sg : Int) : NodeI w base b i0 pv (nodeL w b bg kd sg) S (nodeB w b bg kd sg) :=
  NodeI.push (NodeI.push (NodeI.push (NodeI.push ⟨h, fun x hx => by simp at hx, Below.refl _ _, RelF.refl _ _⟩ 72 [.pointer (some ⟨b, 0, none⟩)] _ rfl) 3 [I bg] _ (by simp)) 81 [I 0, I 0] _ (by simp)) 64 [I kd, I sg] _ (by simp)
theorem NodeI.setNext {wE w : World} {base : Nat} {b : Nat} {i0 : Int} {pv : Value} {L : List (Nat × TypeId × List Value)} {S : SmithM} (h : NodeI wE base b i0 pv L S w) {rb rn rc : Nat} (hv : S.rv = .slice (some ⟨rb, 0, none⟩) rn rc) {m : Nat} {r : StoreM} (hr : S.rs[m]? = some r) (x : Int) :
    NodeI wE base b i0 pv L { S with rs := S.rs.set m ⟨r.fst, x⟩ } (w.setCell ⟨rb, m * 2 + 1, none⟩ (I x)) := by
  have h0 : MadeP w w base b i0 pv S := ⟨Below.refl _ _, RelF.refl _ _, h.sm⟩
  exact h.step (h0.setNext hv hr x (h0.regs_apart hv))
theorem NodeI.finish {wE w : World} {base : Nat} {b : Nat} {i0 : Int} {pv : Value} {L : List (Nat × TypeId × List Value)} {S : SmithM} (h : NodeI wE base b i0 pv L S w) (hbase : base ≤ wE.heap.size) {m6 : Nat} {x y : Value} (hm : (m6, 81, [x, y]) ∈ L) (hg : wE.heap.size ≤ m6) (u v : Value) :
    MadeP wE ((w.setCell ⟨m6, 0, none⟩ u).setCell ⟨m6, 1, none⟩ v) base b i0 pv S ∧ ((w.setCell ⟨m6, 0, none⟩ u).setCell ⟨m6, 1, none⟩ v).cell? ⟨m6, 0, none⟩ = some u ∧ ((w.setCell ⟨m6, 0, none⟩ u).setCell ⟨m6, 1, none⟩ v).cell? ⟨m6, 1, none⟩ = some v := by
  have hb : Box w m6 81 [x, y] := (h.lo _ hm).1
  have hb2 := (hb.set 0 u).set 1 v
  exact ⟨(h.made.setNew hbase hb hg (by decide) (by decide) (by decide) (by decide) (by decide) 0 u).setNew hbase (hb.set 0 u) hg (by decide) (by decide) (by decide) (by decide) (by decide) 1 v, hb2.cell 0, hb2.cell 1⟩
set_option maxRecDepth 100000 in
set_option maxHeartbeats 16000000 in
theorem node_nothing (hp : SlN w0 PA n p) (hn : n ≤ 14) (sg : Int) (k : Nat) (ht : TreeAt p k (.leaf ⟨0, sg⟩)) : NodeOK w0 b PA n pc c (.leaf ⟨0, sg⟩) k := by
  intro w rv es G R E bg hx h hG hR hE _ _ _
  have hle := ht.le
  have hpl := hp.1
  have hkn : k < n := by simp [Tr.size] at hle; omega
  have htop := ht.top
  obtain ⟨pb, poff, y, rfl, d0, d1, -, hy⟩ := hp.next hkn
  have hyx : y = ⟨0, sg⟩ := by rw [htop] at hy; injection hy with hy; exact hy.symm
  subst hyx
  have e0 := hx.keeps _ _ d0; have e1 := hx.keeps _ _ d1
  have q4 := h.cellP
  have hk3 : Keeps w (((w.alloc (.cells #[.pointer (some ⟨b, 0, none⟩)] 72)).alloc (.cells #[I bg] 3)).alloc (.cells #[I 0, I 0] 81)) := ((Keeps.alloc _ _).trans (Keeps.alloc _ _)).trans (Keeps.alloc _ _)
  have q4' := hk3 _ _ q4; have e0' := hk3 _ _ e0; have e1' := hk3 _ _ e1
  have hI := NodeI.begin h bg 0 sg
  obtain ⟨wB, hwB⟩ : ∃ q, q = nodeB w b bg 0 sg := ⟨_, rfl⟩
  rw [← hwB] at hI
  obtain ⟨S0, hS0⟩ : ∃ S, S = stN c rv es G R E := ⟨_, rfl⟩
  rw [← hS0] at hI
  obtain ⟨g, hg⟩ : ∃ g, g = G.length := ⟨_, rfl⟩
  obtain ⟨r, hr0⟩ : ∃ r, r = R.length := ⟨_, rfl⟩
  have l0 : S0.gs.length = g := by rw [hS0, hg]
  have hGb : g ≤ 800 := by rw [hg]; omega
  have hRb : r ≤ 800 := by rw [hr0]; omega
  have hbs : w0.heap.size ≤ w.heap.size := hx.size
  have HI := Lib.hid hI; have HS0 := Lib.hid hS0; have HG := Lib.hid hg; have HR0 := Lib.hid hr0; have LS0 := Lib.hid l0; have HGB := Lib.hid hGb; have HRB := Lib.hid hRb; have HBS := Lib.hid hbs; have HSP := Lib.hid h; have HEB : Hid (E.length ≤ 800) := by unfold Hid; omega
  have HWB : Hid (wB = (((w.alloc (.cells #[.pointer (some ⟨b, 0, none⟩)] 72)).alloc (.cells #[I bg] 3)).alloc (.cells #[I 0, I 0] 81)).alloc (.cells #[I 0, I sg] 64)) := hwB
  clear hp ht hle hpl htop d0 d1 hy hI h hx hG hR hE hk3 q4 e0 e1 hwB hS0 hg hr0 l0 hGb hRb hbs
  go_enter Try.func39, Try.ntmps39
  go_upto_region 5 with fail
  rw [← HWB.out]
  clear q4' e0' e1'
  obtain ⟨S1, hS1⟩ : ∃ S, S = S0.pushG (gNever) := ⟨_, rfl⟩
  have lS1 : S1.gs.length = g + 1 := by rw [hS1]; have := LS0.out; simp [this]
  have HS1 := Lib.hid hS1; have LS1 := Lib.hid lS1; clear hS1 lS1
  have C3 := Lib.hid (show ∀ k w', NodeI w w0.heap.size b 3 (.slice (some ⟨pb, poff, none⟩) n pc) (nodeL w b bg 0 sg) (nthS [S0, S1] k) w' → w'.cell? ⟨w.heap.size, 0, none⟩ = some (.pointer (some ⟨b, 0, none⟩)) from fun k w' h => h.cell (g := w.heap.size) (T := 72) (cs := [.pointer (some ⟨b, 0, none⟩)]) (by simp) 0)
  have C5 := Lib.hid (show ∀ k w', NodeI w w0.heap.size b 3 (.slice (some ⟨pb, poff, none⟩) n pc) (nodeL w b bg 0 sg) (nthS [S0, S1] k) w' → w'.cell? ⟨w.heap.size + 1, 0, none⟩ = some (I bg) from fun k w' h => h.cell (g := w.heap.size + 1) (T := 3) (cs := [I bg]) (by simp) 0)
  have C7 := Lib.hid (show ∀ k w', NodeI w w0.heap.size b 3 (.slice (some ⟨pb, poff, none⟩) n pc) (nodeL w b bg 0 sg) (nthS [S0, S1] k) w' → w'.cell? ⟨w.heap.size + 1 + 1 + 1, 1, none⟩ = some (I sg) from fun k w' h => h.cell (g := w.heap.size + 1 + 1 + 1) (T := 64) (cs := [I 0, I sg]) (by simp) 1)
  refine wp_flow7 4 1 [2] [] (RelF b) (fun k => NodeI w w0.heap.size b 3 (.slice (some ⟨pb, poff, none⟩) n pc) (nodeL w b bg 0 sg) (nthS [S0, S1] k)) [isV (I bg), isV (.func (.func 75) #[] #[.pointer (some ⟨w.heap.size, 0, none⟩)]), isV (.int .i64 ((g : Int))), isV (.agg #[I bg, .int .i64 ((g : Int))])] (by kernel_rfl) rfl rfl (by kernel_rfl) (by kernel_rfl) (by kernel_rfl) (RelF.refl b _) (fun _ _ _ h k => RelF.trans h k) (fun k w' w'' h hx => NodeI.ext h hx) HI.out ⟨.inr (fun _ _ _ h _ => h), .inr (fun _ _ _ h _ => h), .inr (fun _ _ _ h _ => h), .inr (fun _ _ _ h _ => h), trivial⟩ ?each ?rest
  case each =>
    refine .light rfl ?_ (.light rfl ?_ (.heavy 0 rfl ?_ (.light rfl ?_ (.nil))))
    · intro fa fw fk hr hinv hs hb
      have s5 : fa.tmps[(5 : Nat)]? = some (.pointer (some ⟨w.heap.size + 1, 0, none⟩)) := (hb 5 (by kernel_rfl)).trans (by rfl)
      have c0 := C5.out fk fw hinv
      refine .inl ⟨wanted_free rfl, fun K hK => ?_⟩
      clear hs hb hr hinv
      go_simp
      exact hK _ _ rfl (Ext.refl _)
    · intro fa fw fk hr hinv hs hb
      have s8 : fa.tmps[(8 : Nat)]? = some (.func (.func 75) #[] #[.pointer (some ⟨w.heap.size, 0, none⟩)]) := (hb 8 (by kernel_rfl)).trans (by rfl)
      refine .inl ⟨wanted_free rfl, fun K hK => ?_⟩
      clear hs hb hr hinv
      go_simp
      exact hK _ _ rfl (Ext.refl _)
    · intro fa fw hr hinv hs hb
      obtain ⟨_, s39, rfl⟩ := hs 1 39 (by kernel_rfl) (by kernel_rfl)
      refine ⟨wanted_free rfl, fun K hK => ?_⟩
      clear hs hb
      go_simp
      refine (snever_any hinv.sm (w.heap.size) (C3.out 0 fw hinv) (by show S0.gs.length ≤ 1000; have := HGB.out; have := LS0.out; omega)).mono ?_
      rintro e w' ⟨rfl, hm⟩
      have hq := hinv.step hm
      rw [show (nthS [S0, S1] 0).gs.length = _ from LS0.out]
      exact hK _ _ rfl hm.rel (by show NodeI _ _ _ _ _ _ S1 _; rw [HS1.out]; exact hq)
    · intro fa fw fk hr hinv hs hb
      obtain ⟨_, s38, rfl⟩ := hs 0 38 (by kernel_rfl) (by kernel_rfl)
      obtain ⟨_, s40, rfl⟩ := hs 2 40 (by kernel_rfl) (by kernel_rfl)
      refine .inl ⟨wanted_free rfl, fun K hK => ?_⟩
      clear hs hb hr hinv
      go_simp
      exact hK _ _ rfl (Ext.refl _)
  case rest =>
    intro w9 hrw9 hiw9
    rintro _ rfl
    rintro _ rfl
    rintro _ rfl
    rintro _ rfl
    simp only [putAll, List.take, Act.put, List.setIfInBounds_toArray, List.set_cons_zero, List.set_cons_succ]
    have hi9 : NodeI w w0.heap.size b 3 (.slice (some ⟨pb, poff, none⟩) n pc) (nodeL w b bg 0 sg) S1 w9 := hiw9
    have hb6 : Box w9 (w.heap.size + 1 + 1) 81 [I 0, I 0] := (hi9.lo (w.heap.size + 1 + 1, 81, [I 0, I 0]) (by simp)).1
    have z0 := hb6.cell 0; have z1 := hb6.cell 1; have f6 := hb6.free
    simp only [List.getElem?_cons_zero, List.getElem?_cons_succ] at z0 z1
    have hfin := hi9.finish HBS.out (m6 := w.heap.size + 1 + 1) (x := I 0) (y := I 0) (by simp) (by omega) (I (bg)) (I ((g : Int)))
    have HFIN := Lib.hid hfin
    clear hb6 hfin hi9 hiw9 hrw9
    refine wpAny_ready (rs := [4]) (by kernel_rfl) (by simp) (AllReady.cons rfl (fun KK hKK => ?_) AllReady.nil)
    go_simp
    refine hKK _ _ ?_
    clear hKK KK z0 z1 f6
    refine wpAny_done (by kernel_rfl) ?_ _
    go_wp2
    obtain ⟨hmade, y0, y1⟩ := HFIN.out
    have hmod : S1 = stN c rv es (G ++ (nodeF (.leaf ⟨0, sg⟩) G.length R.length bg).G) (R ++ (nodeF (.leaf ⟨0, sg⟩) G.length R.length bg).R) (E ++ (nodeF (.leaf ⟨0, sg⟩) G.length R.length bg).E) := by
      rw [HS1.out, HS0.out]; simp [nodeF, HG.out, HR0.out, insG]
    have hov : (nodeF (.leaf ⟨0, sg⟩) G.length R.length bg).over = bg := by simp [nodeF, HG.out]
    have hso : (nodeF (.leaf ⟨0, sg⟩) G.length R.length bg).some = (g : Int) := by simp [nodeF, HG.out]
    rw [hmod] at hmade
    refine bodyPost_ret (v := .agg #[I (bg), I ((g : Int))]) ?_ rfl ⟨rv, es, by rw [hov, hso], hmade⟩
    clear hmade hmod hov hso HFIN
    simp [results, Try.results39, go_sem, y0, y1]
set_option maxRecDepth 100000 in
set_option maxHeartbeats 16000000 in
theorem node_pause (hp : SlN w0 PA n p) (hn : n ≤ 14) (sg : Int) (k : Nat) (ht : TreeAt p k (.leaf ⟨1, sg⟩)) : NodeOK w0 b PA n pc c (.leaf ⟨1, sg⟩) k := by
  intro w rv es G R E bg hx h hG hR hE _ _ _
  have hle := ht.le
  have hpl := hp.1
  have hkn : k < n := by simp [Tr.size] at hle; omega
  have htop := ht.top
  obtain ⟨pb, poff, y, rfl, d0, d1, -, hy⟩ := hp.next hkn
  have hyx : y = ⟨1, sg⟩ := by rw [htop] at hy; injection hy with hy; exact hy.symm
  subst hyx
  have e0 := hx.keeps _ _ d0; have e1 := hx.keeps _ _ d1
  have q4 := h.cellP
  have hk3 : Keeps w (((w.alloc (.cells #[.pointer (some ⟨b, 0, none⟩)] 72)).alloc (.cells #[I bg] 3)).alloc (.cells #[I 0, I 0] 81)) := ((Keeps.alloc _ _).trans (Keeps.alloc _ _)).trans (Keeps.alloc _ _)
  have q4' := hk3 _ _ q4; have e0' := hk3 _ _ e0; have e1' := hk3 _ _ e1
  have hI := NodeI.begin h bg 1 sg
  obtain ⟨wB, hwB⟩ : ∃ q, q = nodeB w b bg 1 sg := ⟨_, rfl⟩
  rw [← hwB] at hI
  obtain ⟨S0, hS0⟩ : ∃ S, S = stN c rv es G R E := ⟨_, rfl⟩
  rw [← hS0] at hI
  obtain ⟨g, hg⟩ : ∃ g, g = G.length := ⟨_, rfl⟩
  obtain ⟨r, hr0⟩ : ∃ r, r = R.length := ⟨_, rfl⟩
  have l0 : S0.gs.length = g := by rw [hS0, hg]
  have hGb : g ≤ 800 := by rw [hg]; omega
  have hRb : r ≤ 800 := by rw [hr0]; omega
  have hbs : w0.heap.size ≤ w.heap.size := hx.size
  have HI := Lib.hid hI; have HS0 := Lib.hid hS0; have HG := Lib.hid hg; have HR0 := Lib.hid hr0; have LS0 := Lib.hid l0; have HGB := Lib.hid hGb; have HRB := Lib.hid hRb; have HBS := Lib.hid hbs; have HSP := Lib.hid h; have HEB : Hid (E.length ≤ 800) := by unfold Hid; omega
  have HWB : Hid (wB = (((w.alloc (.cells #[.pointer (some ⟨b, 0, none⟩)] 72)).alloc (.cells #[I bg] 3)).alloc (.cells #[I 0, I 0] 81)).alloc (.cells #[I 1, I sg] 64)) := hwB
  clear hp ht hle hpl htop d0 d1 hy hI h hx hG hR hE hk3 q4 e0 e1 hwB hS0 hg hr0 l0 hGb hRb hbs
  go_enter Try.func39, Try.ntmps39
  go_upto_region 10 with fail
  rw [← HWB.out]
  clear q4' e0' e1'
  have q3 := (HI.out.cell (g := w.heap.size) (T := 72) (cs := [.pointer (some ⟨b, 0, none⟩)]) (by simp) 0).trans rfl
  simp only [List.getElem?_cons_zero] at q3
  go_wp2_with fail
  clear q3
  refine (sstore_any HI.out.sm false (by have := HGB.out; have := LS0.out; omega) (by rw [HS0.out]; show R.length ≤ 1000; have := HRB.out; have := HR0.out; omega)).mono ?_
  rintro e w1 ⟨rv1, rfl, hm⟩
  have hi1 := HI.out.step hm
  have hrl : S0.rs.length = r := by rw [HS0.out]; exact HR0.out.symm
  rw [LS0.out, hrl]
  rw [hrl] at hi1
  obtain ⟨S1, hS1⟩ : ∃ S, S = (S0.pushR ⟨false, 0⟩ rv1).pushG (gReg r) := ⟨_, rfl⟩
  rw [← hS1] at hi1
  have l1 : S1.gs.length = g + 1 := by rw [hS1]; have := LS0.out; simp [this]
  have l2 : S1.rs.length = r + 1 := by rw [hS1]; simp [hrl]
  have hrow := hi1.sm.regs
  have hrv : S1.rv = rv1 := by rw [hS1]
  rw [hrv, l2] at hrow
  obtain ⟨rb, rc, erv⟩ := own_form hrow (Nat.succ_pos r)
  subst erv
  have hat : S1.rs[r]? = some ⟨false, 0⟩ := by rw [hS1]; show (S0.rs ++ [_])[r]? = _; rw [← hrl]; simp
  have HI1 := Lib.hid hi1; have HS1 := Lib.hid hS1; have LS1 := Lib.hid l1; have RL1 := Lib.hid l2; have HRV := Lib.hid hrv; have HAT := Lib.hid hat
  have GHS1 : Hid (S1.rv = .slice (some ⟨rb, 0, none⟩) (r + 1) rc ∧ S1.iv = c.iv ∧ S1.ins = [0, 1, 2]) := by
    unfold Hid; exact ⟨HRV.out, by rw [HS1.out, HS0.out], by rw [HS1.out, HS0.out]⟩
  clear hm hi1 hS1 l1 l2 hrow hrv hat hrl
  have RLS1 : Hid (S1.rs.length = r + 1) := RL1.out; have ATS1 : Hid (S1.rs[r]? = some ⟨false, 0⟩) := HAT.out
  have C3 := Lib.hid (show ∀ k w', NodeI w w0.heap.size b 3 (.slice (some ⟨pb, poff, none⟩) n pc) (nodeL w b bg 1 sg) (nthS [S1] k) w' → w'.cell? ⟨w.heap.size, 0, none⟩ = some (.pointer (some ⟨b, 0, none⟩)) from fun k w' h => h.cell (g := w.heap.size) (T := 72) (cs := [.pointer (some ⟨b, 0, none⟩)]) (by simp) 0)
  have C5 := Lib.hid (show ∀ k w', NodeI w w0.heap.size b 3 (.slice (some ⟨pb, poff, none⟩) n pc) (nodeL w b bg 1 sg) (nthS [S1] k) w' → w'.cell? ⟨w.heap.size + 1, 0, none⟩ = some (I bg) from fun k w' h => h.cell (g := w.heap.size + 1) (T := 3) (cs := [I bg]) (by simp) 0)
  have C7 := Lib.hid (show ∀ k w', NodeI w w0.heap.size b 3 (.slice (some ⟨pb, poff, none⟩) n pc) (nodeL w b bg 1 sg) (nthS [S1] k) w' → w'.cell? ⟨w.heap.size + 1 + 1 + 1, 1, none⟩ = some (I sg) from fun k w' h => h.cell (g := w.heap.size + 1 + 1 + 1) (T := 64) (cs := [I 1, I sg]) (by simp) 1)
  have ghs : ∀ k, (nthS [S1] k).rv = .slice (some ⟨rb, 0, none⟩) (r + 1) rc ∧ (nthS [S1] k).iv = c.iv ∧ (nthS [S1] k).ins = [0, 1, 2] := fun k => by
    match k with
    | k + 0 => cases k <;> exact GHS1.out
  have CR := Lib.hid (show ∀ k w', NodeI w w0.heap.size b 3 (.slice (some ⟨pb, poff, none⟩) n pc) (nodeL w b bg 1 sg) (nthS [S1] k) w' → w'.cell? ⟨b, 2, none⟩ = some (.slice (some ⟨rb, 0, none⟩) (r + 1) rc) from fun k w' h => by rw [← (ghs k).1]; exact h.sm.cellR)
  clear ghs
  go_upto_region 11 with fail
  refine wp_flow7 7 3 [] [] (RelF b) (fun k => NodeI w w0.heap.size b 3 (.slice (some ⟨pb, poff, none⟩) n pc) (nodeL w b bg 1 sg) (nthS [S1] k)) [isV (.pointer (some ⟨b, 0, none⟩)), isV (.pointer (some ⟨b, 0, none⟩)), isV (.pointer (some ⟨b, 0, none⟩)), isV (.pointer (some ⟨b, 2, none⟩)), isV (.slice (some ⟨rb, 0, none⟩) (r + 1) rc), isV (.int .i64 r), isV (I bg)] (by kernel_rfl) rfl rfl (by kernel_rfl) (by kernel_rfl) (by kernel_rfl) (RelF.refl b _) (fun _ _ _ h k => RelF.trans h k) (fun k w' w'' h hx => NodeI.ext h hx) HI1.out ⟨.inr (fun _ _ _ h _ => h), .inr (fun _ _ _ h _ => h), .inr (fun _ _ _ h _ => h), .inr (fun _ _ _ h _ => h), .inr (fun _ _ _ h _ => h), .inr (fun _ _ _ h _ => h), .inr (fun _ _ _ h _ => h), trivial⟩ ?each ?rest
  case each =>
    refine .light rfl ?_ (.light rfl ?_ (.light rfl ?_ (.light rfl ?_ (.light rfl ?_ (.light rfl ?_ (.light rfl ?_ (.nil)))))))
    · intro fa fw fk hr hinv hs hb
      have s3 : fa.tmps[(3 : Nat)]? = some (.pointer (some ⟨w.heap.size, 0, none⟩)) := (hb 3 (by kernel_rfl)).trans (by rfl)
      have c0 := C3.out fk fw hinv
      refine .inl ⟨wanted_free rfl, fun K hK => ?_⟩
      clear hs hb hr hinv
      go_simp
      exact hK _ _ rfl (Ext.refl _)
    · intro fa fw fk hr hinv hs hb
      obtain ⟨_, s73, rfl⟩ := hs 0 73 (by kernel_rfl) (by kernel_rfl)
      refine .inl ⟨wanted_free rfl, fun K hK => ?_⟩
      clear hs hb hr hinv
      go_simp
      exact hK _ _ rfl (Ext.refl _)
    · intro fa fw fk hr hinv hs hb
      obtain ⟨_, s74, rfl⟩ := hs 1 74 (by kernel_rfl) (by kernel_rfl)
      refine .inl ⟨wanted_free rfl, fun K hK => ?_⟩
      clear hs hb hr hinv
      go_simp
      exact hK _ _ rfl (Ext.refl _)
    · intro fa fw fk hr hinv hs hb
      obtain ⟨_, s75, rfl⟩ := hs 2 75 (by kernel_rfl) (by kernel_rfl)
      refine .inl ⟨wanted_free rfl, fun K hK => ?_⟩
      clear hs hb hr hinv
      go_simp
      exact hK _ _ rfl (Ext.refl _)
    · intro fa fw fk hr hinv hs hb
      obtain ⟨_, s76, rfl⟩ := hs 3 76 (by kernel_rfl) (by kernel_rfl)
      have c0 := CR.out fk fw hinv
      refine .inl ⟨wanted_free rfl, fun K hK => ?_⟩
      clear hs hb hr hinv
      go_simp
      exact hK _ _ rfl (Ext.refl _)
    · intro fa fw fk hr hinv hs hb
      have s10 : fa.tmps[(10 : Nat)]? = some (.int .i64 r) := (hb 10 (by kernel_rfl)).trans (by rfl)
      refine .inl ⟨wanted_free rfl, fun K hK => ?_⟩
      clear hs hb hr hinv
      go_simp
      exact hK _ _ rfl (Ext.refl _)
    · intro fa fw fk hr hinv hs hb
      have s5 : fa.tmps[(5 : Nat)]? = some (.pointer (some ⟨w.heap.size + 1, 0, none⟩)) := (hb 5 (by kernel_rfl)).trans (by rfl)
      have c0 := C5.out fk fw hinv
      refine .inl ⟨wanted_free rfl, fun K hK => ?_⟩
      clear hs hb hr hinv
      go_simp
      exact hK _ _ rfl (Ext.refl _)
  case rest =>
    intro w9 hrw9 hiw9
    rintro _ rfl
    rintro _ rfl
    rintro _ rfl
    rintro _ rfl
    rintro _ rfl
    rintro _ rfl
    rintro _ rfl
    simp only [putAll, List.take, Act.put, List.setIfInBounds_toArray, List.set_cons_zero, List.set_cons_succ]
    have hi9 : NodeI w w0.heap.size b 3 (.slice (some ⟨pb, poff, none⟩) n pc) (nodeL w b bg 1 sg) S1 w9 := hiw9
    have hrow := hi9.sm.regs
    rw [GHS1.out.1, RLS1.out] at hrow
    have c0 := hrow.cellAt (r * 2 + 1) (by omega)
    have e0 := (flat2_get RB RN S1.rs r).2
    rw [ATS1.out] at e0
    unfold storeCs at c0
    rw [e0] at c0
    have fz := hrow.frozenAt
    have hi10 := hi9.setNext GHS1.out.1 ATS1.out (bg)
    have HI10 := Lib.hid hi10
    have hri : (r : Int) < (r : Int) + 1 := by omega
    clear hrow e0 hi9 hi10 hiw9 hrw9
    refine wpAny_ready (rs := [7]) (by kernel_rfl) (by simp) (AllReady.cons rfl (fun KK hKK => ?_) AllReady.nil)
    go_simp
    refine hKK _ _ ?_
    clear hKK KK
    refine wpAny_ready (rs := [8]) (by kernel_rfl) (by simp) (AllReady.cons rfl (fun KK hKK => ?_) AllReady.nil)
    go_simp
    refine hKK _ _ ?_
    clear hKK KK
    refine wpAny_ready (rs := [9]) (by kernel_rfl) (by simp) (AllReady.cons rfl (fun KK hKK => ?_) AllReady.nil)
    go_simp
    refine hKK _ _ ?_
    clear hKK KK
    clear c0 fz hri
    refine wpAny_done (by kernel_rfl) ?_ _
    obtain ⟨w10, hw10⟩ : ∃ q, q = w9.setCell ⟨rb, r * 2 + 1, none⟩ (I (bg)) := ⟨_, rfl⟩
    obtain ⟨S2, hS2⟩ : ∃ S, S = { S1 with rs := S1.rs.set r ⟨false, bg⟩ } := ⟨_, rfl⟩
    have hi10 : NodeI w w0.heap.size b 3 (.slice (some ⟨pb, poff, none⟩) n pc) (nodeL w b bg 1 sg) S2 w10 := by rw [hS2, hw10]; exact HI10.out
    have HW10 := Lib.hid hw10; have HS2 := Lib.hid hS2; have HI11 := Lib.hid hi10
    have LS2 : Hid (S2.gs.length = S1.gs.length) := by unfold Hid; rw [hS2]
    rw [← hw10]
    clear HI10 hw10 hS2 hi10
    have hi9 : NodeI w w0.heap.size b 3 (.slice (some ⟨pb, poff, none⟩) n pc) (nodeL w b bg 1 sg) S2 w10 := HI11.out
    have hb6 : Box w10 (w.heap.size + 1 + 1) 81 [I 0, I 0] := (hi9.lo (w.heap.size + 1 + 1, 81, [I 0, I 0]) (by simp)).1
    have z0 := hb6.cell 0; have z1 := hb6.cell 1; have f6 := hb6.free
    simp only [List.getElem?_cons_zero, List.getElem?_cons_succ] at z0 z1
    have hfin := hi9.finish HBS.out (m6 := w.heap.size + 1 + 1) (x := I 0) (y := I 0) (by simp) (by omega) (I ((g : Int))) (I ((g : Int)))
    have HFIN := Lib.hid hfin
    clear hb6 hfin hi9
    go_wp2
    obtain ⟨hmade, y0, y1⟩ := HFIN.out
    have hmod : S2 = stN c (.slice (some ⟨rb, 0, none⟩) (r + 1) rc) es (G ++ (nodeF (.leaf ⟨1, sg⟩) G.length R.length bg).G) (R ++ (nodeF (.leaf ⟨1, sg⟩) G.length R.length bg).R) (E ++ (nodeF (.leaf ⟨1, sg⟩) G.length R.length bg).E) := by
      rw [HS2.out, HS1.out, HS0.out]; simp [nodeF, HG.out, HR0.out, insG]
    have hov : (nodeF (.leaf ⟨1, sg⟩) G.length R.length bg).over = (g : Int) := by simp [nodeF, HG.out]
    have hso : (nodeF (.leaf ⟨1, sg⟩) G.length R.length bg).some = (g : Int) := by simp [nodeF, HG.out]
    rw [hmod] at hmade
    refine bodyPost_ret (v := .agg #[I ((g : Int)), I ((g : Int))]) ?_ rfl ⟨(.slice (some ⟨rb, 0, none⟩) (r + 1) rc), es, by rw [hov, hso], hmade⟩
    clear hmade hmod hov hso HFIN
    simp [results, Try.results39, go_sem, y0, y1]
set_option maxRecDepth 100000 in
set_option maxHeartbeats 16000000 in
theorem node_halt (hp : SlN w0 PA n p) (hn : n ≤ 14) (sg : Int) (k : Nat) (ht : TreeAt p k (.leaf ⟨2, sg⟩)) : NodeOK w0 b PA n pc c (.leaf ⟨2, sg⟩) k := by
  intro w rv es G R E bg hx h hG hR hE _ _ _
  have hle := ht.le
  have hpl := hp.1
  have hkn : k < n := by simp [Tr.size] at hle; omega
  have htop := ht.top
  obtain ⟨pb, poff, y, rfl, d0, d1, -, hy⟩ := hp.next hkn
  have hyx : y = ⟨2, sg⟩ := by rw [htop] at hy; injection hy with hy; exact hy.symm
  subst hyx
  have e0 := hx.keeps _ _ d0; have e1 := hx.keeps _ _ d1
  have q4 := h.cellP
  have hk3 : Keeps w (((w.alloc (.cells #[.pointer (some ⟨b, 0, none⟩)] 72)).alloc (.cells #[I bg] 3)).alloc (.cells #[I 0, I 0] 81)) := ((Keeps.alloc _ _).trans (Keeps.alloc _ _)).trans (Keeps.alloc _ _)
  have q4' := hk3 _ _ q4; have e0' := hk3 _ _ e0; have e1' := hk3 _ _ e1
  have hI := NodeI.begin h bg 2 sg
  obtain ⟨wB, hwB⟩ : ∃ q, q = nodeB w b bg 2 sg := ⟨_, rfl⟩
  rw [← hwB] at hI
  obtain ⟨S0, hS0⟩ : ∃ S, S = stN c rv es G R E := ⟨_, rfl⟩
  rw [← hS0] at hI
  obtain ⟨g, hg⟩ : ∃ g, g = G.length := ⟨_, rfl⟩
  obtain ⟨r, hr0⟩ : ∃ r, r = R.length := ⟨_, rfl⟩
  have l0 : S0.gs.length = g := by rw [hS0, hg]
  have hGb : g ≤ 800 := by rw [hg]; omega
  have hRb : r ≤ 800 := by rw [hr0]; omega
  have hbs : w0.heap.size ≤ w.heap.size := hx.size
  have HI := Lib.hid hI; have HS0 := Lib.hid hS0; have HG := Lib.hid hg; have HR0 := Lib.hid hr0; have LS0 := Lib.hid l0; have HGB := Lib.hid hGb; have HRB := Lib.hid hRb; have HBS := Lib.hid hbs; have HSP := Lib.hid h; have HEB : Hid (E.length ≤ 800) := by unfold Hid; omega
  have HWB : Hid (wB = (((w.alloc (.cells #[.pointer (some ⟨b, 0, none⟩)] 72)).alloc (.cells #[I bg] 3)).alloc (.cells #[I 0, I 0] 81)).alloc (.cells #[I 2, I sg] 64)) := hwB
  clear hp ht hle hpl htop d0 d1 hy hI h hx hG hR hE hk3 q4 e0 e1 hwB hS0 hg hr0 l0 hGb hRb hbs
  go_enter Try.func39, Try.ntmps39
  go_upto_region 14 with fail
  rw [← HWB.out]
  clear q4' e0' e1'
  have q3 := (HI.out.cell (g := w.heap.size) (T := 72) (cs := [.pointer (some ⟨b, 0, none⟩)]) (by simp) 0).trans rfl
  simp only [List.getElem?_cons_zero] at q3
  go_wp2_with fail
  clear q3
  refine (sstore_any HI.out.sm false (by have := HGB.out; have := LS0.out; omega) (by rw [HS0.out]; show R.length ≤ 1000; have := HRB.out; have := HR0.out; omega)).mono ?_
  rintro e w1 ⟨rv1, rfl, hm⟩
  have hi1 := HI.out.step hm
  have hrl : S0.rs.length = r := by rw [HS0.out]; exact HR0.out.symm
  rw [LS0.out, hrl]
  rw [hrl] at hi1
  obtain ⟨S1, hS1⟩ : ∃ S, S = (S0.pushR ⟨false, 0⟩ rv1).pushG (gReg r) := ⟨_, rfl⟩
  rw [← hS1] at hi1
  have l1 : S1.gs.length = g + 1 := by rw [hS1]; have := LS0.out; simp [this]
  have l2 : S1.rs.length = r + 1 := by rw [hS1]; simp [hrl]
  have hrow := hi1.sm.regs
  have hrv : S1.rv = rv1 := by rw [hS1]
  rw [hrv, l2] at hrow
  obtain ⟨rb, rc, erv⟩ := own_form hrow (Nat.succ_pos r)
  subst erv
  have hat : S1.rs[r]? = some ⟨false, 0⟩ := by rw [hS1]; show (S0.rs ++ [_])[r]? = _; rw [← hrl]; simp
  have HI1 := Lib.hid hi1; have HS1 := Lib.hid hS1; have LS1 := Lib.hid l1; have RL1 := Lib.hid l2; have HRV := Lib.hid hrv; have HAT := Lib.hid hat
  have GHS1 : Hid (S1.rv = .slice (some ⟨rb, 0, none⟩) (r + 1) rc ∧ S1.iv = c.iv ∧ S1.ins = [0, 1, 2]) := by
    unfold Hid; exact ⟨HRV.out, by rw [HS1.out, HS0.out], by rw [HS1.out, HS0.out]⟩
  clear hm hi1 hS1 l1 l2 hrow hrv hat hrl
  have RLS1 : Hid (S1.rs.length = r + 1) := RL1.out; have ATS1 : Hid (S1.rs[r]? = some ⟨false, 0⟩) := HAT.out
  obtain ⟨S2, hS2⟩ : ∃ S, S = S1.pushG (gAny [bg, (g : Int)]) := ⟨_, rfl⟩
  have lS2 : S2.gs.length = g + 2 := by rw [hS2]; have := LS1.out; simp [this]
  have HS2 := Lib.hid hS2; have LS2 := Lib.hid lS2; clear hS2 lS2
  have RLS2 : Hid (S2.rs.length = r + 1) := by unfold Hid; rw [HS2.out]; exact RLS1.out
  have ATS2 : Hid (S2.rs[r]? = some ⟨false, 0⟩) := by unfold Hid; rw [HS2.out]; exact ATS1.out
  have GHS2 : Hid (S2.rv = .slice (some ⟨rb, 0, none⟩) (r + 1) rc ∧ S2.iv = c.iv ∧ S2.ins = [0, 1, 2]) := by
    unfold Hid; rw [HS2.out]; exact GHS1.out
  have C3 := Lib.hid (show ∀ k w', NodeI w w0.heap.size b 3 (.slice (some ⟨pb, poff, none⟩) n pc) (nodeL w b bg 2 sg) (nthS [S1, S2] k) w' → w'.cell? ⟨w.heap.size, 0, none⟩ = some (.pointer (some ⟨b, 0, none⟩)) from fun k w' h => h.cell (g := w.heap.size) (T := 72) (cs := [.pointer (some ⟨b, 0, none⟩)]) (by simp) 0)
  have C5 := Lib.hid (show ∀ k w', NodeI w w0.heap.size b 3 (.slice (some ⟨pb, poff, none⟩) n pc) (nodeL w b bg 2 sg) (nthS [S1, S2] k) w' → w'.cell? ⟨w.heap.size + 1, 0, none⟩ = some (I bg) from fun k w' h => h.cell (g := w.heap.size + 1) (T := 3) (cs := [I bg]) (by simp) 0)
  have C7 := Lib.hid (show ∀ k w', NodeI w w0.heap.size b 3 (.slice (some ⟨pb, poff, none⟩) n pc) (nodeL w b bg 2 sg) (nthS [S1, S2] k) w' → w'.cell? ⟨w.heap.size + 1 + 1 + 1, 1, none⟩ = some (I sg) from fun k w' h => h.cell (g := w.heap.size + 1 + 1 + 1) (T := 64) (cs := [I 2, I sg]) (by simp) 1)
  have ghs : ∀ k, (nthS [S1, S2] k).rv = .slice (some ⟨rb, 0, none⟩) (r + 1) rc ∧ (nthS [S1, S2] k).iv = c.iv ∧ (nthS [S1, S2] k).ins = [0, 1, 2] := fun k => by
    match k with
    | 0 => exact GHS1.out
    | k + 1 => cases k <;> exact GHS2.out
  have CR := Lib.hid (show ∀ k w', NodeI w w0.heap.size b 3 (.slice (some ⟨pb, poff, none⟩) n pc) (nodeL w b bg 2 sg) (nthS [S1, S2] k) w' → w'.cell? ⟨b, 2, none⟩ = some (.slice (some ⟨rb, 0, none⟩) (r + 1) rc) from fun k w' h => by rw [← (ghs k).1]; exact h.sm.cellR)
  clear ghs
  go_upto_region 15 with fail
  refine wp_flow7 11 3 [10] [] (RelF b) (fun k => NodeI w w0.heap.size b 3 (.slice (some ⟨pb, poff, none⟩) n pc) (nodeL w b bg 2 sg) (nthS [S1, S2] k)) [isV (.pointer (some ⟨b, 0, none⟩)), isV (.pointer (some ⟨b, 0, none⟩)), isV (.pointer (some ⟨b, 0, none⟩)), isV (.pointer (some ⟨b, 2, none⟩)), isV (.slice (some ⟨rb, 0, none⟩) (r + 1) rc), isV (.int .i64 r), isV (.pointer (some ⟨b, 0, none⟩)), isV (I bg), isV (.int .i64 g), fun v w => ∃ gz, v = .slice (some ⟨gz, 0, none⟩) 2 2 ∧ ArgP w w0.heap.size b (.slice (some ⟨gz, 0, none⟩) 2 2) [bg, (g : Int)], isV (.int .i64 ((g : Int) + 1))] (by kernel_rfl) rfl rfl (by kernel_rfl) (by kernel_rfl) (by kernel_rfl) (RelF.refl b _) (fun _ _ _ h k => RelF.trans h k) (fun k w' w'' h hx => NodeI.ext h hx) HI1.out ⟨.inr (fun _ _ _ h _ => h), .inr (fun _ _ _ h _ => h), .inr (fun _ _ _ h _ => h), .inr (fun _ _ _ h _ => h), .inr (fun _ _ _ h _ => h), .inr (fun _ _ _ h _ => h), .inr (fun _ _ _ h _ => h), .inr (fun _ _ _ h _ => h), .inr (fun _ _ _ h _ => h), .inr (fun v w w' ⟨g, e, h⟩ hr => ⟨g, e, h.rel hr⟩), .inr (fun _ _ _ h _ => h), trivial⟩ ?each ?rest
  case each =>
    refine .light rfl ?_ (.light rfl ?_ (.light rfl ?_ (.light rfl ?_ (.light rfl ?_ (.light rfl ?_ (.light rfl ?_ (.light rfl ?_ (.light rfl ?_ (.light rfl ?_ (.heavy 0 rfl ?_ (.nil)))))))))))
    · intro fa fw fk hr hinv hs hb
      have s3 : fa.tmps[(3 : Nat)]? = some (.pointer (some ⟨w.heap.size, 0, none⟩)) := (hb 3 (by kernel_rfl)).trans (by rfl)
      have c0 := C3.out fk fw hinv
      refine .inl ⟨wanted_free rfl, fun K hK => ?_⟩
      clear hs hb hr hinv
      go_simp
      exact hK _ _ rfl (Ext.refl _)
    · intro fa fw fk hr hinv hs hb
      obtain ⟨_, s92, rfl⟩ := hs 0 92 (by kernel_rfl) (by kernel_rfl)
      refine .inl ⟨wanted_free rfl, fun K hK => ?_⟩
      clear hs hb hr hinv
      go_simp
      exact hK _ _ rfl (Ext.refl _)
    · intro fa fw fk hr hinv hs hb
      obtain ⟨_, s93, rfl⟩ := hs 1 93 (by kernel_rfl) (by kernel_rfl)
      refine .inl ⟨wanted_free rfl, fun K hK => ?_⟩
      clear hs hb hr hinv
      go_simp
      exact hK _ _ rfl (Ext.refl _)
    · intro fa fw fk hr hinv hs hb
      obtain ⟨_, s94, rfl⟩ := hs 2 94 (by kernel_rfl) (by kernel_rfl)
      refine .inl ⟨wanted_free rfl, fun K hK => ?_⟩
      clear hs hb hr hinv
      go_simp
      exact hK _ _ rfl (Ext.refl _)
    · intro fa fw fk hr hinv hs hb
      obtain ⟨_, s95, rfl⟩ := hs 3 95 (by kernel_rfl) (by kernel_rfl)
      have c0 := CR.out fk fw hinv
      refine .inl ⟨wanted_free rfl, fun K hK => ?_⟩
      clear hs hb hr hinv
      go_simp
      exact hK _ _ rfl (Ext.refl _)
    · intro fa fw fk hr hinv hs hb
      have s12 : fa.tmps[(12 : Nat)]? = some (.int .i64 r) := (hb 12 (by kernel_rfl)).trans (by rfl)
      refine .inl ⟨wanted_free rfl, fun K hK => ?_⟩
      clear hs hb hr hinv
      go_simp
      exact hK _ _ rfl (Ext.refl _)
    · intro fa fw fk hr hinv hs hb
      have s3 : fa.tmps[(3 : Nat)]? = some (.pointer (some ⟨w.heap.size, 0, none⟩)) := (hb 3 (by kernel_rfl)).trans (by rfl)
      have c0 := C3.out fk fw hinv
      refine .inl ⟨wanted_free rfl, fun K hK => ?_⟩
      clear hs hb hr hinv
      go_simp
      exact hK _ _ rfl (Ext.refl _)
    · intro fa fw fk hr hinv hs hb
      have s5 : fa.tmps[(5 : Nat)]? = some (.pointer (some ⟨w.heap.size + 1, 0, none⟩)) := (hb 5 (by kernel_rfl)).trans (by rfl)
      have c0 := C5.out fk fw hinv
      refine .inl ⟨wanted_free rfl, fun K hK => ?_⟩
      clear hs hb hr hinv
      go_simp
      exact hK _ _ rfl (Ext.refl _)
    · intro fa fw fk hr hinv hs hb
      have s11 : fa.tmps[(11 : Nat)]? = some (.int .i64 g) := (hb 11 (by kernel_rfl)).trans (by rfl)
      refine .inl ⟨wanted_free rfl, fun K hK => ?_⟩
      clear hs hb hr hinv
      go_simp
      exact hK _ _ rfl (Ext.refl _)
    · intro fa fw fk hr hinv hs hb
      obtain ⟨_, s99, rfl⟩ := hs 7 99 (by kernel_rfl) (by kernel_rfl)
      obtain ⟨_, s100, rfl⟩ := hs 8 100 (by kernel_rfl) (by kernel_rfl)
      refine .inl ⟨wanted_free rfl, fun K hK => ?_⟩
      clear hs hb
      go_simp
      exact hK _ _ ⟨fw.heap.size, rfl, ArgP.new hinv.sm [bg, (g : Int)] _ rfl (by simp)⟩ ((Ext.refl _).alloc _)
    · intro fa fw hr hinv hs hb
      obtain ⟨_, s98, rfl⟩ := hs 6 98 (by kernel_rfl) (by kernel_rfl)
      obtain ⟨_, s101, b101, rfl, k101⟩ := hs 9 101 (by kernel_rfl) (by kernel_rfl)
      refine ⟨wanted_free rfl, fun K hK => ?_⟩
      clear hs hb
      go_simp
      refine (sany_any hinv.sm _ [bg, (g : Int)] k101 (by show S1.gs.length ≤ 1000; have := HGB.out; have := LS1.out; omega)).mono ?_
      rintro e w' ⟨rfl, hm⟩
      have hq := hinv.step hm
      rw [show (nthS [S1, S2] 0).gs.length = _ from LS1.out]
      exact hK _ _ rfl hm.rel (by show NodeI _ _ _ _ _ _ S2 _; rw [HS2.out]; exact hq)
  case rest =>
    intro w9 hrw9 hiw9
    rintro _ rfl
    rintro _ rfl
    rintro _ rfl
    rintro _ rfl
    rintro _ rfl
    rintro _ rfl
    rintro _ rfl
    rintro _ rfl
    rintro _ rfl
    rintro _ ⟨b101, rfl, k101⟩
    rintro _ rfl
    simp only [putAll, List.take, Act.put, List.setIfInBounds_toArray, List.set_cons_zero, List.set_cons_succ]
    have hi9 : NodeI w w0.heap.size b 3 (.slice (some ⟨pb, poff, none⟩) n pc) (nodeL w b bg 2 sg) S2 w9 := hiw9
    have hrow := hi9.sm.regs
    rw [GHS2.out.1, RLS2.out] at hrow
    have c0 := hrow.cellAt (r * 2 + 1) (by omega)
    have e0 := (flat2_get RB RN S2.rs r).2
    rw [ATS2.out] at e0
    unfold storeCs at c0
    rw [e0] at c0
    have fz := hrow.frozenAt
    have hi10 := hi9.setNext GHS2.out.1 ATS2.out ((g : Int) + 1)
    have HI10 := Lib.hid hi10
    have hri : (r : Int) < (r : Int) + 1 := by omega
    clear hrow e0 hi9 hi10 hiw9 hrw9
    refine wpAny_ready (rs := [11]) (by kernel_rfl) (by simp) (AllReady.cons rfl (fun KK hKK => ?_) AllReady.nil)
    go_simp
    refine hKK _ _ ?_
    clear hKK KK
    refine wpAny_ready (rs := [12]) (by kernel_rfl) (by simp) (AllReady.cons rfl (fun KK hKK => ?_) AllReady.nil)
    go_simp
    refine hKK _ _ ?_
    clear hKK KK
    refine wpAny_ready (rs := [13]) (by kernel_rfl) (by simp) (AllReady.cons rfl (fun KK hKK => ?_) AllReady.nil)
    go_simp
    refine hKK _ _ ?_
    clear hKK KK
    clear c0 fz hri
    refine wpAny_done (by kernel_rfl) ?_ _
    obtain ⟨w10, hw10⟩ : ∃ q, q = w9.setCell ⟨rb, r * 2 + 1, none⟩ (I ((g : Int) + 1)) := ⟨_, rfl⟩
    obtain ⟨S3, hS3⟩ : ∃ S, S = { S2 with rs := S2.rs.set r ⟨false, (g : Int) + 1⟩ } := ⟨_, rfl⟩
    have hi10 : NodeI w w0.heap.size b 3 (.slice (some ⟨pb, poff, none⟩) n pc) (nodeL w b bg 2 sg) S3 w10 := by rw [hS3, hw10]; exact HI10.out
    have HW10 := Lib.hid hw10; have HS3 := Lib.hid hS3; have HI11 := Lib.hid hi10
    have LS3 : Hid (S3.gs.length = S2.gs.length) := by unfold Hid; rw [hS3]
    rw [← hw10]
    clear HI10 hw10 hS3 hi10
    have q3 := (HI11.out.cell (g := w.heap.size) (T := 72) (cs := [.pointer (some ⟨b, 0, none⟩)]) (by simp) 0).trans rfl
    simp only [List.getElem?_cons_zero] at q3
    have Q3 := Lib.hid q3
    clear q3
    go_wp2_with fail
    refine (snever_any HI11.out.sm (w.heap.size) Q3.out (by have := LS3.out; have := LS2.out; have := HGB.out; omega)).mono ?_
    rintro e w11 ⟨rfl, hm⟩
    have hi12 := HI11.out.step hm
    have l3 : S3.gs.length = g + 2 := LS3.out.trans LS2.out
    rw [l3]
    obtain ⟨S4, hS4⟩ : ∃ S, S = S3.pushG gNever := ⟨_, rfl⟩
    rw [← hS4] at hi12
    have HS4 := Lib.hid hS4; have HI12 := Lib.hid hi12
    clear hm hi12 hS4 l3
    have hi9 : NodeI w w0.heap.size b 3 (.slice (some ⟨pb, poff, none⟩) n pc) (nodeL w b bg 2 sg) S4 w11 := HI12.out
    have hb6 : Box w11 (w.heap.size + 1 + 1) 81 [I 0, I 0] := (hi9.lo (w.heap.size + 1 + 1, 81, [I 0, I 0]) (by simp)).1
    have z0 := hb6.cell 0; have z1 := hb6.cell 1; have f6 := hb6.free
    simp only [List.getElem?_cons_zero, List.getElem?_cons_succ] at z0 z1
    have hfin := hi9.finish HBS.out (m6 := w.heap.size + 1 + 1) (x := I 0) (y := I 0) (by simp) (by omega) (I ((g : Int) + 2)) (I ((g : Int)))
    have HFIN := Lib.hid hfin
    clear hb6 hfin hi9
    go_wp2
    obtain ⟨hmade, y0, y1⟩ := HFIN.out
    have hmod : S4 = stN c (.slice (some ⟨rb, 0, none⟩) (r + 1) rc) es (G ++ (nodeF (.leaf ⟨2, sg⟩) G.length R.length bg).G) (R ++ (nodeF (.leaf ⟨2, sg⟩) G.length R.length bg).R) (E ++ (nodeF (.leaf ⟨2, sg⟩) G.length R.length bg).E) := by
      rw [HS4.out, HS3.out, HS2.out, HS1.out, HS0.out]; simp [nodeF, HG.out, HR0.out, insG]
    have hov : (nodeF (.leaf ⟨2, sg⟩) G.length R.length bg).over = (g : Int) + 2 := by simp [nodeF, HG.out]
    have hso : (nodeF (.leaf ⟨2, sg⟩) G.length R.length bg).some = (g : Int) := by simp [nodeF, HG.out]
    rw [hmod] at hmade
    refine bodyPost_ret (v := .agg #[I ((g : Int) + 2), I ((g : Int))]) ?_ rfl ⟨(.slice (some ⟨rb, 0, none⟩) (r + 1) rc), es, by rw [hov, hso], hmade⟩
    clear hmade hmod hov hso HFIN
    simp [results, Try.results39, go_sem, y0, y1]
set_option maxRecDepth 100000 in
set_option maxHeartbeats 16000000 in
theorem node_await (hp : SlN w0 PA n p) (hn : n ≤ 14) (sn : Nat) (hsn : sn ≤ 2) (k : Nat) (ht : TreeAt p k (.leaf ⟨4, (sn : Int)⟩)) : NodeOK w0 b PA n pc c (.leaf ⟨4, (sn : Int)⟩) k := by
  intro w rv es G R E bg hx h hG hR hE _ _ _
  have hle := ht.le
  have hpl := hp.1
  have hkn : k < n := by simp [Tr.size] at hle; omega
  have htop := ht.top
  obtain ⟨pb, poff, y, rfl, d0, d1, -, hy⟩ := hp.next hkn
  have hyx : y = ⟨4, (sn : Int)⟩ := by rw [htop] at hy; injection hy with hy; exact hy.symm
  subst hyx
  have e0 := hx.keeps _ _ d0; have e1 := hx.keeps _ _ d1
  have q4 := h.cellP
  have hk3 : Keeps w (((w.alloc (.cells #[.pointer (some ⟨b, 0, none⟩)] 72)).alloc (.cells #[I bg] 3)).alloc (.cells #[I 0, I 0] 81)) := ((Keeps.alloc _ _).trans (Keeps.alloc _ _)).trans (Keeps.alloc _ _)
  have q4' := hk3 _ _ q4; have e0' := hk3 _ _ e0; have e1' := hk3 _ _ e1
  have hI := NodeI.begin h bg 4 (sn : Int)
  obtain ⟨wB, hwB⟩ : ∃ q, q = nodeB w b bg 4 (sn : Int) := ⟨_, rfl⟩
  rw [← hwB] at hI
  obtain ⟨S0, hS0⟩ : ∃ S, S = stN c rv es G R E := ⟨_, rfl⟩
  rw [← hS0] at hI
  obtain ⟨g, hg⟩ : ∃ g, g = G.length := ⟨_, rfl⟩
  obtain ⟨r, hr0⟩ : ∃ r, r = R.length := ⟨_, rfl⟩
  have l0 : S0.gs.length = g := by rw [hS0, hg]
  have hGb : g ≤ 800 := by rw [hg]; omega
  have hRb : r ≤ 800 := by rw [hr0]; omega
  have hbs : w0.heap.size ≤ w.heap.size := hx.size
  have HI := Lib.hid hI; have HS0 := Lib.hid hS0; have HG := Lib.hid hg; have HR0 := Lib.hid hr0; have LS0 := Lib.hid l0; have HGB := Lib.hid hGb; have HRB := Lib.hid hRb; have HBS := Lib.hid hbs; have HSP := Lib.hid h; have HEB : Hid (E.length ≤ 800) := by unfold Hid; omega
  have HWB : Hid (wB = (((w.alloc (.cells #[.pointer (some ⟨b, 0, none⟩)] 72)).alloc (.cells #[I bg] 3)).alloc (.cells #[I 0, I 0] 81)).alloc (.cells #[I 4, I (sn : Int)] 64)) := hwB
  clear hp ht hle hpl htop d0 d1 hy hI h hx hG hR hE hk3 q4 e0 e1 hwB hS0 hg hr0 l0 hGb hRb hbs
  go_enter Try.func39, Try.ntmps39
  go_upto_region 18 with fail
  rw [← HWB.out]
  clear q4' e0' e1'
  have hsni : (sn : Int) < 3 := by omega
  have hri := HSP.out.ins
  obtain ⟨ib, ic, eiv⟩ := own_form hri (Nat.succ_pos 2)
  have HIV : Hid (c.iv = .slice (some ⟨ib, 0, none⟩) 3 ic) := eiv
  clear hri eiv
  have q3 := (HI.out.cell (g := w.heap.size) (T := 72) (cs := [.pointer (some ⟨b, 0, none⟩)]) (by simp) 0).trans rfl
  simp only [List.getElem?_cons_zero] at q3
  go_wp2_with fail
  clear q3
  refine (sstore_any HI.out.sm false (by have := HGB.out; have := LS0.out; omega) (by rw [HS0.out]; show R.length ≤ 1000; have := HRB.out; have := HR0.out; omega)).mono ?_
  rintro e w1 ⟨rv1, rfl, hm⟩
  have hi1 := HI.out.step hm
  have hrl : S0.rs.length = r := by rw [HS0.out]; exact HR0.out.symm
  rw [LS0.out, hrl]
  rw [hrl] at hi1
  obtain ⟨S1, hS1⟩ : ∃ S, S = (S0.pushR ⟨false, 0⟩ rv1).pushG (gReg r) := ⟨_, rfl⟩
  rw [← hS1] at hi1
  have l1 : S1.gs.length = g + 1 := by rw [hS1]; have := LS0.out; simp [this]
  have l2 : S1.rs.length = r + 1 := by rw [hS1]; simp [hrl]
  have hrow := hi1.sm.regs
  have hrv : S1.rv = rv1 := by rw [hS1]
  rw [hrv, l2] at hrow
  obtain ⟨rb, rc, erv⟩ := own_form hrow (Nat.succ_pos r)
  subst erv
  have hat : S1.rs[r]? = some ⟨false, 0⟩ := by rw [hS1]; show (S0.rs ++ [_])[r]? = _; rw [← hrl]; simp
  have HI1 := Lib.hid hi1; have HS1 := Lib.hid hS1; have LS1 := Lib.hid l1; have RL1 := Lib.hid l2; have HRV := Lib.hid hrv; have HAT := Lib.hid hat
  have GHS1 : Hid (S1.rv = .slice (some ⟨rb, 0, none⟩) (r + 1) rc ∧ S1.iv = c.iv ∧ S1.ins = [0, 1, 2]) := by
    unfold Hid; exact ⟨HRV.out, by rw [HS1.out, HS0.out], by rw [HS1.out, HS0.out]⟩
  clear hm hi1 hS1 l1 l2 hrow hrv hat hrl
  have RLS1 : Hid (S1.rs.length = r + 1) := RL1.out; have ATS1 : Hid (S1.rs[r]? = some ⟨false, 0⟩) := HAT.out
  obtain ⟨S2, hS2⟩ : ∃ S, S = S1.pushG (gNot (sn : Int)) := ⟨_, rfl⟩
  have lS2 : S2.gs.length = g + 2 := by rw [hS2]; have := LS1.out; simp [this]
  have HS2 := Lib.hid hS2; have LS2 := Lib.hid lS2; clear hS2 lS2
  have RLS2 : Hid (S2.rs.length = r + 1) := by unfold Hid; rw [HS2.out]; exact RLS1.out
  have ATS2 : Hid (S2.rs[r]? = some ⟨false, 0⟩) := by unfold Hid; rw [HS2.out]; exact ATS1.out
  have GHS2 : Hid (S2.rv = .slice (some ⟨rb, 0, none⟩) (r + 1) rc ∧ S2.iv = c.iv ∧ S2.ins = [0, 1, 2]) := by
    unfold Hid; rw [HS2.out]; exact GHS1.out
  obtain ⟨S3, hS3⟩ : ∃ S, S = S2.pushG (gAll [(g : Int), (g : Int) + 1]) := ⟨_, rfl⟩
  have lS3 : S3.gs.length = g + 3 := by rw [hS3]; have := LS2.out; simp [this]
  have HS3 := Lib.hid hS3; have LS3 := Lib.hid lS3; clear hS3 lS3
  have RLS3 : Hid (S3.rs.length = r + 1) := by unfold Hid; rw [HS3.out]; exact RLS2.out
  have ATS3 : Hid (S3.rs[r]? = some ⟨false, 0⟩) := by unfold Hid; rw [HS3.out]; exact ATS2.out
  have GHS3 : Hid (S3.rv = .slice (some ⟨rb, 0, none⟩) (r + 1) rc ∧ S3.iv = c.iv ∧ S3.ins = [0, 1, 2]) := by
    unfold Hid; rw [HS3.out]; exact GHS2.out
  obtain ⟨S4, hS4⟩ : ∃ S, S = S3.pushG (gAny [bg, (g : Int) + 2]) := ⟨_, rfl⟩
  have lS4 : S4.gs.length = g + 4 := by rw [hS4]; have := LS3.out; simp [this]
  have HS4 := Lib.hid hS4; have LS4 := Lib.hid lS4; clear hS4 lS4
  have RLS4 : Hid (S4.rs.length = r + 1) := by unfold Hid; rw [HS4.out]; exact RLS3.out
  have ATS4 : Hid (S4.rs[r]? = some ⟨false, 0⟩) := by unfold Hid; rw [HS4.out]; exact ATS3.out
  have GHS4 : Hid (S4.rv = .slice (some ⟨rb, 0, none⟩) (r + 1) rc ∧ S4.iv = c.iv ∧ S4.ins = [0, 1, 2]) := by
    unfold Hid; rw [HS4.out]; exact GHS3.out
  have C3 := Lib.hid (show ∀ k w', NodeI w w0.heap.size b 3 (.slice (some ⟨pb, poff, none⟩) n pc) (nodeL w b bg 4 (sn : Int)) (nthS [S1, S2, S3, S4] k) w' → w'.cell? ⟨w.heap.size, 0, none⟩ = some (.pointer (some ⟨b, 0, none⟩)) from fun k w' h => h.cell (g := w.heap.size) (T := 72) (cs := [.pointer (some ⟨b, 0, none⟩)]) (by simp) 0)
  have C5 := Lib.hid (show ∀ k w', NodeI w w0.heap.size b 3 (.slice (some ⟨pb, poff, none⟩) n pc) (nodeL w b bg 4 (sn : Int)) (nthS [S1, S2, S3, S4] k) w' → w'.cell? ⟨w.heap.size + 1, 0, none⟩ = some (I bg) from fun k w' h => h.cell (g := w.heap.size + 1) (T := 3) (cs := [I bg]) (by simp) 0)
  have C7 := Lib.hid (show ∀ k w', NodeI w w0.heap.size b 3 (.slice (some ⟨pb, poff, none⟩) n pc) (nodeL w b bg 4 (sn : Int)) (nthS [S1, S2, S3, S4] k) w' → w'.cell? ⟨w.heap.size + 1 + 1 + 1, 1, none⟩ = some (I (sn : Int)) from fun k w' h => h.cell (g := w.heap.size + 1 + 1 + 1) (T := 64) (cs := [I 4, I (sn : Int)]) (by simp) 1)
  have ghs : ∀ k, (nthS [S1, S2, S3, S4] k).rv = .slice (some ⟨rb, 0, none⟩) (r + 1) rc ∧ (nthS [S1, S2, S3, S4] k).iv = c.iv ∧ (nthS [S1, S2, S3, S4] k).ins = [0, 1, 2] := fun k => by
    match k with
    | 0 => exact GHS1.out
    | 1 => exact GHS2.out
    | 2 => exact GHS3.out
    | k + 3 => cases k <;> exact GHS4.out
  have CR := Lib.hid (show ∀ k w', NodeI w w0.heap.size b 3 (.slice (some ⟨pb, poff, none⟩) n pc) (nodeL w b bg 4 (sn : Int)) (nthS [S1, S2, S3, S4] k) w' → w'.cell? ⟨b, 2, none⟩ = some (.slice (some ⟨rb, 0, none⟩) (r + 1) rc) from fun k w' h => by rw [← (ghs k).1]; exact h.sm.cellR)
  have CI := Lib.hid (show ∀ k w', NodeI w w0.heap.size b 3 (.slice (some ⟨pb, poff, none⟩) n pc) (nodeL w b bg 4 (sn : Int)) (nthS [S1, S2, S3, S4] k) w' → w'.cell? ⟨b, 5, none⟩ = some (.slice (some ⟨ib, 0, none⟩) 3 ic) from fun k w' h => by rw [← HIV.out, ← (ghs k).2.1]; exact h.sm.cellI)
  have CX := Lib.hid (show ∀ k w', NodeI w w0.heap.size b 3 (.slice (some ⟨pb, poff, none⟩) n pc) (nodeL w b bg 4 (sn : Int)) (nthS [S1, S2, S3, S4] k) w' → w'.cell? ⟨ib, sn, none⟩ = some (I sn) from fun k w' h => by
    have hr := h.sm.ins
    rw [(ghs k).2.1, (ghs k).2.2, HIV.out] at hr
    have hc := hr.cellAt sn (show sn < 3 * 1 by omega)
    rw [hc]
    have : sn = 0 ∨ sn = 1 ∨ sn = 2 := by omega
    rcases this with rfl | rfl | rfl <;> rfl)
  clear ghs
  go_upto_region 19 with fail
  refine wp_flow7 24 3 [19, 21, 23] [] (RelF b) (fun k => NodeI w w0.heap.size b 3 (.slice (some ⟨pb, poff, none⟩) n pc) (nodeL w b bg 4 (sn : Int)) (nthS [S1, S2, S3, S4] k)) [isV (.pointer (some ⟨b, 0, none⟩)), isV (.pointer (some ⟨b, 0, none⟩)), isV (.pointer (some ⟨b, 0, none⟩)), isV (.pointer (some ⟨b, 2, none⟩)), isV (.slice (some ⟨rb, 0, none⟩) (r + 1) rc), isV (.int .i64 r), isV (.pointer (some ⟨b, 0, none⟩)), isV (I bg), isV (.pointer (some ⟨b, 0, none⟩)), isV (.int .i64 g), isV (.pointer (some ⟨b, 0, none⟩)), isV (.pointer (some ⟨b, 0, none⟩)), isV (.pointer (some ⟨b, 0, none⟩)), isV (.pointer (some ⟨b, 5, none⟩)), isV (.slice (some ⟨ib, 0, none⟩) 3 ic), isV (.pointer (some ⟨w.heap.size + 1 + 1 + 1, 1, none⟩)), isV (I (sn : Int)), isV (.pointer (some ⟨ib, sn, none⟩)), isV (I sn), isV (.int .i64 ((g : Int) + 1)), fun v w => ∃ gz, v = .slice (some ⟨gz, 0, none⟩) 2 2 ∧ ArgP w w0.heap.size b (.slice (some ⟨gz, 0, none⟩) 2 2) [(g : Int), (g : Int) + 1], isV (.int .i64 ((g : Int) + 2)), fun v w => ∃ gz, v = .slice (some ⟨gz, 0, none⟩) 2 2 ∧ ArgP w w0.heap.size b (.slice (some ⟨gz, 0, none⟩) 2 2) [bg, (g : Int) + 2], isV (.int .i64 ((g : Int) + 3))] (by kernel_rfl) rfl rfl (by kernel_rfl) (by kernel_rfl) (by kernel_rfl) (RelF.refl b _) (fun _ _ _ h k => RelF.trans h k) (fun k w' w'' h hx => NodeI.ext h hx) HI1.out ⟨.inr (fun _ _ _ h _ => h), .inr (fun _ _ _ h _ => h), .inr (fun _ _ _ h _ => h), .inr (fun _ _ _ h _ => h), .inr (fun _ _ _ h _ => h), .inr (fun _ _ _ h _ => h), .inr (fun _ _ _ h _ => h), .inr (fun _ _ _ h _ => h), .inr (fun _ _ _ h _ => h), .inr (fun _ _ _ h _ => h), .inr (fun _ _ _ h _ => h), .inr (fun _ _ _ h _ => h), .inr (fun _ _ _ h _ => h), .inr (fun _ _ _ h _ => h), .inr (fun _ _ _ h _ => h), .inr (fun _ _ _ h _ => h), .inr (fun _ _ _ h _ => h), .inr (fun _ _ _ h _ => h), .inr (fun _ _ _ h _ => h), .inr (fun _ _ _ h _ => h), .inr (fun v w w' ⟨g, e, h⟩ hr => ⟨g, e, h.rel hr⟩), .inr (fun _ _ _ h _ => h), .inr (fun v w w' ⟨g, e, h⟩ hr => ⟨g, e, h.rel hr⟩), .inr (fun _ _ _ h _ => h), trivial⟩ ?each ?rest
  case each =>
    refine .light rfl ?_ (.light rfl ?_ (.light rfl ?_ (.light rfl ?_ (.light rfl ?_ (.light rfl ?_ (.light rfl ?_ (.light rfl ?_ (.light rfl ?_ (.light rfl ?_ (.light rfl ?_ (.light rfl ?_ (.light rfl ?_ (.light rfl ?_ (.light rfl ?_ (.light rfl ?_ (.light rfl ?_ (.light rfl ?_ (.light rfl ?_ (.heavy 0 rfl ?_ (.light rfl ?_ (.heavy 1 rfl ?_ (.light rfl ?_ (.heavy 2 rfl ?_ (.nil))))))))))))))))))))))))
    · intro fa fw fk hr hinv hs hb
      have s3 : fa.tmps[(3 : Nat)]? = some (.pointer (some ⟨w.heap.size, 0, none⟩)) := (hb 3 (by kernel_rfl)).trans (by rfl)
      have c0 := C3.out fk fw hinv
      refine .inl ⟨wanted_free rfl, fun K hK => ?_⟩
      clear hs hb hr hinv
      go_simp
      exact hK _ _ rfl (Ext.refl _)
    · intro fa fw fk hr hinv hs hb
      obtain ⟨_, s116, rfl⟩ := hs 0 116 (by kernel_rfl) (by kernel_rfl)
      refine .inl ⟨wanted_free rfl, fun K hK => ?_⟩
      clear hs hb hr hinv
      go_simp
      exact hK _ _ rfl (Ext.refl _)
    · intro fa fw fk hr hinv hs hb
      obtain ⟨_, s117, rfl⟩ := hs 1 117 (by kernel_rfl) (by kernel_rfl)
      refine .inl ⟨wanted_free rfl, fun K hK => ?_⟩
      clear hs hb hr hinv
      go_simp
      exact hK _ _ rfl (Ext.refl _)
    · intro fa fw fk hr hinv hs hb
      obtain ⟨_, s118, rfl⟩ := hs 2 118 (by kernel_rfl) (by kernel_rfl)
      refine .inl ⟨wanted_free rfl, fun K hK => ?_⟩
      clear hs hb hr hinv
      go_simp
      exact hK _ _ rfl (Ext.refl _)
    · intro fa fw fk hr hinv hs hb
      obtain ⟨_, s119, rfl⟩ := hs 3 119 (by kernel_rfl) (by kernel_rfl)
      have c0 := CR.out fk fw hinv
      refine .inl ⟨wanted_free rfl, fun K hK => ?_⟩
      clear hs hb hr hinv
      go_simp
      exact hK _ _ rfl (Ext.refl _)
    · intro fa fw fk hr hinv hs hb
      have s14 : fa.tmps[(14 : Nat)]? = some (.int .i64 r) := (hb 14 (by kernel_rfl)).trans (by rfl)
      refine .inl ⟨wanted_free rfl, fun K hK => ?_⟩
      clear hs hb hr hinv
      go_simp
      exact hK _ _ rfl (Ext.refl _)
    · intro fa fw fk hr hinv hs hb
      have s3 : fa.tmps[(3 : Nat)]? = some (.pointer (some ⟨w.heap.size, 0, none⟩)) := (hb 3 (by kernel_rfl)).trans (by rfl)
      have c0 := C3.out fk fw hinv
      refine .inl ⟨wanted_free rfl, fun K hK => ?_⟩
      clear hs hb hr hinv
      go_simp
      exact hK _ _ rfl (Ext.refl _)
    · intro fa fw fk hr hinv hs hb
      have s5 : fa.tmps[(5 : Nat)]? = some (.pointer (some ⟨w.heap.size + 1, 0, none⟩)) := (hb 5 (by kernel_rfl)).trans (by rfl)
      have c0 := C5.out fk fw hinv
      refine .inl ⟨wanted_free rfl, fun K hK => ?_⟩
      clear hs hb hr hinv
      go_simp
      exact hK _ _ rfl (Ext.refl _)
    · intro fa fw fk hr hinv hs hb
      have s3 : fa.tmps[(3 : Nat)]? = some (.pointer (some ⟨w.heap.size, 0, none⟩)) := (hb 3 (by kernel_rfl)).trans (by rfl)
      have c0 := C3.out fk fw hinv
      refine .inl ⟨wanted_free rfl, fun K hK => ?_⟩
      clear hs hb hr hinv
      go_simp
      exact hK _ _ rfl (Ext.refl _)
    · intro fa fw fk hr hinv hs hb
      have s13 : fa.tmps[(13 : Nat)]? = some (.int .i64 g) := (hb 13 (by kernel_rfl)).trans (by rfl)
      refine .inl ⟨wanted_free rfl, fun K hK => ?_⟩
      clear hs hb hr hinv
      go_simp
      exact hK _ _ rfl (Ext.refl _)
    · intro fa fw fk hr hinv hs hb
      have s3 : fa.tmps[(3 : Nat)]? = some (.pointer (some ⟨w.heap.size, 0, none⟩)) := (hb 3 (by kernel_rfl)).trans (by rfl)
      have c0 := C3.out fk fw hinv
      refine .inl ⟨wanted_free rfl, fun K hK => ?_⟩
      clear hs hb hr hinv
      go_simp
      exact hK _ _ rfl (Ext.refl _)
    · intro fa fw fk hr hinv hs hb
      have s3 : fa.tmps[(3 : Nat)]? = some (.pointer (some ⟨w.heap.size, 0, none⟩)) := (hb 3 (by kernel_rfl)).trans (by rfl)
      have c0 := C3.out fk fw hinv
      refine .inl ⟨wanted_free rfl, fun K hK => ?_⟩
      clear hs hb hr hinv
      go_simp
      exact hK _ _ rfl (Ext.refl _)
    · intro fa fw fk hr hinv hs hb
      obtain ⟨_, s127, rfl⟩ := hs 11 127 (by kernel_rfl) (by kernel_rfl)
      refine .inl ⟨wanted_free rfl, fun K hK => ?_⟩
      clear hs hb hr hinv
      go_simp
      exact hK _ _ rfl (Ext.refl _)
    · intro fa fw fk hr hinv hs hb
      obtain ⟨_, s128, rfl⟩ := hs 12 128 (by kernel_rfl) (by kernel_rfl)
      refine .inl ⟨wanted_free rfl, fun K hK => ?_⟩
      clear hs hb hr hinv
      go_simp
      exact hK _ _ rfl (Ext.refl _)
    · intro fa fw fk hr hinv hs hb
      obtain ⟨_, s129, rfl⟩ := hs 13 129 (by kernel_rfl) (by kernel_rfl)
      have c0 := CI.out fk fw hinv
      refine .inl ⟨wanted_free rfl, fun K hK => ?_⟩
      clear hs hb hr hinv
      go_simp
      exact hK _ _ rfl (Ext.refl _)
    · intro fa fw fk hr hinv hs hb
      have s7 : fa.tmps[(7 : Nat)]? = some (.pointer (some ⟨w.heap.size + 1 + 1 + 1, 0, none⟩)) := (hb 7 (by kernel_rfl)).trans (by rfl)
      refine .inl ⟨wanted_free rfl, fun K hK => ?_⟩
      clear hs hb hr hinv
      go_simp
      exact hK _ _ rfl (Ext.refl _)
    · intro fa fw fk hr hinv hs hb
      obtain ⟨_, s131, rfl⟩ := hs 15 131 (by kernel_rfl) (by kernel_rfl)
      have c0 := C7.out fk fw hinv
      refine .inl ⟨wanted_free rfl, fun K hK => ?_⟩
      clear hs hb hr hinv
      go_simp
      exact hK _ _ rfl (Ext.refl _)
    · intro fa fw fk hr hinv hs hb
      obtain ⟨_, s130, rfl⟩ := hs 14 130 (by kernel_rfl) (by kernel_rfl)
      obtain ⟨_, s132, rfl⟩ := hs 16 132 (by kernel_rfl) (by kernel_rfl)
      refine .inl ⟨wanted_free rfl, fun K hK => ?_⟩
      clear hs hb hr hinv
      go_simp
      exact hK _ _ rfl (Ext.refl _)
    · intro fa fw fk hr hinv hs hb
      obtain ⟨_, s133, rfl⟩ := hs 17 133 (by kernel_rfl) (by kernel_rfl)
      have c0 := CX.out fk fw hinv
      refine .inl ⟨wanted_free rfl, fun K hK => ?_⟩
      clear hs hb hr hinv
      go_simp
      exact hK _ _ rfl (Ext.refl _)
    · intro fa fw hr hinv hs hb
      obtain ⟨_, s126, rfl⟩ := hs 10 126 (by kernel_rfl) (by kernel_rfl)
      obtain ⟨_, s134, rfl⟩ := hs 18 134 (by kernel_rfl) (by kernel_rfl)
      refine ⟨wanted_free rfl, fun K hK => ?_⟩
      clear hs hb
      go_simp
      refine (snot_any hinv.sm (sn : Int) (by show S1.gs.length ≤ 1000; have := HGB.out; have := LS1.out; omega)).mono ?_
      rintro e w' ⟨rfl, hm⟩
      have hq := hinv.step hm
      rw [show (nthS [S1, S2, S3, S4] 0).gs.length = _ from LS1.out]
      exact hK _ _ rfl hm.rel (by show NodeI _ _ _ _ _ _ S2 _; rw [HS2.out]; exact hq)
    · intro fa fw fk hr hinv hs hb
      obtain ⟨_, s125, rfl⟩ := hs 9 125 (by kernel_rfl) (by kernel_rfl)
      obtain ⟨_, s135, rfl⟩ := hs 19 135 (by kernel_rfl) (by kernel_rfl)
      refine .inl ⟨wanted_free rfl, fun K hK => ?_⟩
      clear hs hb
      go_simp
      exact hK _ _ ⟨fw.heap.size, rfl, ArgP.new hinv.sm [(g : Int), (g : Int) + 1] _ rfl (by simp)⟩ ((Ext.refl _).alloc _)
    · intro fa fw hr hinv hs hb
      obtain ⟨_, s124, rfl⟩ := hs 8 124 (by kernel_rfl) (by kernel_rfl)
      obtain ⟨_, s136, b136, rfl, k136⟩ := hs 20 136 (by kernel_rfl) (by kernel_rfl)
      refine ⟨wanted_free rfl, fun K hK => ?_⟩
      clear hs hb
      go_simp
      refine (sall_any hinv.sm _ [(g : Int), (g : Int) + 1] k136 (by show S2.gs.length ≤ 1000; have := HGB.out; have := LS2.out; omega)).mono ?_
      rintro e w' ⟨rfl, hm⟩
      have hq := hinv.step hm
      rw [show (nthS [S1, S2, S3, S4] 1).gs.length = _ from LS2.out]
      exact hK _ _ rfl hm.rel (by show NodeI _ _ _ _ _ _ S3 _; rw [HS3.out]; exact hq)
    · intro fa fw fk hr hinv hs hb
      obtain ⟨_, s123, rfl⟩ := hs 7 123 (by kernel_rfl) (by kernel_rfl)
      obtain ⟨_, s137, rfl⟩ := hs 21 137 (by kernel_rfl) (by kernel_rfl)
      refine .inl ⟨wanted_free rfl, fun K hK => ?_⟩
      clear hs hb
      go_simp
      exact hK _ _ ⟨fw.heap.size, rfl, ArgP.new hinv.sm [bg, (g : Int) + 2] _ rfl (by simp)⟩ ((Ext.refl _).alloc _)
    · intro fa fw hr hinv hs hb
      obtain ⟨_, s122, rfl⟩ := hs 6 122 (by kernel_rfl) (by kernel_rfl)
      obtain ⟨_, s138, b138, rfl, k138⟩ := hs 22 138 (by kernel_rfl) (by kernel_rfl)
      refine ⟨wanted_free rfl, fun K hK => ?_⟩
      clear hs hb
      go_simp
      refine (sany_any hinv.sm _ [bg, (g : Int) + 2] k138 (by show S3.gs.length ≤ 1000; have := HGB.out; have := LS3.out; omega)).mono ?_
      rintro e w' ⟨rfl, hm⟩
      have hq := hinv.step hm
      rw [show (nthS [S1, S2, S3, S4] 2).gs.length = _ from LS3.out]
      exact hK _ _ rfl hm.rel (by show NodeI _ _ _ _ _ _ S4 _; rw [HS4.out]; exact hq)
  case rest =>
    intro w9 hrw9 hiw9
    rintro _ rfl
    rintro _ rfl
    rintro _ rfl
    rintro _ rfl
    rintro _ rfl
    rintro _ rfl
    rintro _ rfl
    rintro _ rfl
    rintro _ rfl
    rintro _ rfl
    rintro _ rfl
    rintro _ rfl
    rintro _ rfl
    rintro _ rfl
    rintro _ rfl
    rintro _ rfl
    rintro _ rfl
    rintro _ rfl
    rintro _ rfl
    rintro _ rfl
    rintro _ ⟨b136, rfl, k136⟩
    rintro _ rfl
    rintro _ ⟨b138, rfl, k138⟩
    rintro _ rfl
    simp only [putAll, List.take, Act.put, List.setIfInBounds_toArray, List.set_cons_zero, List.set_cons_succ]
    have hi9 : NodeI w w0.heap.size b 3 (.slice (some ⟨pb, poff, none⟩) n pc) (nodeL w b bg 4 (sn : Int)) S4 w9 := hiw9
    have hrow := hi9.sm.regs
    rw [GHS4.out.1, RLS4.out] at hrow
    have c0 := hrow.cellAt (r * 2 + 1) (by omega)
    have e0 := (flat2_get RB RN S4.rs r).2
    rw [ATS4.out] at e0
    unfold storeCs at c0
    rw [e0] at c0
    have fz := hrow.frozenAt
    have hi10 := hi9.setNext GHS4.out.1 ATS4.out ((g : Int) + 3)
    have HI10 := Lib.hid hi10
    have hri : (r : Int) < (r : Int) + 1 := by omega
    clear hrow e0 hi9 hi10 hiw9 hrw9
    refine wpAny_ready (rs := [24]) (by kernel_rfl) (by simp) (AllReady.cons rfl (fun KK hKK => ?_) AllReady.nil)
    go_simp
    refine hKK _ _ ?_
    clear hKK KK
    refine wpAny_ready (rs := [25]) (by kernel_rfl) (by simp) (AllReady.cons rfl (fun KK hKK => ?_) AllReady.nil)
    go_simp
    refine hKK _ _ ?_
    clear hKK KK
    refine wpAny_ready (rs := [26]) (by kernel_rfl) (by simp) (AllReady.cons rfl (fun KK hKK => ?_) AllReady.nil)
    go_simp
    refine hKK _ _ ?_
    clear hKK KK
    clear c0 fz hri
    refine wpAny_done (by kernel_rfl) ?_ _
    obtain ⟨w10, hw10⟩ : ∃ q, q = w9.setCell ⟨rb, r * 2 + 1, none⟩ (I ((g : Int) + 3)) := ⟨_, rfl⟩
    obtain ⟨S5, hS5⟩ : ∃ S, S = { S4 with rs := S4.rs.set r ⟨false, (g : Int) + 3⟩ } := ⟨_, rfl⟩
    have hi10 : NodeI w w0.heap.size b 3 (.slice (some ⟨pb, poff, none⟩) n pc) (nodeL w b bg 4 (sn : Int)) S5 w10 := by rw [hS5, hw10]; exact HI10.out
    have HW10 := Lib.hid hw10; have HS5 := Lib.hid hS5; have HI11 := Lib.hid hi10
    have LS5 : Hid (S5.gs.length = S4.gs.length) := by unfold Hid; rw [hS5]
    rw [← hw10]
    clear HI10 hw10 hS5 hi10
    have GHS5 : Hid (S5.rv = .slice (some ⟨rb, 0, none⟩) (r + 1) rc ∧ S5.iv = c.iv ∧ S5.ins = [0, 1, 2]) := by
      unfold Hid; rw [HS5.out]; exact GHS4.out
    have LT5 : Hid (S5.gs.length = g + 4) := LS5.out.trans LS4.out
    clear LS5
    have LS5 := LT5
    obtain ⟨S6, hS6⟩ : ∃ S, S = S5.pushG (gAll [(g : Int), (sn : Int)]) := ⟨_, rfl⟩
    have lS6 : S6.gs.length = g + 5 := by rw [hS6]; have := LS5.out; simp [this]
    have HS6 := Lib.hid hS6; have LS6 := Lib.hid lS6; clear hS6 lS6
    have GHS6 : Hid (S6.rv = .slice (some ⟨rb, 0, none⟩) (r + 1) rc ∧ S6.iv = c.iv ∧ S6.ins = [0, 1, 2]) := by
      unfold Hid; rw [HS6.out]; exact GHS5.out
    have C3b := Lib.hid (show ∀ k w', NodeI w w0.heap.size b 3 (.slice (some ⟨pb, poff, none⟩) n pc) (nodeL w b bg 4 (sn : Int)) (nthS [S5, S6] k) w' → w'.cell? ⟨w.heap.size, 0, none⟩ = some (.pointer (some ⟨b, 0, none⟩)) from fun k w' h => h.cell (g := w.heap.size) (T := 72) (cs := [.pointer (some ⟨b, 0, none⟩)]) (by simp) 0)
    have C5b := Lib.hid (show ∀ k w', NodeI w w0.heap.size b 3 (.slice (some ⟨pb, poff, none⟩) n pc) (nodeL w b bg 4 (sn : Int)) (nthS [S5, S6] k) w' → w'.cell? ⟨w.heap.size + 1, 0, none⟩ = some (I bg) from fun k w' h => h.cell (g := w.heap.size + 1) (T := 3) (cs := [I bg]) (by simp) 0)
    have C7b := Lib.hid (show ∀ k w', NodeI w w0.heap.size b 3 (.slice (some ⟨pb, poff, none⟩) n pc) (nodeL w b bg 4 (sn : Int)) (nthS [S5, S6] k) w' → w'.cell? ⟨w.heap.size + 1 + 1 + 1, 1, none⟩ = some (I (sn : Int)) from fun k w' h => h.cell (g := w.heap.size + 1 + 1 + 1) (T := 64) (cs := [I 4, I (sn : Int)]) (by simp) 1)
    have ghs : ∀ k, (nthS [S5, S6] k).rv = .slice (some ⟨rb, 0, none⟩) (r + 1) rc ∧ (nthS [S5, S6] k).iv = c.iv ∧ (nthS [S5, S6] k).ins = [0, 1, 2] := fun k => by
      match k with
      | 0 => exact GHS5.out
      | k + 1 => cases k <;> exact GHS6.out
    have CRb := Lib.hid (show ∀ k w', NodeI w w0.heap.size b 3 (.slice (some ⟨pb, poff, none⟩) n pc) (nodeL w b bg 4 (sn : Int)) (nthS [S5, S6] k) w' → w'.cell? ⟨b, 2, none⟩ = some (.slice (some ⟨rb, 0, none⟩) (r + 1) rc) from fun k w' h => by rw [← (ghs k).1]; exact h.sm.cellR)
    have CIb := Lib.hid (show ∀ k w', NodeI w w0.heap.size b 3 (.slice (some ⟨pb, poff, none⟩) n pc) (nodeL w b bg 4 (sn : Int)) (nthS [S5, S6] k) w' → w'.cell? ⟨b, 5, none⟩ = some (.slice (some ⟨ib, 0, none⟩) 3 ic) from fun k w' h => by rw [← HIV.out, ← (ghs k).2.1]; exact h.sm.cellI)
    have CXb := Lib.hid (show ∀ k w', NodeI w w0.heap.size b 3 (.slice (some ⟨pb, poff, none⟩) n pc) (nodeL w b bg 4 (sn : Int)) (nthS [S5, S6] k) w' → w'.cell? ⟨ib, sn, none⟩ = some (I sn) from fun k w' h => by
      have hr := h.sm.ins
      rw [(ghs k).2.1, (ghs k).2.2, HIV.out] at hr
      have hc := hr.cellAt sn (show sn < 3 * 1 by omega)
      rw [hc]
      have : sn = 0 ∨ sn = 1 ∨ sn = 2 := by omega
      rcases this with rfl | rfl | rfl <;> rfl)
    clear ghs
    go_upto_region 20 with fail
    refine wp_flow7 14 1 [11] [] (RelF b) (fun k => NodeI w w0.heap.size b 3 (.slice (some ⟨pb, poff, none⟩) n pc) (nodeL w b bg 4 (sn : Int)) (nthS [S5, S6] k)) [isV (.pointer (some ⟨b, 0, none⟩)), isV (.int .i64 g), isV (.pointer (some ⟨b, 0, none⟩)), isV (.pointer (some ⟨b, 0, none⟩)), isV (.pointer (some ⟨b, 5, none⟩)), isV (.slice (some ⟨ib, 0, none⟩) 3 ic), isV (.pointer (some ⟨w.heap.size + 1 + 1 + 1, 1, none⟩)), isV (I (sn : Int)), isV (.pointer (some ⟨ib, sn, none⟩)), isV (I sn), fun v w => ∃ gz, v = .slice (some ⟨gz, 0, none⟩) 2 2 ∧ ArgP w w0.heap.size b (.slice (some ⟨gz, 0, none⟩) 2 2) [(g : Int), (sn : Int)], isV (.int .i64 ((g : Int) + 4)), isV (.int .i64 g), isV (.agg #[.int .i64 ((g : Int) + 4), .int .i64 g])] (by kernel_rfl) rfl rfl (by kernel_rfl) (by kernel_rfl) (by kernel_rfl) (RelF.refl b _) (fun _ _ _ h k => RelF.trans h k) (fun k w' w'' h hx => NodeI.ext h hx) HI11.out ⟨.inr (fun _ _ _ h _ => h), .inr (fun _ _ _ h _ => h), .inr (fun _ _ _ h _ => h), .inr (fun _ _ _ h _ => h), .inr (fun _ _ _ h _ => h), .inr (fun _ _ _ h _ => h), .inr (fun _ _ _ h _ => h), .inr (fun _ _ _ h _ => h), .inr (fun _ _ _ h _ => h), .inr (fun _ _ _ h _ => h), .inr (fun v w w' ⟨g, e, h⟩ hr => ⟨g, e, h.rel hr⟩), .inr (fun _ _ _ h _ => h), .inr (fun _ _ _ h _ => h), .inr (fun _ _ _ h _ => h), trivial⟩ ?each ?rest
    case each =>
      refine .light rfl ?_ (.light rfl ?_ (.light rfl ?_ (.light rfl ?_ (.light rfl ?_ (.light rfl ?_ (.light rfl ?_ (.light rfl ?_ (.light rfl ?_ (.light rfl ?_ (.light rfl ?_ (.heavy 0 rfl ?_ (.light rfl ?_ (.light rfl ?_ (.nil))))))))))))))
      · intro fa fw fk hr hinv hs hb
        have s3 : fa.tmps[(3 : Nat)]? = some (.pointer (some ⟨w.heap.size, 0, none⟩)) := (hb 3 (by kernel_rfl)).trans (by rfl)
        have c0 := C3b.out fk fw hinv
        refine .inl ⟨wanted_free rfl, fun K hK => ?_⟩
        clear hs hb hr hinv
        go_simp
        exact hK _ _ rfl (Ext.refl _)
      · intro fa fw fk hr hinv hs hb
        have s13 : fa.tmps[(13 : Nat)]? = some (.int .i64 g) := (hb 13 (by kernel_rfl)).trans (by rfl)
        refine .inl ⟨wanted_free rfl, fun K hK => ?_⟩
        clear hs hb hr hinv
        go_simp
        exact hK _ _ rfl (Ext.refl _)
      · intro fa fw fk hr hinv hs hb
        have s3 : fa.tmps[(3 : Nat)]? = some (.pointer (some ⟨w.heap.size, 0, none⟩)) := (hb 3 (by kernel_rfl)).trans (by rfl)
        have c0 := C3b.out fk fw hinv
        refine .inl ⟨wanted_free rfl, fun K hK => ?_⟩
        clear hs hb hr hinv
        go_simp
        exact hK _ _ rfl (Ext.refl _)
      · intro fa fw fk hr hinv hs hb
        obtain ⟨_, s144, rfl⟩ := hs 2 144 (by kernel_rfl) (by kernel_rfl)
        refine .inl ⟨wanted_free rfl, fun K hK => ?_⟩
        clear hs hb hr hinv
        go_simp
        exact hK _ _ rfl (Ext.refl _)
      · intro fa fw fk hr hinv hs hb
        obtain ⟨_, s145, rfl⟩ := hs 3 145 (by kernel_rfl) (by kernel_rfl)
        refine .inl ⟨wanted_free rfl, fun K hK => ?_⟩
        clear hs hb hr hinv
        go_simp
        exact hK _ _ rfl (Ext.refl _)
      · intro fa fw fk hr hinv hs hb
        obtain ⟨_, s146, rfl⟩ := hs 4 146 (by kernel_rfl) (by kernel_rfl)
        have c0 := CIb.out fk fw hinv
        refine .inl ⟨wanted_free rfl, fun K hK => ?_⟩
        clear hs hb hr hinv
        go_simp
        exact hK _ _ rfl (Ext.refl _)
      · intro fa fw fk hr hinv hs hb
        have s7 : fa.tmps[(7 : Nat)]? = some (.pointer (some ⟨w.heap.size + 1 + 1 + 1, 0, none⟩)) := (hb 7 (by kernel_rfl)).trans (by rfl)
        refine .inl ⟨wanted_free rfl, fun K hK => ?_⟩
        clear hs hb hr hinv
        go_simp
        exact hK _ _ rfl (Ext.refl _)
      · intro fa fw fk hr hinv hs hb
        obtain ⟨_, s148, rfl⟩ := hs 6 148 (by kernel_rfl) (by kernel_rfl)
        have c0 := C7b.out fk fw hinv
        refine .inl ⟨wanted_free rfl, fun K hK => ?_⟩
        clear hs hb hr hinv
        go_simp
        exact hK _ _ rfl (Ext.refl _)
      · intro fa fw fk hr hinv hs hb
        obtain ⟨_, s147, rfl⟩ := hs 5 147 (by kernel_rfl) (by kernel_rfl)
        obtain ⟨_, s149, rfl⟩ := hs 7 149 (by kernel_rfl) (by kernel_rfl)
        refine .inl ⟨wanted_free rfl, fun K hK => ?_⟩
        clear hs hb hr hinv
        go_simp
        exact hK _ _ rfl (Ext.refl _)
      · intro fa fw fk hr hinv hs hb
        obtain ⟨_, s150, rfl⟩ := hs 8 150 (by kernel_rfl) (by kernel_rfl)
        have c0 := CXb.out fk fw hinv
        refine .inl ⟨wanted_free rfl, fun K hK => ?_⟩
        clear hs hb hr hinv
        go_simp
        exact hK _ _ rfl (Ext.refl _)
      · intro fa fw fk hr hinv hs hb
        obtain ⟨_, s143, rfl⟩ := hs 1 143 (by kernel_rfl) (by kernel_rfl)
        obtain ⟨_, s151, rfl⟩ := hs 9 151 (by kernel_rfl) (by kernel_rfl)
        refine .inl ⟨wanted_free rfl, fun K hK => ?_⟩
        clear hs hb
        go_simp
        exact hK _ _ ⟨fw.heap.size, rfl, ArgP.new hinv.sm [(g : Int), (sn : Int)] _ rfl (by simp)⟩ ((Ext.refl _).alloc _)
      · intro fa fw hr hinv hs hb
        obtain ⟨_, s142, rfl⟩ := hs 0 142 (by kernel_rfl) (by kernel_rfl)
        obtain ⟨_, s152, b152, rfl, k152⟩ := hs 10 152 (by kernel_rfl) (by kernel_rfl)
        refine ⟨wanted_free rfl, fun K hK => ?_⟩
        clear hs hb
        go_simp
        refine (sall_any hinv.sm _ [(g : Int), (sn : Int)] k152 (by show S5.gs.length ≤ 1000; have := HGB.out; have := LS5.out; omega)).mono ?_
        rintro e w' ⟨rfl, hm⟩
        have hq := hinv.step hm
        rw [show (nthS [S5, S6] 0).gs.length = _ from LS5.out]
        exact hK _ _ rfl hm.rel (by show NodeI _ _ _ _ _ _ S6 _; rw [HS6.out]; exact hq)
      · intro fa fw fk hr hinv hs hb
        have s13 : fa.tmps[(13 : Nat)]? = some (.int .i64 g) := (hb 13 (by kernel_rfl)).trans (by rfl)
        refine .inl ⟨wanted_free rfl, fun K hK => ?_⟩
        clear hs hb hr hinv
        go_simp
        exact hK _ _ rfl (Ext.refl _)
      · intro fa fw fk hr hinv hs hb
        obtain ⟨_, s153, rfl⟩ := hs 11 153 (by kernel_rfl) (by kernel_rfl)
        obtain ⟨_, s154, rfl⟩ := hs 12 154 (by kernel_rfl) (by kernel_rfl)
        refine .inl ⟨wanted_free rfl, fun K hK => ?_⟩
        clear hs hb hr hinv
        go_simp
        exact hK _ _ rfl (Ext.refl _)
    case rest =>
      intro w11 hrw11 hiw11
      rintro _ rfl
      rintro _ rfl
      rintro _ rfl
      rintro _ rfl
      rintro _ rfl
      rintro _ rfl
      rintro _ rfl
      rintro _ rfl
      rintro _ rfl
      rintro _ rfl
      rintro _ ⟨b152, rfl, k152⟩
      rintro _ rfl
      rintro _ rfl
      rintro _ rfl
      simp only [putAll, List.take, Act.put, List.setIfInBounds_toArray, List.set_cons_zero, List.set_cons_succ]
      have hi9 : NodeI w w0.heap.size b 3 (.slice (some ⟨pb, poff, none⟩) n pc) (nodeL w b bg 4 (sn : Int)) S6 w11 := hiw11
      have hb6 : Box w11 (w.heap.size + 1 + 1) 81 [I 0, I 0] := (hi9.lo (w.heap.size + 1 + 1, 81, [I 0, I 0]) (by simp)).1
      have z0 := hb6.cell 0; have z1 := hb6.cell 1; have f6 := hb6.free
      simp only [List.getElem?_cons_zero, List.getElem?_cons_succ] at z0 z1
      have hfin := hi9.finish HBS.out (m6 := w.heap.size + 1 + 1) (x := I 0) (y := I 0) (by simp) (by omega) (I ((g : Int) + 4)) (I ((g : Int)))
      have HFIN := Lib.hid hfin
      clear hb6 hfin hi9
      clear hrw11 hiw11
      refine wpAny_ready (rs := [14]) (by kernel_rfl) (by simp) (AllReady.cons rfl (fun KK hKK => ?_) AllReady.nil)
      go_simp
      refine hKK _ _ ?_
      clear hKK KK z0 z1 f6
      refine wpAny_done (by kernel_rfl) ?_ _
      go_wp2
      obtain ⟨hmade, y0, y1⟩ := HFIN.out
      have hmod : S6 = stN c (.slice (some ⟨rb, 0, none⟩) (r + 1) rc) es (G ++ (nodeF (.leaf ⟨4, (sn : Int)⟩) G.length R.length bg).G) (R ++ (nodeF (.leaf ⟨4, (sn : Int)⟩) G.length R.length bg).R) (E ++ (nodeF (.leaf ⟨4, (sn : Int)⟩) G.length R.length bg).E) := by
        rw [HS6.out, HS5.out, HS4.out, HS3.out, HS2.out, HS1.out, HS0.out]; simp [nodeF, HG.out, HR0.out, insG]
      have hov : (nodeF (.leaf ⟨4, (sn : Int)⟩) G.length R.length bg).over = (g : Int) + 4 := by simp [nodeF, HG.out]
      have hso : (nodeF (.leaf ⟨4, (sn : Int)⟩) G.length R.length bg).some = (g : Int) := by simp [nodeF, HG.out]
      rw [hmod] at hmade
      refine bodyPost_ret (v := .agg #[I ((g : Int) + 4), I ((g : Int))]) ?_ rfl ⟨(.slice (some ⟨rb, 0, none⟩) (r + 1) rc), es, by rw [hov, hso], hmade⟩
      clear hmade hmod hov hso HFIN
      simp [results, Try.results39, go_sem, y0, y1]
end
end Go.Proofs.Ytlafiddfplhafaa
/- The smith behind its nodes: the outputs' gates. -/
namespace Go.Proofs.Ytlafiddfplhafaa
set_option linter.unusedVariables false
set_option linter.unusedSimpArgs false
open Go.RowKit
section
variable {w w' : World} {base b : Nat} {pv : Value} {S S' : SmithM}
/-- The smith behind its nodes. -/
def EndP (w : World) (base b : Nat) (pv : Value) (S : SmithM) : Prop := ∃ V, SmithW w base b 3 pv S V ∧ Sep_outs V ∧ V.rv = S.rv ∧ V.eb = S.eb ∧ V.es = S.es
structure MadeE (w w' : World) (base b : Nat) (pv : Value) (S : SmithM) : Prop where
  below : Below base w w'
  rel : RelF b w w'
  sm : EndP w' base b pv S
theorem SmithP.ends (h : SmithP w base b 3 pv S) : EndP w base b pv S := by
  obtain ⟨V, hS, hsep, e1, e2, e3, e4, e5⟩ := h
  exact ⟨V, hS, (fun g hg => absurd (hsep.1.symm.trans hg) (by simp) : Sep_outs V), e1, e4, e5⟩
theorem EndP.ext (h : EndP w base b pv S) (hx : Ext w w') : EndP w' base b pv S ∧ RelF b w w' := let ⟨V, h1, h2⟩ := h; ⟨⟨V, h1.ext hx, h2⟩, h1.rel_ext hx⟩
theorem EndP.size (h : EndP w base b pv S) : base ≤ w.heap.size ∧ b < w.heap.size := let ⟨_, h1, _⟩ := h; h1.size
theorem EndP.regs (h : EndP w base b pv S) : w.ownsRow base 79 2 S.rv S.rs.length (storeCs S.rs) := let ⟨V, h1, _, e, _⟩ := h; by rw [← e]; exact h1.regs
theorem EndP.cellR (h : EndP w base b pv S) : w.cell? ⟨b, 2, none⟩ = some S.rv := let ⟨V, h1, _, e, _⟩ := h; by rw [← e]; exact h1.box.cell 2
theorem EndP.cellE (h : EndP w base b pv S) : w.cell? ⟨b, 7, none⟩ = some (.slice (some ⟨S.eb, 0, none⟩) 3 3) := let ⟨V, h1, _, _, e, _⟩ := h; by rw [← e]; exact h1.box.cell 7
theorem EndP.ebox (h : EndP w base b pv S) : Box w S.eb 23 S.es := let ⟨V, h1, _, _, e1, e2⟩ := h; by rw [← e1, ← e2]; exact h1.ebox
set_option maxHeartbeats 1000000 in
theorem eany_any (h : EndP w base b pv S) {k : Nat} {av : Value} {l : List Int} (he : S.es[k]? = some av) (hm : S.em[k]? = some l) (hl : S.gs.length ≤ 1000) :
    Calls Try.prog 40 #[.pointer (some ⟨b, 0, none⟩), av] w fun e w' => e = .returned (I S.gs.length) ∧ MadeE w w' base b pv (S.pushG (gAny l)) := by
  obtain ⟨V, hS, hsep, e1, e4, e5⟩ := h
  have hav := hS.em k av l (by rw [e5]; exact he) hm
  have hmem : av ∈ V.es := by rw [e5]; exact List.mem_of_getElem? he
  have C := Lib.hid (gate_any hS 5 0 av l hav hl)
  have HE := Lib.hid hsep; have HM := Lib.hid hmem; have E1 := Lib.hid e1; have E4 := Lib.hid e4; have E5 := Lib.hid e5
  clear hS hsep e1 e4 e5 hav hmem he hm hl
  go_enter Try.func40, Try.ntmps40
  go_wp2_with fail
  refine C.out.mono ?_; rintro e w1 ⟨rfl, h2, h3, gv', h4⟩
  have H2 := Lib.hid h2; have H3 := Lib.hid h3; have H4 := Lib.hid h4; clear h2 h3 h4
  go_wp2
  go_ret
  refine ⟨rfl, H2.out, H3.out, _, H4.out, fun g hg => ?_, E1.out, E4.out, E5.out⟩
  obtain ⟨a1, a2, a3, a4⟩ := HE.out g hg
  refine ⟨fun u hu => ?_, a2, a3, a4⟩
  rcases List.mem_append.1 hu with q | q
  · exact a1 u q
  · simp only [List.mem_cons, List.not_mem_nil, or_false] at q
    subst q; exact a4 u HM.out
theorem EndP.setNext (h : EndP w base b pv S) {rb rn rc : Nat} (hv : S.rv = .slice (some ⟨rb, 0, none⟩) rn rc) {m : Nat} {r : StoreM} (hr : S.rs[m]? = some r) (x : Int) : MadeE w (w.setCell ⟨rb, m * 2 + 1, none⟩ (I x)) base b pv { S with rs := S.rs.set m ⟨r.fst, x⟩ } := by
  obtain ⟨V, hS, hsep, e1, e4, e5⟩ := h
  have hv' : V.rv = .slice (some ⟨rb, 0, none⟩) rn rc := e1.trans hv
  have hS' := hS.setNext hv' hr x
  have hrow := hS.regs
  rw [hv'] at hrow
  refine ⟨(Below.refl _ _).setCell (p := ⟨rb, m * 2 + 1, none⟩) (hrow.lt rb rfl).1 _, ⟨by simp [World.setCell], fun j hj hfj => ⟨?_, fun e => hfj ((hS.foot j).2 ((hS'.foot j).1 e))⟩⟩, V, hS', hsep, e1, e4, e5⟩
  have hne : j ≠ rb := fun e => hfj ((hS.foot j).2 (.inr (.inr (.inl (by rw [hv', e]; rfl)))))
  rw [Below.heap_setCell _ _ _ _ (show j ≠ rb from hne)]
/-- The row of outputs. -/
theorem EndP.outs (h : EndP w base b pv S) : ∃ ov, w.cell? ⟨b, 3, none⟩ = some ov ∧ w.ownsRow base 3 1 ov S.outs.length (S.outs.map I) ∧
    (∀ (w' : World) (e' : Value) (x : Int), w.grownBy w' ov.ownBlock → w'.ownsRow base 3 1 e' (S.outs.length + 1) (S.outs.map I ++ [I x]) → (∀ g, e'.ownBlock = some g → ov.ownBlock = some g ∨ w.heap.size ≤ g) →
      (w'.cell? ⟨b, 3, none⟩ = some ov ∧ ∀ k, w'.frozen? ⟨b, k, none⟩ = false) ∧ MadeE w (w'.setCell ⟨b, 3, none⟩ e') base b pv { S with outs := S.outs ++ [x] }) := by
  obtain ⟨V, hS, hsep, e1, e4, e5⟩ := h
  refine ⟨V.ov, hS.box.cell 3, hS.outs, fun w' e' x hg hown hf => ?_⟩
  have kb := hS.box.kept hg (hS.box.apart hS.outs (by decide))
  obtain ⟨k1, k2, k3⟩ := hS.push_outs hsep hg hown hf
  exact ⟨⟨kb.cell 3, kb.free⟩, (Below.grown (w := w) (Below.refl base w) hg hS.size.1 (fun g q => (hS.outs.lt g q).1)).setCell (p := ⟨b, 3, none⟩) hS.ge.1 _, k3, _, k1, k2, e1, e4, e5⟩
end
/-- The registers behind k outputs, the gates' row begins its last three at q. -/
def rsE (q : Int) (R : List StoreM) : Nat → List StoreM
  | 0 => R
  | k + 1 => (rsE q R k).set (k + 1) ⟨false, q + k⟩
/-- The smith behind k outputs. -/
def sEm (C : SmithM) (rv : Value) (es : List Value) (G : List GateM) (R : List StoreM) (E : List (Int × Int)) (q : Int) (k : Nat) : SmithM :=
  ⟨G ++ (List.range k).map fun j => gAny (emitsF E (Int.ofNat j)), rsE q R k, (List.range k).map fun j => q + Int.ofNat j, [0, 1, 2], [5, 6, 7], emOf E, rv, C.iv, C.wv, C.eb, es⟩
theorem sEm_succ (C : SmithM) (rv : Value) (es : List Value) (G : List GateM) (R : List StoreM) (E : List (Int × Int)) (q : Int) (k : Nat) :
    { { (sEm C rv es G R E q k).pushG (gAny (emitsF E (Int.ofNat k))) with rs := ((sEm C rv es G R E q k).pushG (gAny (emitsF E (Int.ofNat k)))).rs.set (k + 1) ⟨false, q + k⟩ } with outs := (sEm C rv es G R E q k).outs ++ [q + k] } = sEm C rv es G R E q (k + 1) := by
  simp [sEm, List.range_succ, rsE]
theorem rsE_len (q : Int) (R : List StoreM) (k : Nat) : (rsE q R k).length = R.length := by
  induction k with
  | zero => rfl
  | succ k ih => simp [rsE, ih]
/-- Registers 1 to 3 are no first ones. -/
theorem rsE_at (q : Int) (r0 : StoreM) (R : List StoreM) {k : Nat} (hk : k < 3) : (rsE q (r0 :: ⟨false, 0⟩ :: ⟨false, 0⟩ :: ⟨false, 0⟩ :: R) k)[k + 1]? = some ⟨false, 0⟩ := by
  have : k = 0 ∨ k = 1 ∨ k = 2 := by omega
  rcases this with rfl | rfl | rfl <;> rfl
theorem sEm_end (t : Tr) (C : SmithM) (rv : Value) (es : List Value) : 
    ⟨3, (sEm C rv es (headG ++ (nodeF t 8 4 3).G) ([⟨true, 4⟩, ⟨false, 0⟩, ⟨false, 0⟩, ⟨false, 0⟩] ++ (nodeF t 8 4 3).R) (nodeF t 8 4 3).E (8 + (nodeF t 8 4 3).G.length : Nat) 3).gs, (sEm C rv es (headG ++ (nodeF t 8 4 3).G) ([⟨true, 4⟩, ⟨false, 0⟩, ⟨false, 0⟩, ⟨false, 0⟩] ++ (nodeF t 8 4 3).R) (nodeF t 8 4 3).E (8 + (nodeF t 8 4 3).G.length : Nat) 3).rs, (sEm C rv es (headG ++ (nodeF t 8 4 3).G) ([⟨true, 4⟩, ⟨false, 0⟩, ⟨false, 0⟩, ⟨false, 0⟩] ++ (nodeF t 8 4 3).R) (nodeF t 8 4 3).E (8 + (nodeF t 8 4 3).G.length : Nat) 3).outs⟩ = netF t := by
  simp [sEm, netF, List.range_succ, rsE]
/-- The rows of a net of the call's own (args' rows may be shared). -/
structure NetG (w : World) (base : Nat) (gv rv ov : Value) (gs : List GateM) (gas : List Value) (rs : List StoreM) (outs : List Int) : Prop where
  gates : RowG w base gv gs gas
  regs : w.ownsRow base 79 2 rv rs.length (storeCs rs)
  outs : w.ownsRow base 3 1 ov outs.length (outs.map I)
theorem NetG.set {w : World} {base : Nat} {gv rv ov : Value} {gs : List GateM} {gas : List Value} {rs : List StoreM} {outs : List Int} (h : NetG w base gv rv ov gs gas rs outs) {m : Nat} (hm : m < base) (k : Nat) (u : Value) : NetG (w.setCell ⟨m, k, none⟩ u) base gv rv ov gs gas rs outs := by
  have ne : ∀ {e : TypeId} {size n : Nat} {v : Value} {xs : List Value}, w.ownsRow base e size v n xs → v.ownBlock ≠ some m := fun ho e => by have := (ho.lt m e).1; omega
  refine ⟨h.gates.set (ne h.gates.row) (fun v hv => ?_) k u, own_set h.regs (ne h.regs) k u, own_set h.outs (ne h.outs) k u⟩
  obtain ⟨j, hj⟩ := List.mem_iff_getElem?.1 hv
  have hl : j < gs.length := by have := (List.getElem?_eq_some_iff.1 hj).1; have := h.gates.vl; omega
  exact ne (h.gates.own j v _ hj (List.getElem?_eq_getElem hl))
theorem NetG.netC {w : World} {base : Nat} {gv rv ov : Value} {gs : List GateM} {gas : List Value} {rs : List StoreM} {outs : List Int} {gn rn on gc rc oc : Nat} {GA RA OA : Option Addr} {N : NetM} (h : NetG w base gv rv ov gs gas rs outs) (e1 : gv = .slice GA gn gc) (e2 : rv = .slice RA rn rc) (e3 : ov = .slice OA on oc) (hN : N = ⟨3, gs, rs, outs⟩) : NetC w 3 GA gn gc RA rn rc OA on oc N := by
  subst hN
  obtain ⟨A, c, e, g1, g2, hg⟩ := h.gates.slG
  rw [e1] at e
  injection e with e e' e''
  subst e; subst e'; subst e''
  have hr := h.regs
  obtain ⟨A', c', e, r1, r2, -⟩ := own_slice hr
  rw [e2] at e hr
  injection e with e e' e''
  subst e; subst e'; subst e''
  have ho := h.outs
  obtain ⟨A', c', e, o1, o2, hso⟩ := own_sl ho
  rw [e3] at e
  injection e with e e' e''
  subst e; subst e'; subst e''
  exact ⟨rfl, hg, slR_own hr, hso, ⟨g1, g2⟩, ⟨r1, r2⟩, ⟨o1, o2⟩⟩
theorem EndP.net {w : World} {base b : Nat} {pv : Value} {S : SmithM} (h : EndP w base b pv S) : ∃ GA gn gc RA rn rc OA on oc gas, w.cell? ⟨b, 0, none⟩ = some (I 3) ∧ w.cell? ⟨b, 1, none⟩ = some (.slice GA gn gc) ∧ w.cell? ⟨b, 2, none⟩ = some (.slice RA rn rc) ∧ w.cell? ⟨b, 3, none⟩ = some (.slice OA on oc) ∧ NetG w base (.slice GA gn gc) (.slice RA rn rc) (.slice OA on oc) S.gs gas S.rs S.outs := by
  obtain ⟨V, hS, -⟩ := h
  obtain ⟨GA, gc, e1, -⟩ := own_slice hS.gates.row
  obtain ⟨RA, rc, e2, -⟩ := own_slice hS.regs
  obtain ⟨OA, oc, e3, -⟩ := own_slice hS.outs
  have hb := hS.box.cell
  refine ⟨GA, _, gc, RA, _, rc, OA, _, oc, V.gas, (hb 0).trans rfl, (hb 1).trans (by rw [← e1]; rfl), (hb 2).trans (by rw [← e2]; rfl), (hb 3).trans (by rw [← e3]; rfl), ⟨by rw [← e1]; exact hS.gates, by rw [← e2]; exact hS.regs, by rw [← e3]; exact hS.outs⟩⟩
end Go.Proofs.Ytlafiddfplhafaa
/- The smith's node: an output. -/
namespace Go.Proofs.Ytlafiddfplhafaa
set_option linter.unusedVariables false
set_option linter.unusedSimpArgs false
open Go.RowKit
/-- Ahead of the append, and behind it. -/
def AppE (wE : World) (base b : Nat) (i0 : Int) (pv : Value) (L : List (Nat × TypeId × List Value)) (S : SmithM) (ek : Value) : Nat → World → Prop
  | 0, w => NodeI wE base b i0 pv L S w
  | _ + 1, w => ∃ wp, NodeI wE base b i0 pv L S wp ∧ wp.grownBy w ek.ownBlock
def RelE (ek : Value) (w w' : World) : Prop := w.grownBy w' ek.ownBlock
theorem RelE.trans {ek : Value} {a b c : World} (h : RelE ek a b) (k : RelE ek b c) : RelE ek a c :=
  ⟨k.os.trans h.os, k.tape.trans h.tape, k.output.trans h.output, Nat.le_trans h.size k.size, fun i hi hne => (k.block i (Nat.lt_of_lt_of_le hi h.size) hne).trans (h.block i hi hne)⟩
theorem RelE.of_ext {ek : Value} {a b : World} (h : Ext a b) : RelE ek a b := ⟨h.os, h.tape, h.output, h.size, fun i hi _ => h.block i hi⟩
section
variable {wE w w' : World} {base b : Nat} {i0 : Int} {pv : Value} {L : List (Nat × TypeId × List Value)} {S : SmithM} {ek : Value} {k : Nat}
theorem AppE.get (h : AppE wE base b i0 pv L S ek k w) : ∃ wp, NodeI wE base b i0 pv L S wp ∧ wp.grownBy w ek.ownBlock := by
  cases k with
  | zero => exact ⟨w, h, World.grownBy.refl w _⟩
  | succ k => exact h
theorem AppE.ext (h : AppE wE base b i0 pv L S ek k w) (hx : Ext w w') : AppE wE base b i0 pv L S ek k w' ∧ RelE ek w w' := by
  refine ⟨?_, RelE.of_ext hx⟩
  cases k with
  | zero => exact (NodeI.ext h hx).1
  | succ k =>
    obtain ⟨wp, h1, h2⟩ := h
    exact ⟨wp, h1, RelE.trans (ek := ek) h2 (RelE.of_ext hx)⟩
theorem NodeI.ek_foot (h : NodeI wE base b i0 pv L S w) (he : ek ∈ S.es) {g : Nat} (hg : ek.ownBlock = some g) : FootW b w g := by
  obtain ⟨V, hS, -, -, -, -, -, e5⟩ := h.sm
  exact (hS.foot g).2 (.inr (.inr (.inr (.inr (.inr (.inr (.inr ⟨ek, by rw [e5]; exact he, hg⟩)))))))
theorem AppE.box (h : AppE wE base b i0 pv L S ek k w) (he : ek ∈ S.es) {g : Nat} {T : TypeId} {cs : List Value} (hm : (g, T, cs) ∈ L) : Box w g T cs := by
  obtain ⟨wp, h1, h2⟩ := h.get
  obtain ⟨hb, hf⟩ := h1.lo _ hm
  exact Box.kept (cs := cs) hb h2 (fun e => hf (h1.ek_foot he e))
theorem AppE.ebox (h : AppE wE base b i0 pv L S ek k w) (he : ek ∈ S.es) : Box w S.eb 23 S.es ∧ w.cell? ⟨b, 7, none⟩ = some (.slice (some ⟨S.eb, 0, none⟩) 3 3) := by
  obtain ⟨wp, h1, h2⟩ := h.get
  obtain ⟨V, hS, -, -, -, -, e4, e5⟩ := h1.sm
  obtain ⟨n, xs, ho⟩ := hS.esOwn (v := ek) (by rw [e5]; exact he)
  have kb := hS.box.kept h2 (hS.box.apart ho (by decide))
  have ke := hS.ebox.kept h2 (hS.ebox.apart ho (by decide))
  rw [e4, e5] at ke
  exact ⟨ke, by rw [← e4]; exact kb.cell 7⟩
end
/-- The row of an output. -/
def ekF (es : List Value) (sn : Nat) : Value := es.getD sn (.slice none 0 0)
theorem ekF_at {es : List Value} {sn : Nat} (h : sn < es.length) : es[sn]? = some (ekF es sn) := by unfold ekF; rw [List.getD_eq_getElem?_getD, List.getElem?_eq_getElem h]; rfl
/-- The append's result. -/
def GrownE (wE : World) (base b : Nat) (i0 : Int) (pv : Value) (L : List (Nat × TypeId × List Value)) (S : SmithM) (ek : Value) (l : List Int) (ln : Nat) (x : Int) (v : Value) (w : World) : Prop :=
  ∃ g6 cap6 wp, v = .slice (some ⟨g6, 0, none⟩) (ln + 1) cap6 ∧ NodeI wE base b i0 pv L S wp ∧ wp.grownBy w ek.ownBlock ∧ w.ownsRow base 3 1 (.slice (some ⟨g6, 0, none⟩) (ln + 1) cap6) (ln + 1) (l.map I ++ [I x]) ∧ (ek.ownBlock = some g6 ∨ wp.heap.size ≤ g6)
theorem GrownE.ext {wE w w' : World} {base b : Nat} {i0 : Int} {pv : Value} {L : List (Nat × TypeId × List Value)} {S : SmithM} {ek : Value} {l : List Int} {ln : Nat} {x : Int} {v : Value} (h : GrownE wE base b i0 pv L S ek l ln x v w) (hx : Ext w w') : GrownE wE base b i0 pv L S ek l ln x v w' :=
  let ⟨g6, cap6, wp, h1, h2, h3, h4, h5⟩ := h
  ⟨g6, cap6, wp, h1, h2, RelE.trans (ek := ek) h3 (RelE.of_ext hx), own_ext h4 hx, h5⟩
theorem emOf_push (E : List (Int × Int)) (sn : Nat) (hs : sn ≤ 2) (x : Int) (l : List Int) (hl : (emOf E)[sn]? = some l) : emOf (E ++ [((sn : Int), x)]) = (emOf E).set sn (l ++ [x]) := by
  have : sn = 0 ∨ sn = 1 ∨ sn = 2 := by omega
  rcases this with rfl | rfl | rfl <;> (simp [emOf] at hl; subst hl; simp [emOf, emitsF, List.filter_append])
section
variable (w0 : World) (b : Nat) (PA : Option Addr) (n pc : Nat) (c : SmithM) (p : List PNode)
set_option maxRecDepth 100000 in
set_option maxHeartbeats 16000000 in
theorem node_emit (hp : SlN w0 PA n p) (hn : n ≤ 14) (sn : Nat) (hsn : sn ≤ 2) (k : Nat) (ht : TreeAt p k (.leaf ⟨3, (sn : Int)⟩)) : NodeOK w0 b PA n pc c (.leaf ⟨3, (sn : Int)⟩) k := by
  intro w rv es G R E bg hx h hG hR hE _ _ _
  have hle := ht.le
  have hpl := hp.1
  have hkn : k < n := by simp [Tr.size] at hle; omega
  have htop := ht.top
  obtain ⟨pb, poff, y, rfl, d0, d1, -, hy⟩ := hp.next hkn
  have hyx : y = ⟨3, (sn : Int)⟩ := by rw [htop] at hy; injection hy with hy; exact hy.symm
  subst hyx
  have e0 := hx.keeps _ _ d0; have e1 := hx.keeps _ _ d1
  have q4 := h.cellP
  have hk3 : Keeps w (((w.alloc (.cells #[.pointer (some ⟨b, 0, none⟩)] 72)).alloc (.cells #[I bg] 3)).alloc (.cells #[I 0, I 0] 81)) := ((Keeps.alloc _ _).trans (Keeps.alloc _ _)).trans (Keeps.alloc _ _)
  have q4' := hk3 _ _ q4; have e0' := hk3 _ _ e0; have e1' := hk3 _ _ e1
  have hI := NodeI.begin h bg 3 (sn : Int)
  obtain ⟨wB, hwB⟩ : ∃ q, q = nodeB w b bg 3 (sn : Int) := ⟨_, rfl⟩
  rw [← hwB] at hI
  obtain ⟨S0, hS0⟩ : ∃ S, S = stN c rv es G R E := ⟨_, rfl⟩
  rw [← hS0] at hI
  obtain ⟨g, hg⟩ : ∃ g, g = G.length := ⟨_, rfl⟩
  obtain ⟨r, hr0⟩ : ∃ r, r = R.length := ⟨_, rfl⟩
  have l0 : S0.gs.length = g := by rw [hS0, hg]
  have hGb : g ≤ 800 := by rw [hg]; omega
  have hRb : r ≤ 800 := by rw [hr0]; omega
  have hbs : w0.heap.size ≤ w.heap.size := hx.size
  have HI := Lib.hid hI; have HS0 := Lib.hid hS0; have HG := Lib.hid hg; have HR0 := Lib.hid hr0; have LS0 := Lib.hid l0; have HGB := Lib.hid hGb; have HRB := Lib.hid hRb; have HBS := Lib.hid hbs; have HSP := Lib.hid h; have HEB : Hid (E.length ≤ 800) := by unfold Hid; omega
  have HWB : Hid (wB = (((w.alloc (.cells #[.pointer (some ⟨b, 0, none⟩)] 72)).alloc (.cells #[I bg] 3)).alloc (.cells #[I 0, I 0] 81)).alloc (.cells #[I 3, I (sn : Int)] 64)) := hwB
  clear hp ht hle hpl htop d0 d1 hy hI h hx hG hR hE hk3 q4 e0 e1 hwB hS0 hg hr0 l0 hGb hRb hbs
  go_enter Try.func39, Try.ntmps39
  go_upto_region 7 with fail
  rw [← HWB.out]
  clear q4' e0' e1'
  have hsni : (sn : Int) < 3 := by omega
  have hel : es.length = 3 := by obtain ⟨V, hS, -, -, -, -, -, e5⟩ := HSP.out; have := hS.el.1; rw [e5] at this; exact this
  have hek : es[sn]? = some (ekF es sn) := ekF_at (by omega)
  have hekS : (ekF es sn) ∈ S0.es := by rw [HS0.out]; exact List.mem_of_getElem? hek
  obtain ⟨l, hl⟩ : ∃ l, (emOf E)[sn]? = some l := ⟨_, List.getElem?_eq_getElem (by show sn < 3; omega)⟩
  obtain ⟨ln, hln⟩ : ∃ ln, ln = l.length := ⟨_, rfl⟩
  have hlb : ln ≤ 900 := by
    have : sn = 0 ∨ sn = 1 ∨ sn = 2 := by omega
    have hEE := HEB.out
    rw [hln]
    rcases this with rfl | rfl | rfl <;> (simp [emOf] at hl; subst hl; have := emitsF_len E 0; have := emitsF_len E 1; have := emitsF_len E 2; omega)
  have hown0 : ∀ w', NodeI w w0.heap.size b 3 (.slice (some ⟨pb, poff, none⟩) n pc) (nodeL w b bg 3 (sn : Int)) S0 w' → w'.ownsRow w0.heap.size 3 1 (ekF es sn) ln (l.map I) := fun w' h => by
    obtain ⟨V, hS, -, -, -, -, -, e5⟩ := h.sm
    have := hS.em sn (ekF es sn) l (by rw [e5, HS0.out]; exact hek) (by rw [HS0.out]; exact hl)
    rw [← hln] at this; exact this
  have HEK := Lib.hid hek; have HEKS := Lib.hid hekS; have HLL := Lib.hid hl; have HLN := Lib.hid hln; have HLB := Lib.hid hlb; have HOW := Lib.hid hown0
  have C3 := Lib.hid (show ∀ k w', AppE w w0.heap.size b 3 (.slice (some ⟨pb, poff, none⟩) n pc) (nodeL w b bg 3 (sn : Int)) S0 (ekF es sn) k w' → w'.cell? ⟨w.heap.size, 0, none⟩ = some (.pointer (some ⟨b, 0, none⟩)) from fun k w' h => (h.box HEKS.out (g := w.heap.size) (T := 72) (cs := [.pointer (some ⟨b, 0, none⟩)]) (by simp)).cell 0)
  have C5 := Lib.hid (show ∀ k w', AppE w w0.heap.size b 3 (.slice (some ⟨pb, poff, none⟩) n pc) (nodeL w b bg 3 (sn : Int)) S0 (ekF es sn) k w' → w'.cell? ⟨w.heap.size + 1, 0, none⟩ = some (I bg) from fun k w' h => (h.box HEKS.out (g := w.heap.size + 1) (T := 3) (cs := [I bg]) (by simp)).cell 0)
  have C7 := Lib.hid (show ∀ k w', AppE w w0.heap.size b 3 (.slice (some ⟨pb, poff, none⟩) n pc) (nodeL w b bg 3 (sn : Int)) S0 (ekF es sn) k w' → w'.cell? ⟨w.heap.size + 1 + 1 + 1, 1, none⟩ = some (I (sn : Int)) from fun k w' h => (h.box HEKS.out (g := w.heap.size + 1 + 1 + 1) (T := 64) (cs := [I 3, I (sn : Int)]) (by simp)).cell 1)
  have CE := Lib.hid (show ∀ k w', AppE w w0.heap.size b 3 (.slice (some ⟨pb, poff, none⟩) n pc) (nodeL w b bg 3 (sn : Int)) S0 (ekF es sn) k w' → w'.cell? ⟨b, 7, none⟩ = some (.slice (some ⟨S0.eb, 0, none⟩) 3 3) from fun k w' h => (h.ebox HEKS.out).2)
  have CK := Lib.hid (show ∀ k w', AppE w w0.heap.size b 3 (.slice (some ⟨pb, poff, none⟩) n pc) (nodeL w b bg 3 (sn : Int)) S0 (ekF es sn) k w' → w'.cell? ⟨S0.eb, sn, none⟩ = some (ekF es sn) from fun k w' h => by rw [(h.ebox HEKS.out).1.cell sn, HS0.out]; exact HEK.out)
  obtain ⟨inf, hti, htz, hts1, hts2⟩ := info_parts tab_int'
  have HTI := Lib.hid hti; have HTZ := Lib.hid htz; have HT1 := Lib.hid hts1; have HT2 := Lib.hid hts2
  clear hel hek hekS hl hln hlb hown0 hti htz hts1 hts2
  refine wp_flow7 17 2 [16] [16] (RelE (ekF es sn)) (AppE w w0.heap.size b 3 (.slice (some ⟨pb, poff, none⟩) n pc) (nodeL w b bg 3 (sn : Int)) S0 (ekF es sn)) [isV (.pointer (some ⟨b, 0, none⟩)), isV (.pointer (some ⟨b, 0, none⟩)), isV (.pointer (some ⟨b, 7, none⟩)), isV (.slice (some ⟨S0.eb, 0, none⟩) 3 3), isV (.pointer (some ⟨w.heap.size + 1 + 1 + 1, 1, none⟩)), isV (I (sn : Int)), isV (.pointer (some ⟨b, 0, none⟩)), isV (.pointer (some ⟨b, 0, none⟩)), isV (.pointer (some ⟨b, 7, none⟩)), isV (.slice (some ⟨S0.eb, 0, none⟩) 3 3), isV (.pointer (some ⟨w.heap.size + 1 + 1 + 1, 1, none⟩)), isV (I (sn : Int)), isV (.pointer (some ⟨S0.eb, sn, none⟩)), isV ((ekF es sn)), isV (I bg), fun v w => ∃ gz, v = .slice (some ⟨gz, 0, none⟩) 1 1 ∧ Box w gz 3 [I bg] ∧ some gz ≠ (ekF es sn).ownBlock, GrownE w w0.heap.size b 3 (.slice (some ⟨pb, poff, none⟩) n pc) (nodeL w b bg 3 (sn : Int)) S0 (ekF es sn) l ln bg] (by kernel_rfl) rfl rfl (by kernel_rfl) (by kernel_rfl) (by kernel_rfl) (World.grownBy.refl _ _) (fun _ _ _ h k => RelE.trans h k) (fun k w' w'' h hx => AppE.ext h hx) HI.out ⟨.inr (fun _ _ _ h _ => h), .inr (fun _ _ _ h _ => h), .inr (fun _ _ _ h _ => h), .inr (fun _ _ _ h _ => h), .inr (fun _ _ _ h _ => h), .inr (fun _ _ _ h _ => h), .inr (fun _ _ _ h _ => h), .inr (fun _ _ _ h _ => h), .inr (fun _ _ _ h _ => h), .inr (fun _ _ _ h _ => h), .inr (fun _ _ _ h _ => h), .inr (fun _ _ _ h _ => h), .inr (fun _ _ _ h _ => h), .inr (fun _ _ _ h _ => h), .inr (fun _ _ _ h _ => h), .inr (fun v w w' ⟨g, e, h, hn⟩ hr => ⟨g, e, h.kept hr (fun q => hn q.symm), hn⟩), .inl ⟨rfl, fun v w w' h hx => GrownE.ext h hx⟩, trivial⟩ ?each ?rest
  case each =>
    refine .light rfl ?_ (.light rfl ?_ (.light rfl ?_ (.light rfl ?_ (.light rfl ?_ (.light rfl ?_ (.light rfl ?_ (.light rfl ?_ (.light rfl ?_ (.light rfl ?_ (.light rfl ?_ (.light rfl ?_ (.light rfl ?_ (.light rfl ?_ (.light rfl ?_ (.light rfl ?_ (.heavy 0 rfl ?_ (.nil)))))))))))))))))
    · intro fa fw fk hr hinv hs hb
      have s3 : fa.tmps[(3 : Nat)]? = some (.pointer (some ⟨w.heap.size, 0, none⟩)) := (hb 3 (by kernel_rfl)).trans (by rfl)
      have c0 := C3.out fk fw hinv
      refine .inl ⟨wanted_free rfl, fun K hK => ?_⟩
      clear hs hb hr hinv
      go_simp
      exact hK _ _ rfl (Ext.refl _)
    · intro fa fw fk hr hinv hs hb
      obtain ⟨_, s44, rfl⟩ := hs 0 44 (by kernel_rfl) (by kernel_rfl)
      refine .inl ⟨wanted_free rfl, fun K hK => ?_⟩
      clear hs hb hr hinv
      go_simp
      exact hK _ _ rfl (Ext.refl _)
    · intro fa fw fk hr hinv hs hb
      obtain ⟨_, s45, rfl⟩ := hs 1 45 (by kernel_rfl) (by kernel_rfl)
      refine .inl ⟨wanted_free rfl, fun K hK => ?_⟩
      clear hs hb hr hinv
      go_simp
      exact hK _ _ rfl (Ext.refl _)
    · intro fa fw fk hr hinv hs hb
      obtain ⟨_, s46, rfl⟩ := hs 2 46 (by kernel_rfl) (by kernel_rfl)
      have c0 := CE.out fk fw hinv
      refine .inl ⟨wanted_free rfl, fun K hK => ?_⟩
      clear hs hb hr hinv
      go_simp
      exact hK _ _ rfl (Ext.refl _)
    · intro fa fw fk hr hinv hs hb
      have s7 : fa.tmps[(7 : Nat)]? = some (.pointer (some ⟨w.heap.size + 1 + 1 + 1, 0, none⟩)) := (hb 7 (by kernel_rfl)).trans (by rfl)
      refine .inl ⟨wanted_free rfl, fun K hK => ?_⟩
      clear hs hb hr hinv
      go_simp
      exact hK _ _ rfl (Ext.refl _)
    · intro fa fw fk hr hinv hs hb
      obtain ⟨_, s48, rfl⟩ := hs 4 48 (by kernel_rfl) (by kernel_rfl)
      have c0 := C7.out fk fw hinv
      refine .inl ⟨wanted_free rfl, fun K hK => ?_⟩
      clear hs hb hr hinv
      go_simp
      exact hK _ _ rfl (Ext.refl _)
    · intro fa fw fk hr hinv hs hb
      have s3 : fa.tmps[(3 : Nat)]? = some (.pointer (some ⟨w.heap.size, 0, none⟩)) := (hb 3 (by kernel_rfl)).trans (by rfl)
      have c0 := C3.out fk fw hinv
      refine .inl ⟨wanted_free rfl, fun K hK => ?_⟩
      clear hs hb hr hinv
      go_simp
      exact hK _ _ rfl (Ext.refl _)
    · intro fa fw fk hr hinv hs hb
      obtain ⟨_, s50, rfl⟩ := hs 6 50 (by kernel_rfl) (by kernel_rfl)
      refine .inl ⟨wanted_free rfl, fun K hK => ?_⟩
      clear hs hb hr hinv
      go_simp
      exact hK _ _ rfl (Ext.refl _)
    · intro fa fw fk hr hinv hs hb
      obtain ⟨_, s51, rfl⟩ := hs 7 51 (by kernel_rfl) (by kernel_rfl)
      refine .inl ⟨wanted_free rfl, fun K hK => ?_⟩
      clear hs hb hr hinv
      go_simp
      exact hK _ _ rfl (Ext.refl _)
    · intro fa fw fk hr hinv hs hb
      obtain ⟨_, s52, rfl⟩ := hs 8 52 (by kernel_rfl) (by kernel_rfl)
      have c0 := CE.out fk fw hinv
      refine .inl ⟨wanted_free rfl, fun K hK => ?_⟩
      clear hs hb hr hinv
      go_simp
      exact hK _ _ rfl (Ext.refl _)
    · intro fa fw fk hr hinv hs hb
      have s7 : fa.tmps[(7 : Nat)]? = some (.pointer (some ⟨w.heap.size + 1 + 1 + 1, 0, none⟩)) := (hb 7 (by kernel_rfl)).trans (by rfl)
      refine .inl ⟨wanted_free rfl, fun K hK => ?_⟩
      clear hs hb hr hinv
      go_simp
      exact hK _ _ rfl (Ext.refl _)
    · intro fa fw fk hr hinv hs hb
      obtain ⟨_, s54, rfl⟩ := hs 10 54 (by kernel_rfl) (by kernel_rfl)
      have c0 := C7.out fk fw hinv
      refine .inl ⟨wanted_free rfl, fun K hK => ?_⟩
      clear hs hb hr hinv
      go_simp
      exact hK _ _ rfl (Ext.refl _)
    · intro fa fw fk hr hinv hs hb
      obtain ⟨_, s53, rfl⟩ := hs 9 53 (by kernel_rfl) (by kernel_rfl)
      obtain ⟨_, s55, rfl⟩ := hs 11 55 (by kernel_rfl) (by kernel_rfl)
      refine .inl ⟨wanted_free rfl, fun K hK => ?_⟩
      clear hs hb hr hinv
      go_simp
      exact hK _ _ rfl (Ext.refl _)
    · intro fa fw fk hr hinv hs hb
      obtain ⟨_, s56, rfl⟩ := hs 12 56 (by kernel_rfl) (by kernel_rfl)
      have c0 := CK.out fk fw hinv
      refine .inl ⟨wanted_free rfl, fun K hK => ?_⟩
      clear hs hb hr hinv
      go_simp
      exact hK _ _ rfl (Ext.refl _)
    · intro fa fw fk hr hinv hs hb
      have s5 : fa.tmps[(5 : Nat)]? = some (.pointer (some ⟨w.heap.size + 1, 0, none⟩)) := (hb 5 (by kernel_rfl)).trans (by rfl)
      have c0 := C5.out fk fw hinv
      refine .inl ⟨wanted_free rfl, fun K hK => ?_⟩
      clear hs hb hr hinv
      go_simp
      exact hK _ _ rfl (Ext.refl _)
    · intro fa fw fk hr hinv hs hb
      obtain ⟨_, s58, rfl⟩ := hs 14 58 (by kernel_rfl) (by kernel_rfl)
      refine .inl ⟨wanted_free rfl, fun K hK => ?_⟩
      clear hs hb
      go_simp
      obtain ⟨wp, hp1, hp2⟩ := hinv.get
      refine hK _ _ ⟨fw.heap.size, rfl, Box.new fw _ _, fun q => ?_⟩ ((Ext.refl _).alloc _)
      have := (((HOW.out wp hp1).lt fw.heap.size q.symm)).2
      have := hp2.size
      omega
    · intro fa fw hr hinv hs hb
      obtain ⟨_, s57, rfl⟩ := hs 13 57 (by kernel_rfl) (by kernel_rfl)
      obtain ⟨_, s59, b59, rfl, k59, n59⟩ := hs 15 59 (by kernel_rfl) (by kernel_rfl)
      refine ⟨wanted_free rfl, fun K hK => ?_⟩
      clear hs hb
      have hi0 : NodeI w w0.heap.size b 3 (.slice (some ⟨pb, poff, none⟩) n pc) (nodeL w b bg 3 (sn : Int)) S0 fw := hinv
      have hrow := HOW.out fw hi0
      refine wp_append_lies fw (.tmp 57) (.tmp 59) 23 rfl w0.heap.size 3 inf _ 1 8 Try.underlying23 HTI.out HTZ.out HT1.out HT2.out rfl (by omega) (ekF es sn) ln (l.map I) (by go_simp) hrow ⟨b59, 0, none⟩ 1 1 [I bg] (by go_simp) rfl (fun j u hu => by rw [add_zero, k59.cell]; exact hu) (by simp [Value.oneCell']) (by omega) (by have := HLB.out; unfold maxLen; omega) (by have := HLB.out; omega) hi0.sm.size.1 _ rfl ?_
      intro g6 cap6 w6 hown6 hgr6 hat6 hlt6
      exact hK _ _ ⟨g6, cap6, fw, rfl, hi0, hgr6, hown6, hat6.imp id (fun e => by rw [e]; exact Nat.le_refl _)⟩ hgr6 ⟨fw, hi0, hgr6⟩
  case rest =>
    intro w9 hrw9 hiw9
    rintro _ rfl
    rintro _ rfl
    rintro _ rfl
    rintro _ rfl
    rintro _ rfl
    rintro _ rfl
    rintro _ rfl
    rintro _ rfl
    rintro _ rfl
    rintro _ rfl
    rintro _ rfl
    rintro _ rfl
    rintro _ rfl
    rintro _ rfl
    rintro _ rfl
    rintro _ ⟨b59, rfl, k59, n59⟩
    rintro _ ⟨g6, cap6, wp, rfl, hp6, hg6, ho6, hf6⟩
    simp only [putAll, List.take, Act.put, List.setIfInBounds_toArray, List.set_cons_zero, List.set_cons_succ]
    have hap : AppE w w0.heap.size b 3 (.slice (some ⟨pb, poff, none⟩) n pc) (nodeL w b bg 3 (sn : Int)) S0 (ekF es sn) 1 w9 := ⟨wp, hp6, hg6⟩
    have hbx := (hap.ebox HEKS.out).1
    have z0 := hbx.cell sn
    rw [show S0.es[sn]? = some (ekF es sn) from by rw [HS0.out]; exact HEK.out] at z0
    have f0 := hbx.free
    have hi10 := hp6.emit (k := sn) (x := bg) (by rw [HS0.out]; exact HEK.out) (by rw [HS0.out]; exact HLL.out) hg6 (by rw [← HLN.out]; exact ho6) (fun g hg => by simp only [Value.ownBlock, Option.some.injEq] at hg; subst hg; exact hf6)
    have HI10 := Lib.hid hi10
    clear hap hbx hi10 hp6 hg6 ho6 hf6 hrw9 hiw9
    refine wpAny_ready (rs := [17]) (by kernel_rfl) (by simp) (AllReady.cons rfl (fun KK hKK => ?_) AllReady.nil)
    go_simp
    refine hKK _ _ ?_
    clear hKK KK
    refine wpAny_ready (rs := [18]) (by kernel_rfl) (by simp) (AllReady.cons rfl (fun KK hKK => ?_) AllReady.nil)
    go_simp
    refine hKK _ _ ?_
    clear hKK KK
    clear z0 f0
    refine wpAny_done (by kernel_rfl) ?_ _
    obtain ⟨w10, hw10⟩ : ∃ q, q = w9.setCell ⟨S0.eb, sn, none⟩ (.slice (some ⟨g6, 0, none⟩) (ln + 1) cap6) := ⟨_, rfl⟩
    obtain ⟨S1, hS1⟩ : ∃ S, S = { S0 with em := S0.em.set sn (l ++ [bg]), es := S0.es.set sn (.slice (some ⟨g6, 0, none⟩) (ln + 1) cap6) } := ⟨_, rfl⟩
    have hi11 : NodeI w w0.heap.size b 3 (.slice (some ⟨pb, poff, none⟩) n pc) (nodeL w b bg 3 (sn : Int)) S1 w10 := by rw [hS1, hw10]; exact HI10.out
    rw [← hw10]
    have HS1e : Hid (S1 = stN c rv (es.set sn (.slice (some ⟨g6, 0, none⟩) (ln + 1) cap6)) G R (E ++ [((sn : Int), bg)])) := by unfold Hid; rw [hS1, HS0.out]; simp only [stN]; rw [emOf_push E sn hsn bg l HLL.out]
    have HI11 := Lib.hid hi11; have LS1 : Hid (S1.gs.length = g) := by unfold Hid; rw [hS1]; exact LS0.out
    clear HI10 hw10 hS1 hi11
    obtain ⟨S2, hS2⟩ : ∃ S, S = S1.pushG (gNever) := ⟨_, rfl⟩
    have lS2 : S2.gs.length = g + 1 := by rw [hS2]; have := LS1.out; simp [this]
    have HS2 := Lib.hid hS2; have LS2 := Lib.hid lS2; clear hS2 lS2
    have C3b := Lib.hid (show ∀ k w', NodeI w w0.heap.size b 3 (.slice (some ⟨pb, poff, none⟩) n pc) (nodeL w b bg 3 (sn : Int)) (nthS [S1, S2] k) w' → w'.cell? ⟨w.heap.size, 0, none⟩ = some (.pointer (some ⟨b, 0, none⟩)) from fun k w' h => h.cell (g := w.heap.size) (T := 72) (cs := [.pointer (some ⟨b, 0, none⟩)]) (by simp) 0)
    have C5b := Lib.hid (show ∀ k w', NodeI w w0.heap.size b 3 (.slice (some ⟨pb, poff, none⟩) n pc) (nodeL w b bg 3 (sn : Int)) (nthS [S1, S2] k) w' → w'.cell? ⟨w.heap.size + 1, 0, none⟩ = some (I bg) from fun k w' h => h.cell (g := w.heap.size + 1) (T := 3) (cs := [I bg]) (by simp) 0)
    have C7b := Lib.hid (show ∀ k w', NodeI w w0.heap.size b 3 (.slice (some ⟨pb, poff, none⟩) n pc) (nodeL w b bg 3 (sn : Int)) (nthS [S1, S2] k) w' → w'.cell? ⟨w.heap.size + 1 + 1 + 1, 1, none⟩ = some (I (sn : Int)) from fun k w' h => h.cell (g := w.heap.size + 1 + 1 + 1) (T := 64) (cs := [I 3, I (sn : Int)]) (by simp) 1)
    have HS1 := HS1e
    go_upto_region 8 with fail
    refine wp_flow7 4 1 [2] [] (RelF b) (fun k => NodeI w w0.heap.size b 3 (.slice (some ⟨pb, poff, none⟩) n pc) (nodeL w b bg 3 (sn : Int)) (nthS [S1, S2] k)) [isV (I bg), isV (.func (.func 75) #[] #[.pointer (some ⟨w.heap.size, 0, none⟩)]), isV (.int .i64 ((g : Int))), isV (.agg #[I bg, .int .i64 ((g : Int))])] (by kernel_rfl) rfl rfl (by kernel_rfl) (by kernel_rfl) (by kernel_rfl) (RelF.refl b _) (fun _ _ _ h k => RelF.trans h k) (fun k w' w'' h hx => NodeI.ext h hx) HI11.out ⟨.inr (fun _ _ _ h _ => h), .inr (fun _ _ _ h _ => h), .inr (fun _ _ _ h _ => h), .inr (fun _ _ _ h _ => h), trivial⟩ ?each ?rest
    case each =>
      refine .light rfl ?_ (.light rfl ?_ (.heavy 0 rfl ?_ (.light rfl ?_ (.nil))))
      · intro fa fw fk hr hinv hs hb
        have s5 : fa.tmps[(5 : Nat)]? = some (.pointer (some ⟨w.heap.size + 1, 0, none⟩)) := (hb 5 (by kernel_rfl)).trans (by rfl)
        have c0 := C5b.out fk fw hinv
        refine .inl ⟨wanted_free rfl, fun K hK => ?_⟩
        clear hs hb hr hinv
        go_simp
        exact hK _ _ rfl (Ext.refl _)
      · intro fa fw fk hr hinv hs hb
        have s8 : fa.tmps[(8 : Nat)]? = some (.func (.func 75) #[] #[.pointer (some ⟨w.heap.size, 0, none⟩)]) := (hb 8 (by kernel_rfl)).trans (by rfl)
        refine .inl ⟨wanted_free rfl, fun K hK => ?_⟩
        clear hs hb hr hinv
        go_simp
        exact hK _ _ rfl (Ext.refl _)
      · intro fa fw hr hinv hs hb
        obtain ⟨_, s63, rfl⟩ := hs 1 63 (by kernel_rfl) (by kernel_rfl)
        refine ⟨wanted_free rfl, fun K hK => ?_⟩
        clear hs hb
        go_simp
        refine (snever_any hinv.sm (w.heap.size) (C3b.out 0 fw hinv) (by show S1.gs.length ≤ 1000; have := HGB.out; have := LS1.out; omega)).mono ?_
        rintro e w' ⟨rfl, hm⟩
        have hq := hinv.step hm
        rw [show (nthS [S1, S2] 0).gs.length = _ from LS1.out]
        exact hK _ _ rfl hm.rel (by show NodeI _ _ _ _ _ _ S2 _; rw [HS2.out]; exact hq)
      · intro fa fw fk hr hinv hs hb
        obtain ⟨_, s62, rfl⟩ := hs 0 62 (by kernel_rfl) (by kernel_rfl)
        obtain ⟨_, s64, rfl⟩ := hs 2 64 (by kernel_rfl) (by kernel_rfl)
        refine .inl ⟨wanted_free rfl, fun K hK => ?_⟩
        clear hs hb hr hinv
        go_simp
        exact hK _ _ rfl (Ext.refl _)
    case rest =>
      intro w11 hrw11 hiw11
      rintro _ rfl
      rintro _ rfl
      rintro _ rfl
      rintro _ rfl
      simp only [putAll, List.take, Act.put, List.setIfInBounds_toArray, List.set_cons_zero, List.set_cons_succ]
      have hi9 : NodeI w w0.heap.size b 3 (.slice (some ⟨pb, poff, none⟩) n pc) (nodeL w b bg 3 (sn : Int)) S2 w11 := hiw11
      have hb6 : Box w11 (w.heap.size + 1 + 1) 81 [I 0, I 0] := (hi9.lo (w.heap.size + 1 + 1, 81, [I 0, I 0]) (by simp)).1
      have z0 := hb6.cell 0; have z1 := hb6.cell 1; have f6 := hb6.free
      simp only [List.getElem?_cons_zero, List.getElem?_cons_succ] at z0 z1
      have hfin := hi9.finish HBS.out (m6 := w.heap.size + 1 + 1) (x := I 0) (y := I 0) (by simp) (by omega) (I (bg)) (I ((g : Int)))
      have HFIN := Lib.hid hfin
      clear hb6 hfin hi9
      clear hrw11 hiw11
      refine wpAny_ready (rs := [4]) (by kernel_rfl) (by simp) (AllReady.cons rfl (fun KK hKK => ?_) AllReady.nil)
      go_simp
      refine hKK _ _ ?_
      clear hKK KK z0 z1 f6
      refine wpAny_done (by kernel_rfl) ?_ _
      go_wp2
      obtain ⟨hmade, y0, y1⟩ := HFIN.out
      have hmod : S2 = stN c rv (es.set sn (.slice (some ⟨g6, 0, none⟩) (ln + 1) cap6)) (G ++ (nodeF (.leaf ⟨3, (sn : Int)⟩) G.length R.length bg).G) (R ++ (nodeF (.leaf ⟨3, (sn : Int)⟩) G.length R.length bg).R) (E ++ (nodeF (.leaf ⟨3, (sn : Int)⟩) G.length R.length bg).E) := by
        rw [HS2.out, HS1.out]; simp [nodeF, HG.out, HR0.out, insG]
      have hov : (nodeF (.leaf ⟨3, (sn : Int)⟩) G.length R.length bg).over = bg := by simp [nodeF, HG.out]
      have hso : (nodeF (.leaf ⟨3, (sn : Int)⟩) G.length R.length bg).some = (g : Int) := by simp [nodeF, HG.out]
      rw [hmod] at hmade
      refine bodyPost_ret (v := .agg #[I (bg), I ((g : Int))]) ?_ rfl ⟨rv, (es.set sn (.slice (some ⟨g6, 0, none⟩) (ln + 1) cap6)), by rw [hov, hso], hmade⟩
      clear hmade hmod hov hso HFIN
      simp [results, Try.results39, go_sem, y0, y1]
end
end Go.Proofs.Ytlafiddfplhafaa
/- Flow7's rule, where some operations lay new memory whose blocks must be told apart. -/
namespace Go.Proofs.Ytlafiddfplhafaa
set_option linter.unusedVariables false
set_option linter.unusedSimpArgs false
open Go.RowKit
structure Flow8S (fresh : List Nat) (blk : Value → Nat) (W0 : World) (a0 : Act) (ops : Array Oper) (m : Nat) (heavy : List Nat) (rel : World → World → Prop) (Inv : Nat → World → Prop) (F : Nat → Value → World → Prop) (listed : Array Bool) (a : Act) (w : World) : Prop where
  size : a.tmps.size = a0.tmps.size
  defers : a.defers = a0.defers
  base : ∀ s : Nat, (∀ (j : Nat) (o : Oper), j < m → ops[j]? = some o → o.dst ≠ some s) → a.tmps[s]? = a0.tmps[s]?
  slot : ∀ (j : Nat) (o : Oper) (d : Nat), j < m → listed.getD j false = true → ops[j]? = some o → o.dst = some d → ∃ v, a.tmps[d]? = some v ∧ F j v w
  relw : rel W0 w
  frl : ∀ (j : Nat) (o : Oper) (d : Nat) (v : Value), j < m → fresh.contains j = true → listed.getD j false = true → ops[j]? = some o → o.dst = some d → a.tmps[d]? = some v → blk v < w.heap.size
  frs : ∀ (i j : Nat) (oi oj : Oper) (di dj : Nat) (vi vj : Value), i < m → j < m → i ≠ j → fresh.contains i = true → fresh.contains j = true → listed.getD i false = true → listed.getD j false = true → ops[i]? = some oi → ops[j]? = some oj → oi.dst = some di → oj.dst = some dj → a.tmps[di]? = some vi → a.tmps[dj]? = some vj → blk vi ≠ blk vj
  inv : ∃ k, k ≤ heavy.length ∧ Inv k w ∧ ∀ (q i : Nat), heavy[q]? = some i → listed.getD i false = decide (q < k)
/-- One that does not. -/
def StepL8 (fresh : List Nat) (blk : Value → Nat) (P : Program) (ops : Array Oper) (m : Nat) (Q : Exit → Act → World → Prop) (W0 : World) (a0 : Act) (rel : World → World → Prop) (Inv : Nat → World → Prop) (F : Nat → Value → World → Prop) (j : Nat) (o : Oper) : Prop :=
  ∀ (a : Act) (w : World) (k : Nat), rel W0 w → Inv k w →
    (∀ i d, waitsFor o i = true → dstIs ops i d = true → ∃ v, a.tmps[d]? = some v ∧ F i v w) →
    (∀ s, freeSlot (ops.toList.take m).toArray s = true → a.tmps[s]? = a0.tmps[s]?) →
    (Region.wanted o (yielded ops a.tmps) = true ∧ ∀ K : Act → World → Prop, (∀ v w', F j v w' → Ext w w' → (fresh.contains j = true → w.heap.size ≤ blk v ∧ blk v < w'.heap.size) → K (a.put o.dst v) w') → Oper.wp P o a w K Q) ∨ (Region.wanted o (yielded ops a.tmps) = false ∧ F j undef w ∧ fresh.contains j = false)
/-- THE RULE. -/
theorem wp_flow8 {P : Program} {l : List Oper} {Q : Exit → Act → World → Prop} {id : Nat} {a0 : Act} {W0 : World} (m n : Nat) (heavy late fresh : List Nat) (blk : Value → Nat) (rel : World → World → Prop) (Inv : Nat → World → Prop) (Fs : List Fact) (hm : P.follows .mixedOrders = true) (hln : l.length = m + n) (hfl : Fs.length = m)
    (hok : flowOK (l.take m).toArray a0.tmps.size = true) (hsuf : sufOK4 l.toArray m = true) (hhv : heavyOK l.toArray m heavy late = true)
    (hfh : heavy.all (fun h => !fresh.contains h) = true) (rsize : ∀ a b, rel a b → a.heap.size ≤ b.heap.size) (rrefl : rel W0 W0) (rtrans : ∀ a b c, rel a b → rel b c → rel a c) (inve : ∀ k w w', Inv k w → Ext w w' → Inv k w' ∧ rel w w') (start : Inv 0 W0)
    (mono : factsLast rel late 0 Fs) (each : AllFrom7 heavy (StepL8 fresh blk P l.toArray m Q W0 a0 rel Inv (facts Fs)) (StepH7 P l.toArray m Q W0 a0 rel Inv (facts Fs)) 0 (l.take m))
    (rest : ∀ w, rel W0 w → Inv heavy.length w → ForFacts Fs w (fun vs => (∀ (i j : Nat) (vi vj : Value), i ≠ j → fresh.contains i = true → fresh.contains j = true → vs[i]? = some vi → vs[j]? = some vj → blk vi ≠ blk vj) → wpAny P .any l.toArray Q n (preL m n) (putAll a0 (l.take m) vs) w)) : (Code.region id l.toArray true).wp P Q a0 W0 := by
  have hsz : l.toArray.size = m + n := by simpa using hln
  have hlt : (l.take m).length = m := by simp; omega
  have hpo : ∀ i o, i < m → l.toArray[i]? = some o → (l.take m).toArray[i]? = some o := fun i o hi ho => by
    rw [List.getElem?_toArray, List.getElem?_take_of_lt hi]; simpa using ho
  have hdep : ∀ i o e, i < m → l.toArray[i]? = some o → e ∈ o.after.toList → Region.binds .any e = true → e.on < i := fun i o e hi ho he hbd => by
    obtain ⟨d, -, -, -, h4⟩ := flow_dst hok (hpo i o hi ho)
    exact h4 e he hbd
  refine wp_region_any hm ?_
  have key := wpAny_inv_pre4 (P := P) (Q := Q) hsz hsuf (fun listed a w => (listed.size = m + n ∧ Closed l.toArray listed) ∧ Flow8S fresh blk W0 a0 l.toArray m heavy rel Inv (facts Fs) listed a w) (fun listed a w h => h.1.2) ?_ ?_ ?_ m (Array.replicate l.toArray.size false) a0 { W0 with drawn := W0.drawn + 1 } (by simp) ?_ ?_ ?_
  · rw [Nat.add_comm] at key; rw [← hsz] at key; exact key
  · rintro listed a w i hs ⟨⟨hI0, hC⟩, hI⟩ him hi
    obtain ⟨o, ho, hd⟩ := ready_of hi
    have hn := ready_not7 hi
    have hil : i < listed.size := by omega
    have hnf : listed.getD i false = false := by
      simp only [Array.getD, hil, dif_pos] at hn ⊢
      exact hn
    obtain ⟨k, hkl, hinv, hks⟩ := hI.inv
    have ho' : (l.take m)[i]? = some o := by rw [List.getElem?_take_of_lt him]; simpa using ho
    obtain ⟨d, hd0, hdn, hu, -⟩ := flow_dst hok (hpo i o him ho)
    have hputb : ∀ (v : Value) (s : Nat), o.dst ≠ some s → (a.put o.dst v).tmps[s]? = a.tmps[s]? := fun v s h => by
      have hne : d ≠ s := by rintro rfl; exact h hd0
      rw [hd0]; simp only [Act.put]
      rw [Array.getElem?_setIfInBounds_ne hne]
    have hputs : ∀ v : Value, (a.put o.dst v).tmps[d]? = some v := fun v => by
      rw [hd0]; simp only [Act.put]
      rw [Array.getElem?_setIfInBounds_self_of_lt (by rw [hI.size]; exact hdn)]
    have hdeps : ∀ i' d, waitsFor o i' = true → dstIs l.toArray i' d = true → ∃ v, a.tmps[d]? = some v ∧ facts Fs i' v w := fun i' d hw' hd' => by
      obtain ⟨o', h1, h2⟩ := dstIs_spec hd'
      have hi' : i' < i := by
        obtain ⟨e, he, h2⟩ := Array.any_eq_true'.1 hw'
        simp only [Bool.and_eq_true, beq_iff_eq] at h2
        rw [← h2.1]; exact hdep i o e him ho (by simpa using he) h2.2
      exact hI.slot i' o' d (by omega) (waitsFor_spec hw' hd) h1 h2
    have hfree : ∀ s, freeSlot (l.toArray.toList.take m).toArray s = true → a.tmps[s]? = a0.tmps[s]? := fun s h => hI.base s (fun j o hj hj' => freeSlot_spec h j o (by rw [List.getElem?_toArray, List.getElem?_take_of_lt hj]; simpa using hj'))
    have slots : ∀ v w', facts Fs i v w' → (∀ j u, j < m → listed.getD j false = true → facts Fs j u w → facts Fs j u w') → ∀ (j : Nat) (o' : Oper) (d' : Nat), j < m → (listed.setIfInBounds i true).getD j false = true → l.toArray[j]? = some o' → o'.dst = some d' → ∃ u, (a.put o.dst v).tmps[d']? = some u ∧ facts Fs j u w' := fun v w' hv hmo j o' d' hj hl hj' hd' => by
      by_cases e : j = i
      · subst e
        rw [ho] at hj'; injection hj' with hj'; subst hj'
        rw [hd0] at hd'; injection hd' with hd'; subst hd'
        exact ⟨v, hputs v, hv⟩
      · rw [getD_set_ne false (fun q => e q.symm)] at hl
        obtain ⟨u, h1, h2⟩ := hI.slot j o' d' hj hl hj' hd'
        refine ⟨u, ?_, hmo j u hj hl h2⟩
        rw [hputb v d' ?_]
        · exact h1
        · intro e2
          rw [hd0] at e2; injection e2 with e2; subst e2
          obtain ⟨dj, hdj, -, huj, -⟩ := flow_dst hok (hpo j o' hj hj')
          rcases Nat.lt_or_ge j i with q | q
          · exact hu j o' q (hpo j o' hj hj') hd'
          · exact huj i o (by omega) (hpo i o him ho) (by rw [hd0, ← hd', hdj])
    have base' : ∀ (v : Value) (s : Nat), (∀ (j : Nat) (o : Oper), j < m → l.toArray[j]? = some o → o.dst ≠ some s) → (a.put o.dst v).tmps[s]? = a0.tmps[s]? := fun v s h => by
      rw [hputb v s (h i o him ho)]; exact hI.base s h
    have old : ∀ (v : Value) (j : Nat) (o' : Oper) (d' : Nat), j < m → j ≠ i → l.toArray[j]? = some o' → o'.dst = some d' → (a.put o.dst v).tmps[d']? = a.tmps[d']? := fun v j o' d' hj hne hj' hd' => by
      refine hputb v d' ?_
      intro e2
      rw [hd0] at e2; injection e2 with e2; subst e2
      obtain ⟨dj, hdj, -, huj, -⟩ := flow_dst hok (hpo j o' hj hj')
      rcases Nat.lt_or_ge j i with q | q
      · exact hu j o' q (hpo j o' hj hj') hd'
      · exact huj i o (by omega) (hpo i o him ho) (by rw [hd0, ← hd', hdj])
    have self : ∀ (v : Value) (o' : Oper) (d' : Nat) (v' : Value), l.toArray[i]? = some o' → o'.dst = some d' → (a.put o.dst v).tmps[d']? = some v' → v' = v := fun v o' d' v' hi' hd' hv' => by
      rw [ho] at hi'; injection hi' with hi'; subst hi'
      rw [hd0] at hd'; injection hd' with hd'; subst hd'
      rw [hputs v] at hv'; injection hv' with hv'; exact hv'.symm
    have newF : ∀ (v : Value) (w' : World), w.heap.size ≤ w'.heap.size → (fresh.contains i = true → w.heap.size ≤ blk v ∧ blk v < w'.heap.size) →
        (∀ (j : Nat) (o' : Oper) (d : Nat) (v' : Value), j < m → fresh.contains j = true → (listed.setIfInBounds i true).getD j false = true → l.toArray[j]? = some o' → o'.dst = some d → (a.put o.dst v).tmps[d]? = some v' → blk v' < w'.heap.size) ∧
        (∀ (i' j : Nat) (oi oj : Oper) (di dj : Nat) (vi vj : Value), i' < m → j < m → i' ≠ j → fresh.contains i' = true → fresh.contains j = true → (listed.setIfInBounds i true).getD i' false = true → (listed.setIfInBounds i true).getD j false = true → l.toArray[i']? = some oi → l.toArray[j]? = some oj → oi.dst = some di → oj.dst = some dj → (a.put o.dst v).tmps[di]? = some vi → (a.put o.dst v).tmps[dj]? = some vj → blk vi ≠ blk vj) := fun v w' hsw hfr => by
      refine ⟨fun j o' d v' hj hjf hl hj' hd' hv' => ?_, fun i' j oi oj di dj vi vj hi' hj hne hif hjf hli hlj hoi hoj hdi hdj hvi hvj => ?_⟩
      · by_cases e : j = i
        · subst e
          rw [self v o' d v' hj' hd' hv']; exact (hfr hjf).2
        · rw [getD_set_ne false (fun q => e q.symm)] at hl
          rw [old v j o' d hj e hj' hd'] at hv'
          exact Nat.lt_of_lt_of_le (hI.frl j o' d v' hj hjf hl hj' hd' hv') hsw
      · by_cases ei : i' = i
        · subst ei
          have hji : j ≠ i' := fun q => hne q.symm
          rw [getD_set_ne false (fun q => hji q.symm)] at hlj
          rw [old v j oj dj hj hji hoj hdj] at hvj
          have h1 := hI.frl j oj dj vj hj hjf hlj hoj hdj hvj
          rw [self v oi di vi hoi hdi hvi]
          have h2 := (hfr hif).1
          omega
        · rw [getD_set_ne false (fun q => ei q.symm)] at hli
          rw [old v i' oi di hi' ei hoi hdi] at hvi
          by_cases ej : j = i
          · subst ej
            have h1 := hI.frl i' oi di vi hi' hif hli hoi hdi hvi
            rw [self v oj dj vj hoj hdj hvj]
            have h2 := (hfr hjf).1
            omega
          · rw [getD_set_ne false (fun q => ej q.symm)] at hlj
            rw [old v j oj dj hj ej hoj hdj] at hvj
            exact hI.frs i' j oi oj di dj vi vj hi' hj hne hif hjf hli hlj hoi hoj hdi hdj hvi hvj
    rcases each.at_ i o ho' with ⟨p, hp, hst⟩ | ⟨hnh, hst⟩
    · -- one that changes memory
      simp only [Nat.zero_add] at hp hst
      have hpk : p = k := by
        have h1 := hks p i hp
        rw [hnf] at h1
        have h1' : ¬ p < k := by simpa using h1.symm
        rcases Nat.lt_or_ge k p with q | q
        · exfalso
          obtain ⟨d2, rfl⟩ : ∃ d2, p = d2 + 1 := ⟨p - 1, by omega⟩
          have hl2 := (List.getElem?_eq_some_iff.1 hp).1
          obtain ⟨x, hx⟩ : ∃ x, heavy[d2]? = some x := ⟨_, List.getElem?_eq_getElem (by omega)⟩
          obtain ⟨-, o2, ho2, hne⟩ := heavyOK_next hhv hx hp
          rw [ho] at ho2; injection ho2 with ho2; subst ho2
          have h3 := needsOp_spec hC _ o hne hd
          rw [hks d2 x hx] at h3
          have : d2 < k := by simpa using h3
          omega
        · omega
      subst hpk
      obtain ⟨h1, h2⟩ := hst a w hI.relw hinv hdeps hfree
      refine wpOp_step' ho h1 (h2 _ fun v w' hv hr hi' => ⟨⟨by simpa using hI0, hC.set hs hi⟩, ?_⟩)
      have nfH : fresh.contains i = false := by
        have := List.all_eq_true.1 hfh i (List.mem_of_getElem? hp)
        simpa using this
      have notlate : ∀ j, listed.getD j false = true → j < m → late.contains j = false := fun j hl hj => by
        cases hc : late.contains j with
        | false => rfl
        | true =>
          exfalso
          unfold heavyOK at hhv
          rw [Bool.and_eq_true] at hhv
          have h3 := List.all_eq_true.1 hhv.2 j (by simpa using hc)
          cases hlast : heavy.getLast? with
          | none =>
            rw [List.getLast?_eq_none_iff] at hlast
            subst hlast; simp at hp
          | some hL =>
            rw [hlast] at h3
            have hLl : listed.getD hL false = true := by
              simp only [Bool.or_eq_true, beq_iff_eq] at h3
              rcases h3 with h3 | h3
              · subst h3; exact hl
              · have hj' : l.toArray[j]? = some l.toArray[j] := Array.getElem?_eq_getElem (by omega)
                rw [hj'] at h3
                exact needsOp_spec hC _ _ h3 (hC j _ hl hj')
            have hLi : heavy[heavy.length - 1]? = some hL := by rw [← List.getLast?_eq_getElem?]; exact hlast
            have h5 := hks _ hL hLi
            rw [hLl] at h5
            have h6 : heavy.length - 1 < p := by simpa using h5.symm
            have h7 := (List.getElem?_eq_some_iff.1 hp).1
            omega
      refine ⟨by rw [Act.put_size]; exact hI.size, by rw [Act.put_defers']; exact hI.defers, base' v, slots v w' hv (fun j u hj hl h => factsLast_rel mono j u w w' (by rw [Nat.zero_add]; exact notlate j hl hj) h hr), rtrans _ _ _ hI.relw hr, (newF v w' (rsize _ _ hr) (fun h => absurd h (by rw [nfH]; decide))).1, (newF v w' (rsize _ _ hr) (fun h => absurd h (by rw [nfH]; decide))).2, p + 1, (List.getElem?_eq_some_iff.1 hp).1, hi', fun q x hx => ?_⟩
      by_cases e : q = p
      · subst e
        rw [hp] at hx; injection hx with hx; subst hx
        rw [getD_set_self7 hil]; simp
      · have hxi : i ≠ x := by
          rintro rfl
          rcases Nat.lt_or_ge q p with h | h
          · have := heavyOK_inj hhv (p - q - 1) q i i hx (by rw [show q + (p - q - 1) + 1 = p from by omega]; exact hp); omega
          · have := heavyOK_inj hhv (q - p - 1) p i i hp (by rw [show p + (q - p - 1) + 1 = q from by omega]; exact hx); omega
        rw [getD_set_ne false hxi, hks q x hx]
        congr 1
        exact propext ⟨fun h => by omega, fun h => by omega⟩
    · -- one that does not
      simp only [Nat.zero_add] at hst hnh
      have fin : ∀ v w', facts Fs i v w' → Ext w w' → (fresh.contains i = true → w.heap.size ≤ blk v ∧ blk v < w'.heap.size) → (∃ q : Nat, heavy[q]? = some i) ∨ Flow8S fresh blk W0 a0 l.toArray m heavy rel Inv (facts Fs) (listed.setIfInBounds i true) (a.put o.dst v) w' := fun v w' hv hx hnw => by
        by_cases hh : ∃ q : Nat, heavy[q]? = some i
        · exact .inl hh
        · right
          obtain ⟨k1, k2⟩ := inve k w w' hinv hx
          refine ⟨by rw [Act.put_size]; exact hI.size, by rw [Act.put_defers']; exact hI.defers, base' v, slots v w' hv (fun j u _ _ h => factsLast_ext mono j u w w' h hx k2), rtrans _ _ _ hI.relw k2, (newF v w' hx.size hnw).1, (newF v w' hx.size hnw).2, k, hkl, k1, fun q x hx' => ?_⟩
          have hxi : i ≠ x := by rintro rfl; exact hh ⟨q, hx'⟩
          rw [getD_set_ne false hxi]; exact hks q x hx'
      by_cases hh : ∃ q : Nat, heavy[q]? = some i
      · exfalso
        obtain ⟨q, hq⟩ := hh
        have h1 : i ∈ heavy := List.mem_of_getElem? hq
        rw [List.contains_iff_mem.2 h1] at hnh
        cases hnh
      · rcases hst a w k hI.relw hinv hdeps hfree with ⟨h1, h2⟩ | ⟨h1, h2, h3⟩
        · exact wpOp_step' ho h1 (h2 _ fun v w' hv hx hnw => ⟨⟨by simpa using hI0, hC.set hs hi⟩, (fin v w' hv hx hnw).resolve_left hh⟩)
        · exact wpOp_skip' ho h1 ⟨⟨by simpa using hI0, hC.set hs hi⟩, (fin undef w h2 (Ext.refl _) (fun h => absurd h (by rw [h3]; decide))).resolve_left hh⟩
  · rintro listed a w hs ⟨⟨hI0, -⟩, hI⟩ hr
    have : ∀ (k j : Nat), j < k → j < m → listed.getD j false = true := by
      intro k
      induction k with
      | zero => intro j h; omega
      | succ k ih =>
        intro j h1 h2
        by_cases hl : listed.getD j false = true
        · exact hl
        · exfalso
          have hj : l.toArray[j]? = some l.toArray[j] := Array.getElem?_eq_getElem (by omega)
          have hmem : j ∈ Region.ready .any l.toArray listed := by
            unfold Region.ready
            refine List.mem_filter.2 ⟨List.mem_range.2 (by omega), ?_⟩
            rw [hj]
            simp only [Bool.and_eq_true, Option.map_some, Option.getD_some]
            refine ⟨?_, Array.all_eq_true'.2 fun e he => ?_⟩
            · have h2' : j < listed.size := by omega
              simp only [Array.getD, h2', dif_pos] at hl ⊢
              simpa using hl
            · cases hbd : Region.binds .any e with
              | false => rfl
              | true =>
                have he' := hdep j _ e h2 hj (by simpa using he) hbd
                rw [ih e.on (by omega) (by omega)]; rfl
          rw [hr] at hmem; cases hmem
    exact fun j hj => this (j + 1) j (Nat.lt_succ_self j) hj
  · rintro a w ⟨-, hI⟩
    obtain ⟨k, hkl, hinv, hks⟩ := hI.inv
    have hkk : k = heavy.length := by
      rcases Nat.lt_or_ge k heavy.length with q | q
      · exfalso
        obtain ⟨x, hx⟩ : ∃ x, heavy[k]? = some x := ⟨_, List.getElem?_eq_getElem q⟩
        have h1 := hks k x hx
        have h2 := heavyOK_lt hhv hx
        have h3 : (preL m n).getD x false = true := by
          rw [Array.getD_eq_getD_getElem?]; simp [preL, List.getElem?_append, h2]
        rw [h3] at h1
        simp at h1
      · omega
    subst hkk
    have hx := rest w hI.relw hinv
    obtain ⟨vs, g1, g2, g3⟩ := forFacts_get (a := a) (os := l.take m) (by rw [hfl, hlt]) hx (fun j o hj => by
      obtain ⟨d, h1, h2, -, -⟩ := flow_dst hok (by simpa using hj)
      have hjm : j < m := by have := (List.getElem?_eq_some_iff.1 hj).1; omega
      obtain ⟨v, k1, k2⟩ := hI.slot j o d hjm (by
        rw [Array.getD_eq_getD_getElem?]; simp [preL, List.getElem?_append, hjm]) (by rw [List.getElem?_take_of_lt hjm] at hj; simpa using hj) h1
      exact ⟨d, v, h1, k1, k2⟩)
    have ha : a = putAll a0 (l.take m) vs := eq_putAll g1 hI.size hI.defers (fun s hs => hI.base s (fun j o hj ho => hs o (List.mem_of_getElem? (by rw [List.getElem?_take_of_lt hj]; simpa using ho : (l.take m)[j]? = some o)))) (fun j o d hj hd => by
      obtain ⟨d', h1, h2, -, -⟩ := flow_dst hok (j := j) (by simpa using hj)
      rw [hd] at h1; injection h1 with h1; subst h1
      exact ⟨h2, g3 j o d hj hd⟩)
    rw [ha]
    refine g2 fun i' j vi vj hne hif hjf hvi hvj => ?_
    have at0 : ∀ (q : Nat) (vq : Value), vs[q]? = some vq → ∃ oq dq, q < m ∧ l.toArray[q]? = some oq ∧ oq.dst = some dq ∧ a.tmps[dq]? = some vq ∧ (preL m n).getD q false = true := fun q vq hq => by
      have hql : q < vs.length := (List.getElem?_eq_some_iff.1 hq).1
      have hqm : q < m := by omega
      have hoq : (l.take m)[q]? = some (l.take m)[q] := List.getElem?_eq_getElem (by omega)
      have hoq' : l.toArray[q]? = some (l.take m)[q] := by
        rw [List.getElem?_toArray, ← hoq, List.getElem?_take_of_lt hqm]
      obtain ⟨dq, h1, h2, -, -⟩ := flow_dst hok (hpo q _ hqm hoq')
      obtain ⟨v, e1, e2⟩ := g3 q _ dq hoq h1
      rw [hq] at e1; injection e1 with e1; subst e1
      exact ⟨_, dq, hqm, hoq', h1, e2, by rw [Array.getD_eq_getD_getElem?]; simp [preL, List.getElem?_append, hqm]⟩
    obtain ⟨oi, di, k1, k2, k3, k4, k5⟩ := at0 i' vi hvi
    obtain ⟨oj, dj, q1, q2, q3, q4, q5⟩ := at0 j vj hvj
    exact hI.frs i' j oi oj di dj vi vj k1 q1 hne hif hjf k5 q5 k2 q2 k3 q3 k4 q4
  · rw [Array.toList_replicate, List.count_replicate]; simp; omega
  · intro j hj
    rw [Array.getD_eq_getD_getElem?, Array.getElem?_replicate]
    split <;> rfl
  · have hz : ∀ j, (Array.replicate l.toArray.size false).getD j false = false := fun j => by
      rw [Array.getD_eq_getD_getElem?, Array.getElem?_replicate]
      split <;> rfl
    obtain ⟨k1, k2⟩ := inve 0 W0 _ start (Ext.refl W0).drew
    exact ⟨⟨by simpa using hsz, fun i o h => by rw [hz] at h; cases h⟩, ⟨rfl, rfl, fun s _ => rfl, (fun j o d _ h => by rw [hz] at h; cases h), k2, (fun j o d v _ _ h => by rw [hz] at h; cases h), (fun i j oi oj di dj vi vj _ _ _ _ _ h => by rw [hz] at h; cases h), 0, Nat.zero_le _, k1, fun q i _ => by rw [hz]; simp⟩⟩
end Go.Proofs.Ytlafiddfplhafaa
/- The smith's node: nodes of two parts. -/
namespace Go.Proofs.Ytlafiddfplhafaa
set_option linter.unusedVariables false
set_option linter.unusedSimpArgs false
open Go.RowKit
abbrev TSt := List GateM × List StoreM × List (Int × Int)
def nthT : List TSt → Nat → TSt
  | [], _ => ([], [], [])
  | [s], _ => s
  | s :: _ :: _, 0 => s
  | _ :: s :: l, k + 1 => nthT (s :: l) k
def InvT (wE : World) (base b : Nat) (pv : Value) (L : List (Nat × TypeId × List Value)) (c : SmithM) (Ts : List TSt) (k : Nat) (w : World) : Prop :=
  ∃ rv es, NodeI wE base b 3 pv L (stN c rv es (nthT Ts k).1 (nthT Ts k).2.1 (nthT Ts k).2.2) w
section
variable {wE w w' : World} {base b : Nat} {pv : Value} {L : List (Nat × TypeId × List Value)} {c : SmithM} {Ts : List TSt} {k : Nat}
theorem InvT.ext (h : InvT wE base b pv L c Ts k w) (hx : Ext w w') : InvT wE base b pv L c Ts k w' ∧ RelF b w w' := by
  obtain ⟨rv, es, h⟩ := h
  obtain ⟨h1, h2⟩ := h.ext hx
  exact ⟨⟨rv, es, h1⟩, h2⟩
theorem InvT.cell (h : InvT wE base b pv L c Ts k w) {g : Nat} {T : TypeId} {cs : List Value} (hm : (g, T, cs) ∈ L) (j : Nat) : w.cell? ⟨g, j, none⟩ = cs[j]? := by
  obtain ⟨rv, es, h⟩ := h
  exact h.cell hm j
theorem InvT.sm (h : InvT wE base b pv L c Ts k w) : ∃ rv es, SmithP w base b 3 pv (stN c rv es (nthT Ts k).1 (nthT Ts k).2.1 (nthT Ts k).2.2) := by
  obtain ⟨rv, es, h⟩ := h
  exact ⟨rv, es, h.sm⟩
end
def blkP : Value → Nat
  | .pointer (some a) => a.block
  | _ => 0
theorem rests_at {w : World} {base b : Nat} {i0 : Int} {pv : Value} {S : SmithM} {L : List (Nat × TypeId × List Value)} (h : SmithP w base b i0 pv S) (hL : Locals b L w) (m3 m5 : Nat) (T3 T5 : TypeId) (bg ov sm : Int) (h3 : (m3, T3, [.pointer (some ⟨b, 0, none⟩)]) ∈ L) (h5 : (m5, T5, [I bg]) ∈ L) (hl : S.gs.length ≤ 900) (g : Nat) (hg : S.gs.length = g) :
    Calls Try.prog 79 #[.agg #[I ov, I sm], .pointer (some ⟨m3, 0, none⟩), .pointer (some ⟨m5, 0, none⟩)] w fun e w' =>
      e = .returned (I ((g + 2 : Nat) : Int)) ∧ MadeP w w' base b i0 pv (((S.pushG (gAny [bg, sm])).pushG (gNot g)).pushG (gAny [ov, ((g + 1 : Nat) : Int)])) := by
  subst hg
  exact rests_any h hL m3 m5 T3 T5 bg ov sm h3 h5 hl
theorem NodeI.foot2 {wE w : World} {base b : Nat} {i0 : Int} {pv : Value} {L : List (Nat × TypeId × List Value)} {S : SmithM} (h : NodeI wE base b i0 pv L S w) {g : Nat} {x y : Value} (hb : Box w g 81 [x, y]) (u v : Value) (z : Nat) :
    FootW b ((w.setCell ⟨g, 0, none⟩ u).setCell ⟨g, 1, none⟩ v) z ↔ FootW b w z := by
  obtain ⟨V, hS, -⟩ := h.sm
  have h1 := hS.setOther hb (by decide) (by decide) (by decide) (by decide) (by decide) 0 u
  have h2 := h1.setOther (hb.set 0 u) (by decide) (by decide) (by decide) (by decide) (by decide) 1 v
  exact (h2.foot z).trans (hS.foot z).symm
/-- A store into a box of the method's own that is none of those told. -/
theorem NodeI.box2 {wE w : World} {base b : Nat} {i0 : Int} {pv : Value} {L : List (Nat × TypeId × List Value)} {S : SmithM} (h : NodeI wE base b i0 pv L S w) (hbase : base ≤ wE.heap.size) {g : Nat} {x y : Value} (hb : Box w g 81 [x, y]) (hf : ¬ FootW b w g) (hg : wE.heap.size ≤ g) (hn : ∀ z ∈ L, z.1 ≠ g) (u v : Value) :
    NodeI wE base b i0 pv ((g, 81, [u, v]) :: L) S ((w.setCell ⟨g, 0, none⟩ u).setCell ⟨g, 1, none⟩ v) := by
  have hm := (h.made.setNew hbase hb hg (by decide) (by decide) (by decide) (by decide) (by decide) 0 u).setNew hbase (hb.set 0 u) hg (by decide) (by decide) (by decide) (by decide) (by decide) 1 v
  have hfs : ∀ z, FootW b ((w.setCell ⟨g, 0, none⟩ u).setCell ⟨g, 1, none⟩ v) z ↔ FootW b w z := fun z => by
    obtain ⟨V, hS, -⟩ := h.sm
    have h1 := hS.setOther hb (by decide) (by decide) (by decide) (by decide) (by decide) 0 u
    have h2 := h1.setOther (hb.set 0 u) (by decide) (by decide) (by decide) (by decide) (by decide) 1 v
    exact (h2.foot z).trans (hS.foot z).symm
  refine ⟨hm.sm, fun z hz => ?_, hm.below, hm.rel⟩
  rcases List.mem_cons.1 hz with e | e
  · subst e
    exact ⟨(hb.set 0 u).set 1 v, fun q => hf ((hfs g).1 q)⟩
  · obtain ⟨k1, k2⟩ := h.lo z e
    have hne := hn z e
    refine ⟨(k1.kept (grownBy_set w g 0 u) (by simpa using fun q => hne q.symm)).kept (grownBy_set _ g 1 v) (by simpa using fun q => hne q.symm), fun q => k2 ((hfs z.1).1 q)⟩
section
variable (w0 : World) (b : Nat) (PA : Option Addr) (n pc : Nat) (c : SmithM) (p : List PNode)
set_option maxRecDepth 100000 in
set_option maxHeartbeats 16000000 in
theorem node_seq (hp : SlN w0 PA n p) (hn : n ≤ 14) (sg : Int) (ta tb : Tr) (k : Nat) (ht : TreeAt p k (.two ⟨5, sg⟩ ta tb)) (ok : (Tr.two ⟨5, sg⟩ ta tb).ok) (hgd : ∀ x ∈ (Tr.two ⟨5, sg⟩ ta tb).flat, goodN x)
    (ia : NodeOK w0 b PA n pc c ta (k + 1)) (ib : NodeOK w0 b PA n pc c tb (k + 1 + ta.size)) : NodeOK w0 b PA n pc c (.two ⟨5, sg⟩ ta tb) k := by
  intro w rv es G R E bg hx h hG hR hE h8 hb0 hb1
  have hle := ht.le
  have hpl := hp.1
  have hkn : k < n := by simp [Tr.size] at hle; omega
  have htop := ht.top
  have hof := ht.of_two ok
  obtain ⟨pb, poff, y, rfl, d0, d1, -, hy⟩ := hp.next hkn
  have hyx : y = ⟨5, sg⟩ := by rw [htop] at hy; injection hy with hy; exact hy.symm
  subst hyx
  have e0 := hx.keeps _ _ d0; have e1 := hx.keeps _ _ d1
  have q4 := h.cellP
  have hk3 : Keeps w (((w.alloc (.cells #[.pointer (some ⟨b, 0, none⟩)] 72)).alloc (.cells #[I bg] 3)).alloc (.cells #[I 0, I 0] 81)) := ((Keeps.alloc _ _).trans (Keeps.alloc _ _)).trans (Keeps.alloc _ _)
  have q4' := hk3 _ _ q4; have e0' := hk3 _ _ e0; have e1' := hk3 _ _ e1
  have hI := NodeI.begin h bg 5 sg
  obtain ⟨wB, hwB⟩ : ∃ q, q = nodeB w b bg 5 sg := ⟨_, rfl⟩
  rw [← hwB] at hI
  have hpB : SlN wB (some ⟨pb, poff, none⟩) n p := hp.keep (Ext.trans hx (by rw [hwB]; exact ((((Ext.refl w).alloc _).alloc _).alloc _).alloc _)).keeps
  have hsz : (Tr.two ⟨5, sg⟩ ta tb).size = 1 + ta.size + tb.size := rfl
  rw [hsz] at hG hR hE
  obtain ⟨goa, gob⟩ := sub_good hgd
  have hbs : w0.heap.size ≤ w.heap.size := hx.size
  obtain ⟨A, hA⟩ : ∃ A, A = nodeF ta G.length R.length bg := ⟨_, rfl⟩
  obtain ⟨B, hB⟩ : ∃ B, B = nodeF tb (G.length + A.G.length) (R.length + A.R.length) A.over := ⟨_, rfl⟩
  have FA : FOk ta G.length R.length A := by rw [hA]; exact nodeF_ok ta _ _ _ ok.2.1 goa h8 hb0 hb1
  have hov := FA.over
  have FB : FOk tb (G.length + A.G.length) (R.length + A.R.length) B := by rw [hB]; exact nodeF_ok tb _ _ _ ok.2.2 gob (by omega) hov.1 (by omega)
  have hNF : nodeF (.two ⟨5, sg⟩ ta tb) G.length R.length bg = ⟨B.over, ((G.length + A.G.length + B.G.length : Nat) : Int), A.G ++ (B.G ++ [gAny [A.some, B.some]]), A.R ++ B.R, A.E ++ B.E⟩ := by rw [hB, hA]; simp [nodeF]
  have hAe : nodeF ta G.length R.length bg = A := hA.symm
  have hBe : nodeF tb (G ++ A.G).length (R ++ A.R).length A.over = B := by rw [hB]; simp
  clear hA hB hov
  have nwa := nW_le ta; have nwb := nW_le tb
  have fa1 := FA.size; have fa2 := FA.regs; have fa3 := FA.few; have fb1 := FB.size; have fb2 := FB.regs; have fb3 := FB.few; have fa4 := FA.over; have fa5 := FA.some
  have ca : ∀ (w' : World) (rvx : Value) (esx : List Value), Ext w0 w' → SmithP w' w0.heap.size b 3 (.slice (some ⟨pb, poff, none⟩) n pc) (stN c rvx esx (G) R E) → Calls Try.prog 39 #[.pointer (some ⟨b, 0, none⟩), .int .i64 ((k : Int) + 1), I (bg)] w' fun e w'' => ∃ rv' es', e = .returned (.agg #[I A.over, I A.some]) ∧ MadeP w' w'' w0.heap.size b 3 (.slice (some ⟨pb, poff, none⟩) n pc) (stN c rv' es' ((G) ++ A.G) (R ++ A.R) (E ++ A.E)) := fun w' rvx esx hxw hsw => by
    have := ia w' rvx esx (G) R E (bg) hxw hsw (by (try simp only [List.length_append, List.length_cons, List.length_nil]); omega) (by omega) (by omega) (by (try simp only [List.length_append, List.length_cons, List.length_nil]); omega) (by omega) (by (try simp only [List.length_append, List.length_cons, List.length_nil]); omega)
    rw [hAe] at this
    rwa [show ((k + 1 : Nat) : Int) = (k : Int) + 1 from by omega] at this
  have cb : ∀ (w' : World) (rvx : Value) (esx : List Value), Ext w0 w' → SmithP w' w0.heap.size b 3 (.slice (some ⟨pb, poff, none⟩) n pc) (stN c rvx esx (G ++ A.G) (R ++ A.R) (E ++ A.E)) → Calls Try.prog 39 #[.pointer (some ⟨b, 0, none⟩), .int .i64 ((k : Int) + 1 + ta.size), I (A.over)] w' fun e w'' => ∃ rv' es', e = .returned (.agg #[I B.over, I B.some]) ∧ MadeP w' w'' w0.heap.size b 3 (.slice (some ⟨pb, poff, none⟩) n pc) (stN c rv' es' ((G ++ A.G) ++ B.G) ((R ++ A.R) ++ B.R) ((E ++ A.E) ++ B.E)) := fun w' rvx esx hxw hsw => by
    have := ib w' rvx esx (G ++ A.G) (R ++ A.R) (E ++ A.E) (A.over) hxw hsw (by (try simp only [List.length_append, List.length_cons, List.length_nil]); omega) (by (try simp only [List.length_append, List.length_cons, List.length_nil]); omega) (by (try simp only [List.length_append, List.length_cons, List.length_nil]); omega) (by (try simp only [List.length_append, List.length_cons, List.length_nil]); omega) (by omega) (by (try simp only [List.length_append, List.length_cons, List.length_nil]); omega)
    rw [hBe] at this
    rwa [show ((k + 1 + ta.size : Nat) : Int) = (k : Int) + 1 + ta.size from by omega] at this
  have CA := Lib.hid ca; have CB := Lib.hid cb
  obtain ⟨q, hq⟩ : ∃ q, q = (G ++ A.G).length + B.G.length := ⟨_, rfl⟩
  have hqb : q ≤ 820 := by rw [hq]; simp; omega
  have HI := Lib.hid hI; have HBS := Lib.hid hbs; have HX := Lib.hid hx; have HPB := Lib.hid hpB; have HOF := Lib.hid hof; have HNF := Lib.hid hNF; have HQ := Lib.hid hq; have HQB := Lib.hid hqb; have HFA := Lib.hid FA
  have HGL : Hid (8 ≤ G.length ∧ G.length ≤ 800) := by unfold Hid; omega
  have HWB : Hid (wB = (((w.alloc (.cells #[.pointer (some ⟨b, 0, none⟩)] 72)).alloc (.cells #[I bg] 3)).alloc (.cells #[I 0, I 0] 81)).alloc (.cells #[I 5, I sg] 64)) := hwB
  clear hp ht hle hpl htop hof d0 d1 hy hI hx hG hR hE h8 hb0 hb1 hk3 q4 e0 e1 hwB hpB hsz goa gob hbs hNF nwa nwb fa1 fa2 fa3 fb1 fb2 fb3 fa4 fa5 FA FB ca cb hq hqb ia ib hgd ok hAe hBe h
  generalize hnx : (k : Int) + (Tr.two ⟨5, sg⟩ ta tb).size = beh at *
  clear hnx
  go_enter Try.func39, Try.ntmps39
  go_upto_region 21 with fail
  rw [← HWB.out]
  clear q4' e0' e1'
  have q3 := (HI.out.cell (g := w.heap.size) (T := 72) (cs := [.pointer (some ⟨b, 0, none⟩)]) (by simp) 0).trans rfl
  have q5 := (HI.out.cell (g := w.heap.size + 1) (T := 3) (cs := [I bg]) (by simp) 0).trans rfl
  have q7 := (HI.out.cell (g := w.heap.size + 1 + 1 + 1) (T := 64) (cs := [I 5, I sg]) (by simp) 0).trans rfl
  have q4 := HI.out.sm.cellP
  simp only [List.getElem?_cons_zero] at q3 q5 q7
  go_wp2_with fail
  refine (progOf_any _ n pc p k wB HPB.out (by omega) hkn).mono ?_; rintro e w' ⟨rfl, rfl⟩; rw [HOF.out]
  go_wp2_with fail
  refine (CA.out wB rv es (Below.trans HX.out HI.out.be) HI.out.sm).mono ?_; rintro e w1 ⟨rv1, es1, rfl, hm1⟩
  have hi1 := HI.out.step hm1
  clear hm1 q3 q4 q5 q7
  go_upto_region 25 with fail
  obtain ⟨w2, hw2⟩ : ∃ q, q = w1.alloc (.cells #[I (A.over), I (A.some)] 81) := ⟨_, rfl⟩
  have hi2 : NodeI w w0.heap.size b 3 (.slice (some ⟨pb, poff, none⟩) n pc) ((w1.heap.size, 81, [I (A.over), I (A.some)]) :: (nodeL w b bg 5 sg)) (stN c rv1 es1 (G ++ A.G) (R ++ A.R) (E ++ A.E)) w2 := by rw [hw2]; exact hi1.push 81 [I (A.over), I (A.some)] _ rfl
  rw [← hw2]
  clear hw2
  have HI2 := Lib.hid hi2
  have q3 := (HI2.out.cell (g := w.heap.size) (T := 72) (cs := [.pointer (some ⟨b, 0, none⟩)]) (by simp) 0).trans rfl
  have q18 := (HI2.out.cell (g := w1.heap.size) (T := 81) (cs := [I A.over, I A.some]) (by simp) 0).trans rfl
  simp only [List.getElem?_cons_zero] at q3 q18
  obtain ⟨m18, hm18⟩ : ∃ m, m = w1.heap.size := ⟨_, rfl⟩
  rw [← hm18] at HI2 q18
  rw [← hm18]
  clear hi1 hi2 hm18
  go_wp2_with fail
  refine (CB.out w2 rv1 es1 (Below.trans HX.out HI2.out.be) HI2.out.sm).mono ?_; rintro e w3 ⟨rv2, es2, rfl, hm2⟩
  have hi3 := HI2.out.step hm2
  clear hm2 q3 q18
  go_upto_region 26 with fail
  obtain ⟨w4, hw4⟩ : ∃ q, q = w3.alloc (.cells #[I (B.over), I (B.some)] 81) := ⟨_, rfl⟩
  have hi4 : NodeI w w0.heap.size b 3 (.slice (some ⟨pb, poff, none⟩) n pc) ((w3.heap.size, 81, [I (B.over), I (B.some)]) :: ((m18, 81, [I A.over, I A.some]) :: (nodeL w b bg 5 sg))) (stN c rv2 es2 ((G ++ A.G) ++ B.G) ((R ++ A.R) ++ B.R) ((E ++ A.E) ++ B.E)) w4 := by rw [hw4]; exact hi3.push 81 [I (B.over), I (B.some)] _ rfl
  rw [← hw4]
  clear hw4
  obtain ⟨m19, hm19⟩ : ∃ m, m = w3.heap.size := ⟨_, rfl⟩
  rw [← hm19] at hi4
  rw [← hm19]
  have HI4 := Lib.hid hi4
  clear hi3 hi4 hm19
  have C3c := Lib.hid (show ∀ k w', InvT w w0.heap.size b (.slice (some ⟨pb, poff, none⟩) n pc) ((m19, 81, [I (B.over), I (B.some)]) :: ((m18, 81, [I A.over, I A.some]) :: (nodeL w b bg 5 sg))) c [((G ++ A.G) ++ B.G, (R ++ A.R) ++ B.R, (E ++ A.E) ++ B.E), (((G ++ A.G) ++ B.G) ++ [gAny [A.some, B.some]], (R ++ A.R) ++ B.R, (E ++ A.E) ++ B.E)] k w' → w'.cell? ⟨w.heap.size, 0, none⟩ = some (.pointer (some ⟨b, 0, none⟩)) from fun k w' h => h.cell (g := w.heap.size) (T := 72) (cs := [.pointer (some ⟨b, 0, none⟩)]) (by simp) 0)
  have C5c := Lib.hid (show ∀ k w', InvT w w0.heap.size b (.slice (some ⟨pb, poff, none⟩) n pc) ((m19, 81, [I (B.over), I (B.some)]) :: ((m18, 81, [I A.over, I A.some]) :: (nodeL w b bg 5 sg))) c [((G ++ A.G) ++ B.G, (R ++ A.R) ++ B.R, (E ++ A.E) ++ B.E), (((G ++ A.G) ++ B.G) ++ [gAny [A.some, B.some]], (R ++ A.R) ++ B.R, (E ++ A.E) ++ B.E)] k w' → w'.cell? ⟨w.heap.size + 1, 0, none⟩ = some (I bg) from fun k w' h => h.cell (g := w.heap.size + 1) (T := 3) (cs := [I bg]) (by simp) 0)
  have P0a := Lib.hid (show ∀ k w', InvT w w0.heap.size b (.slice (some ⟨pb, poff, none⟩) n pc) ((m19, 81, [I (B.over), I (B.some)]) :: ((m18, 81, [I A.over, I A.some]) :: (nodeL w b bg 5 sg))) c [((G ++ A.G) ++ B.G, (R ++ A.R) ++ B.R, (E ++ A.E) ++ B.E), (((G ++ A.G) ++ B.G) ++ [gAny [A.some, B.some]], (R ++ A.R) ++ B.R, (E ++ A.E) ++ B.E)] k w' → w'.cell? ⟨m18, 0, none⟩ = some (I (A.over)) from fun k w' h => h.cell (g := m18) (T := 81) (cs := [I (A.over), I (A.some)]) (by simp) 0)
  have P1a := Lib.hid (show ∀ k w', InvT w w0.heap.size b (.slice (some ⟨pb, poff, none⟩) n pc) ((m19, 81, [I (B.over), I (B.some)]) :: ((m18, 81, [I A.over, I A.some]) :: (nodeL w b bg 5 sg))) c [((G ++ A.G) ++ B.G, (R ++ A.R) ++ B.R, (E ++ A.E) ++ B.E), (((G ++ A.G) ++ B.G) ++ [gAny [A.some, B.some]], (R ++ A.R) ++ B.R, (E ++ A.E) ++ B.E)] k w' → w'.cell? ⟨m18, 1, none⟩ = some (I (A.some)) from fun k w' h => h.cell (g := m18) (T := 81) (cs := [I (A.over), I (A.some)]) (by simp) 1)
  have P0b := Lib.hid (show ∀ k w', InvT w w0.heap.size b (.slice (some ⟨pb, poff, none⟩) n pc) ((m19, 81, [I (B.over), I (B.some)]) :: ((m18, 81, [I A.over, I A.some]) :: (nodeL w b bg 5 sg))) c [((G ++ A.G) ++ B.G, (R ++ A.R) ++ B.R, (E ++ A.E) ++ B.E), (((G ++ A.G) ++ B.G) ++ [gAny [A.some, B.some]], (R ++ A.R) ++ B.R, (E ++ A.E) ++ B.E)] k w' → w'.cell? ⟨m19, 0, none⟩ = some (I (B.over)) from fun k w' h => h.cell (g := m19) (T := 81) (cs := [I (B.over), I (B.some)]) (by simp) 0)
  have P1b := Lib.hid (show ∀ k w', InvT w w0.heap.size b (.slice (some ⟨pb, poff, none⟩) n pc) ((m19, 81, [I (B.over), I (B.some)]) :: ((m18, 81, [I A.over, I A.some]) :: (nodeL w b bg 5 sg))) c [((G ++ A.G) ++ B.G, (R ++ A.R) ++ B.R, (E ++ A.E) ++ B.E), (((G ++ A.G) ++ B.G) ++ [gAny [A.some, B.some]], (R ++ A.R) ++ B.R, (E ++ A.E) ++ B.E)] k w' → w'.cell? ⟨m19, 1, none⟩ = some (I (B.some)) from fun k w' h => h.cell (g := m19) (T := 81) (cs := [I (B.over), I (B.some)]) (by simp) 1)
  have LQ : Hid (((G ++ A.G) ++ B.G).length = q) := by unfold Hid; rw [HQ.out, List.length_append]
  refine wp_flow7 10 1 [8] [] (RelF b) (InvT w w0.heap.size b (.slice (some ⟨pb, poff, none⟩) n pc) ((m19, 81, [I (B.over), I (B.some)]) :: ((m18, 81, [I A.over, I A.some]) :: (nodeL w b bg 5 sg))) c [((G ++ A.G) ++ B.G, (R ++ A.R) ++ B.R, (E ++ A.E) ++ B.E), (((G ++ A.G) ++ B.G) ++ [gAny [A.some, B.some]], (R ++ A.R) ++ B.R, (E ++ A.E) ++ B.E)]) [isV (.pointer (some ⟨m19, 0, none⟩)), isV (I (B.over)), isV (.pointer (some ⟨b, 0, none⟩)), isV (.pointer (some ⟨m18, 1, none⟩)), isV (I (A.some)), isV (.pointer (some ⟨m19, 1, none⟩)), isV (I (B.some)), fun v w => ∃ gz, v = .slice (some ⟨gz, 0, none⟩) 2 2 ∧ ArgP w w0.heap.size b (.slice (some ⟨gz, 0, none⟩) 2 2) [A.some, B.some], isV (.int .i64 ((q : Int))), isV (.agg #[I (B.over), .int .i64 ((q : Int))])] (by kernel_rfl) rfl rfl (by kernel_rfl) (by kernel_rfl) (by kernel_rfl) (RelF.refl b _) (fun _ _ _ h k => RelF.trans h k) (fun k w' w'' h hx => InvT.ext h hx) ⟨rv2, es2, HI4.out⟩ ⟨.inr (fun _ _ _ h _ => h), .inr (fun _ _ _ h _ => h), .inr (fun _ _ _ h _ => h), .inr (fun _ _ _ h _ => h), .inr (fun _ _ _ h _ => h), .inr (fun _ _ _ h _ => h), .inr (fun _ _ _ h _ => h), .inr (fun v w w' ⟨g, e, h⟩ hr => ⟨g, e, h.rel hr⟩), .inr (fun _ _ _ h _ => h), .inr (fun _ _ _ h _ => h), trivial⟩ ?each ?rest
  case each =>
    refine .light rfl ?_ (.light rfl ?_ (.light rfl ?_ (.light rfl ?_ (.light rfl ?_ (.light rfl ?_ (.light rfl ?_ (.light rfl ?_ (.heavy 0 rfl ?_ (.light rfl ?_ (.nil))))))))))
    · intro fa fw fk hr hinv hs hb
      have s19 : fa.tmps[(19 : Nat)]? = some (.pointer (some ⟨m19, 0, none⟩)) := (hb 19 (by kernel_rfl)).trans (by rfl)
      refine .inl ⟨wanted_free rfl, fun K hK => ?_⟩
      clear hs hb hr hinv
      go_simp
      exact hK _ _ rfl (Ext.refl _)
    · intro fa fw fk hr hinv hs hb
      obtain ⟨_, s179, rfl⟩ := hs 0 179 (by kernel_rfl) (by kernel_rfl)
      have c0 := P0b.out _ fw hinv
      refine .inl ⟨wanted_free rfl, fun K hK => ?_⟩
      clear hs hb hr hinv
      go_simp
      exact hK _ _ rfl (Ext.refl _)
    · intro fa fw fk hr hinv hs hb
      have s3 : fa.tmps[(3 : Nat)]? = some (.pointer (some ⟨w.heap.size, 0, none⟩)) := (hb 3 (by kernel_rfl)).trans (by rfl)
      have c0 := C3c.out _ fw hinv
      refine .inl ⟨wanted_free rfl, fun K hK => ?_⟩
      clear hs hb hr hinv
      go_simp
      exact hK _ _ rfl (Ext.refl _)
    · intro fa fw fk hr hinv hs hb
      have s18 : fa.tmps[(18 : Nat)]? = some (.pointer (some ⟨m18, 0, none⟩)) := (hb 18 (by kernel_rfl)).trans (by rfl)
      refine .inl ⟨wanted_free rfl, fun K hK => ?_⟩
      clear hs hb hr hinv
      go_simp
      exact hK _ _ rfl (Ext.refl _)
    · intro fa fw fk hr hinv hs hb
      obtain ⟨_, s182, rfl⟩ := hs 3 182 (by kernel_rfl) (by kernel_rfl)
      have c0 := P1a.out _ fw hinv
      refine .inl ⟨wanted_free rfl, fun K hK => ?_⟩
      clear hs hb hr hinv
      go_simp
      exact hK _ _ rfl (Ext.refl _)
    · intro fa fw fk hr hinv hs hb
      have s19 : fa.tmps[(19 : Nat)]? = some (.pointer (some ⟨m19, 0, none⟩)) := (hb 19 (by kernel_rfl)).trans (by rfl)
      refine .inl ⟨wanted_free rfl, fun K hK => ?_⟩
      clear hs hb hr hinv
      go_simp
      exact hK _ _ rfl (Ext.refl _)
    · intro fa fw fk hr hinv hs hb
      obtain ⟨_, s184, rfl⟩ := hs 5 184 (by kernel_rfl) (by kernel_rfl)
      have c0 := P1b.out _ fw hinv
      refine .inl ⟨wanted_free rfl, fun K hK => ?_⟩
      clear hs hb hr hinv
      go_simp
      exact hK _ _ rfl (Ext.refl _)
    · intro fa fw fk hr hinv hs hb
      obtain ⟨_, s183, rfl⟩ := hs 4 183 (by kernel_rfl) (by kernel_rfl)
      obtain ⟨_, s185, rfl⟩ := hs 6 185 (by kernel_rfl) (by kernel_rfl)
      refine .inl ⟨wanted_free rfl, fun K hK => ?_⟩
      clear hs hb
      go_simp
      obtain ⟨rvx, esx, hsx⟩ := hinv.sm
      exact hK _ _ ⟨fw.heap.size, rfl, ArgP.new hsx [A.some, B.some] _ rfl (by simp)⟩ ((Ext.refl _).alloc _)
    · intro fa fw hr hinv hs hb
      obtain ⟨_, s181, rfl⟩ := hs 2 181 (by kernel_rfl) (by kernel_rfl)
      obtain ⟨_, s186, b186, rfl, k186⟩ := hs 7 186 (by kernel_rfl) (by kernel_rfl)
      refine ⟨wanted_free rfl, fun K hK => ?_⟩
      clear hs hb
      go_simp
      obtain ⟨rvx, esx, hix⟩ := hinv
      refine (sany_any hix.sm _ [A.some, B.some] k186 (by show ((G ++ A.G) ++ B.G).length ≤ 1000; have := LQ.out; have := HQB.out; omega)).mono ?_
      rintro e w' ⟨rfl, hm⟩
      have hq := hix.step hm
      rw [show (nthT [((G ++ A.G) ++ B.G, (R ++ A.R) ++ B.R, (E ++ A.E) ++ B.E), (((G ++ A.G) ++ B.G) ++ [gAny [A.some, B.some]], (R ++ A.R) ++ B.R, (E ++ A.E) ++ B.E)] 0).1.length = q from LQ.out]
      exact hK _ _ rfl hm.rel ⟨rvx, esx, hq⟩
    · intro fa fw fk hr hinv hs hb
      obtain ⟨_, s180, rfl⟩ := hs 1 180 (by kernel_rfl) (by kernel_rfl)
      obtain ⟨_, s187, rfl⟩ := hs 8 187 (by kernel_rfl) (by kernel_rfl)
      refine .inl ⟨wanted_free rfl, fun K hK => ?_⟩
      clear hs hb hr hinv
      go_simp
      exact hK _ _ rfl (Ext.refl _)
  case rest =>
    intro w9 hrw9 hiw9
    rintro _ rfl
    rintro _ rfl
    rintro _ rfl
    rintro _ rfl
    rintro _ rfl
    rintro _ rfl
    rintro _ rfl
    rintro _ ⟨b186, rfl, k186⟩
    rintro _ rfl
    rintro _ rfl
    simp only [putAll, List.take, Act.put, List.setIfInBounds_toArray, List.set_cons_zero, List.set_cons_succ]
    obtain ⟨rv9, es9, hi9⟩ := hiw9
    have hb6 : Box w9 (w.heap.size + 1 + 1) 81 [I 0, I 0] := (hi9.lo (w.heap.size + 1 + 1, 81, [I 0, I 0]) (by simp)).1
    have z0 := hb6.cell 0; have z1 := hb6.cell 1; have f6 := hb6.free
    simp only [List.getElem?_cons_zero, List.getElem?_cons_succ] at z0 z1
    have hfin := hi9.finish HBS.out (m6 := w.heap.size + 1 + 1) (x := I 0) (y := I 0) (by simp) (by omega) (I (B.over)) (I ((q : Int)))
    have HFIN := Lib.hid hfin
    clear hb6 hfin hi9 hrw9
    refine wpAny_ready (rs := [10]) (by kernel_rfl) (by simp) (AllReady.cons rfl (fun KK hKK => ?_) AllReady.nil)
    go_simp
    refine hKK _ _ ?_
    clear hKK KK z0 z1 f6
    refine wpAny_done (by kernel_rfl) ?_ _
    go_wp2
    obtain ⟨hmade, y0, y1⟩ := HFIN.out
    refine bodyPost_ret (v := .agg #[I (B.over), I ((q : Int))]) ?_ rfl ⟨rv9, es9, by rw [HNF.out]; exact congrArg Ending.returned (by simp [HQ.out] <;> omega), by rw [HNF.out]; have hmm := hmade; simp only [nthT, List.append_assoc, List.cons_append, List.nil_append] at hmm ⊢; exact hmm⟩
    clear hmade HFIN
    simp [results, Try.results39, go_sem, y0, y1]
set_option maxRecDepth 100000 in
set_option maxHeartbeats 16000000 in
theorem node_par (hp : SlN w0 PA n p) (hn : n ≤ 14) (sg : Int) (ta tb : Tr) (k : Nat) (ht : TreeAt p k (.two ⟨6, sg⟩ ta tb)) (ok : (Tr.two ⟨6, sg⟩ ta tb).ok) (hgd : ∀ x ∈ (Tr.two ⟨6, sg⟩ ta tb).flat, goodN x)
    (ia : NodeOK w0 b PA n pc c ta (k + 1)) (ib : NodeOK w0 b PA n pc c tb (k + 1 + ta.size)) : NodeOK w0 b PA n pc c (.two ⟨6, sg⟩ ta tb) k := by
  intro w rv es G R E bg hx h hG hR hE h8 hb0 hb1
  have hle := ht.le
  have hpl := hp.1
  have hkn : k < n := by simp [Tr.size] at hle; omega
  have htop := ht.top
  have hof := ht.of_two ok
  obtain ⟨pb, poff, y, rfl, d0, d1, -, hy⟩ := hp.next hkn
  have hyx : y = ⟨6, sg⟩ := by rw [htop] at hy; injection hy with hy; exact hy.symm
  subst hyx
  have e0 := hx.keeps _ _ d0; have e1 := hx.keeps _ _ d1
  have q4 := h.cellP
  have hk3 : Keeps w (((w.alloc (.cells #[.pointer (some ⟨b, 0, none⟩)] 72)).alloc (.cells #[I bg] 3)).alloc (.cells #[I 0, I 0] 81)) := ((Keeps.alloc _ _).trans (Keeps.alloc _ _)).trans (Keeps.alloc _ _)
  have q4' := hk3 _ _ q4; have e0' := hk3 _ _ e0; have e1' := hk3 _ _ e1
  have hI := NodeI.begin h bg 6 sg
  obtain ⟨wB, hwB⟩ : ∃ q, q = nodeB w b bg 6 sg := ⟨_, rfl⟩
  rw [← hwB] at hI
  have hpB : SlN wB (some ⟨pb, poff, none⟩) n p := hp.keep (Ext.trans hx (by rw [hwB]; exact ((((Ext.refl w).alloc _).alloc _).alloc _).alloc _)).keeps
  have hsz : (Tr.two ⟨6, sg⟩ ta tb).size = 1 + ta.size + tb.size := rfl
  rw [hsz] at hG hR hE
  obtain ⟨goa, gob⟩ := sub_good hgd
  have hbs : w0.heap.size ≤ w.heap.size := hx.size
  obtain ⟨A, hA⟩ : ∃ A, A = nodeF ta G.length R.length bg := ⟨_, rfl⟩
  obtain ⟨B, hB⟩ : ∃ B, B = nodeF tb (G.length + A.G.length) (R.length + A.R.length) bg := ⟨_, rfl⟩
  have FA : FOk ta G.length R.length A := by rw [hA]; exact nodeF_ok ta _ _ _ ok.2.1 goa h8 hb0 hb1
  have FB : FOk tb (G.length + A.G.length) (R.length + A.R.length) B := by rw [hB]; exact nodeF_ok tb _ _ _ ok.2.2 gob (by omega) hb0 (by omega)
  have hNF : nodeF (.two ⟨6, sg⟩ ta tb) G.length R.length bg = ⟨((G.length + A.G.length + B.G.length : Nat) : Int) + 7, ((G.length + A.G.length + B.G.length : Nat) : Int) + 8, A.G ++ (B.G ++ [gAny [A.over, B.over], gAny [bg, A.some], gNot (((G.length + A.G.length + B.G.length : Nat) : Int) + 1), gAny [A.over, ((G.length + A.G.length + B.G.length : Nat) : Int) + 2], gAny [bg, B.some], gNot (((G.length + A.G.length + B.G.length : Nat) : Int) + 4), gAny [B.over, ((G.length + A.G.length + B.G.length : Nat) : Int) + 5], gAll [((G.length + A.G.length + B.G.length : Nat) : Int), ((G.length + A.G.length + B.G.length : Nat) : Int) + 3, ((G.length + A.G.length + B.G.length : Nat) : Int) + 6], gAny [A.some, B.some]]), A.R ++ B.R, A.E ++ B.E⟩ := by rw [hB, hA]; simp only [nodeF]; rw [if_neg (by decide), if_pos trivial]
  have hAe : nodeF ta G.length R.length bg = A := hA.symm
  have hBe : nodeF tb (G ++ A.G).length (R ++ A.R).length bg = B := by rw [hB, List.length_append, List.length_append]
  clear hA hB
  have nwa := nW_le ta; have nwb := nW_le tb
  have fa1 := FA.size; have fa2 := FA.regs; have fa3 := FA.few; have fb1 := FB.size; have fb2 := FB.regs; have fb3 := FB.few; have fa4 := FA.over; have fa5 := FA.some
  have ca : ∀ (w' : World) (rvx : Value) (esx : List Value), Ext w0 w' → SmithP w' w0.heap.size b 3 (.slice (some ⟨pb, poff, none⟩) n pc) (stN c rvx esx (G) R E) → Calls Try.prog 39 #[.pointer (some ⟨b, 0, none⟩), .int .i64 ((k : Int) + 1), I (bg)] w' fun e w'' => ∃ rv' es', e = .returned (.agg #[I A.over, I A.some]) ∧ MadeP w' w'' w0.heap.size b 3 (.slice (some ⟨pb, poff, none⟩) n pc) (stN c rv' es' ((G) ++ A.G) (R ++ A.R) (E ++ A.E)) := fun w' rvx esx hxw hsw => by
    have := ia w' rvx esx (G) R E (bg) hxw hsw (by (try simp only [List.length_append, List.length_cons, List.length_nil]); omega) (by omega) (by omega) (by (try simp only [List.length_append, List.length_cons, List.length_nil]); omega) (by omega) (by (try simp only [List.length_append, List.length_cons, List.length_nil]); omega)
    rw [hAe] at this
    rwa [show ((k + 1 : Nat) : Int) = (k : Int) + 1 from by omega] at this
  have cb : ∀ (w' : World) (rvx : Value) (esx : List Value), Ext w0 w' → SmithP w' w0.heap.size b 3 (.slice (some ⟨pb, poff, none⟩) n pc) (stN c rvx esx (G ++ A.G) (R ++ A.R) (E ++ A.E)) → Calls Try.prog 39 #[.pointer (some ⟨b, 0, none⟩), .int .i64 ((k : Int) + 1 + ta.size), I (bg)] w' fun e w'' => ∃ rv' es', e = .returned (.agg #[I B.over, I B.some]) ∧ MadeP w' w'' w0.heap.size b 3 (.slice (some ⟨pb, poff, none⟩) n pc) (stN c rv' es' ((G ++ A.G) ++ B.G) ((R ++ A.R) ++ B.R) ((E ++ A.E) ++ B.E)) := fun w' rvx esx hxw hsw => by
    have := ib w' rvx esx (G ++ A.G) (R ++ A.R) (E ++ A.E) (bg) hxw hsw (by (try simp only [List.length_append, List.length_cons, List.length_nil]); omega) (by (try simp only [List.length_append, List.length_cons, List.length_nil]); omega) (by (try simp only [List.length_append, List.length_cons, List.length_nil]); omega) (by (try simp only [List.length_append, List.length_cons, List.length_nil]); omega) (by omega) (by (try simp only [List.length_append, List.length_cons, List.length_nil]); omega)
    rw [hBe] at this
    rwa [show ((k + 1 + ta.size : Nat) : Int) = (k : Int) + 1 + ta.size from by omega] at this
  have CA := Lib.hid ca; have CB := Lib.hid cb
  obtain ⟨q, hq⟩ : ∃ q, q = (G ++ A.G).length + B.G.length := ⟨_, rfl⟩
  have hqb : q ≤ 820 := by rw [hq]; simp; omega
  have HI := Lib.hid hI; have HBS := Lib.hid hbs; have HX := Lib.hid hx; have HPB := Lib.hid hpB; have HOF := Lib.hid hof; have HNF := Lib.hid hNF; have HQ := Lib.hid hq; have HQB := Lib.hid hqb; have HFA := Lib.hid FA
  have HGL : Hid (8 ≤ G.length ∧ G.length ≤ 800) := by unfold Hid; omega
  have HWB : Hid (wB = (((w.alloc (.cells #[.pointer (some ⟨b, 0, none⟩)] 72)).alloc (.cells #[I bg] 3)).alloc (.cells #[I 0, I 0] 81)).alloc (.cells #[I 6, I sg] 64)) := hwB
  clear hp ht hle hpl htop hof d0 d1 hy hI hx hG hR hE h8 hb0 hb1 hk3 q4 e0 e1 hwB hpB hsz goa gob hbs hNF nwa nwb fa1 fa2 fa3 fb1 fb2 fb3 fa4 fa5 FA FB ca cb hq hqb ia ib hgd ok hAe hBe h
  generalize hnx : (k : Int) + (Tr.two ⟨6, sg⟩ ta tb).size = beh at *
  clear hnx
  go_enter Try.func39, Try.ntmps39
  go_upto_region 21 with fail
  rw [← HWB.out]
  clear q4' e0' e1'
  have q3 := (HI.out.cell (g := w.heap.size) (T := 72) (cs := [.pointer (some ⟨b, 0, none⟩)]) (by simp) 0).trans rfl
  have q5 := (HI.out.cell (g := w.heap.size + 1) (T := 3) (cs := [I bg]) (by simp) 0).trans rfl
  have q7 := (HI.out.cell (g := w.heap.size + 1 + 1 + 1) (T := 64) (cs := [I 6, I sg]) (by simp) 0).trans rfl
  have q4 := HI.out.sm.cellP
  simp only [List.getElem?_cons_zero] at q3 q5 q7
  go_wp2_with fail
  refine (progOf_any _ n pc p k wB HPB.out (by omega) hkn).mono ?_; rintro e w' ⟨rfl, rfl⟩; rw [HOF.out]
  clear q3 q4 q5
  go_upto_region 28 with fail
  clear q7
  have C3a := Lib.hid (show ∀ k w', InvT w w0.heap.size b (.slice (some ⟨pb, poff, none⟩) n pc) (nodeL w b bg 6 sg) c [(G, R, E), (G ++ A.G, R ++ A.R, E ++ A.E), ((G ++ A.G) ++ B.G, (R ++ A.R) ++ B.R, (E ++ A.E) ++ B.E)] k w' → w'.cell? ⟨w.heap.size, 0, none⟩ = some (.pointer (some ⟨b, 0, none⟩)) from fun k w' h => h.cell (g := w.heap.size) (T := 72) (cs := [.pointer (some ⟨b, 0, none⟩)]) (by simp) 0)
  have C5a := Lib.hid (show ∀ k w', InvT w w0.heap.size b (.slice (some ⟨pb, poff, none⟩) n pc) (nodeL w b bg 6 sg) c [(G, R, E), (G ++ A.G, R ++ A.R, E ++ A.E), ((G ++ A.G) ++ B.G, (R ++ A.R) ++ B.R, (E ++ A.E) ++ B.E)] k w' → w'.cell? ⟨w.heap.size + 1, 0, none⟩ = some (I bg) from fun k w' h => h.cell (g := w.heap.size + 1) (T := 3) (cs := [I bg]) (by simp) 0)
  refine wp_flow8 10 2 [3, 7] [] [8, 9] blkP (RelF b) (InvT w w0.heap.size b (.slice (some ⟨pb, poff, none⟩) n pc) (nodeL w b bg 6 sg) c [(G, R, E), (G ++ A.G, R ++ A.R, E ++ A.E), ((G ++ A.G) ++ B.G, (R ++ A.R) ++ B.R, (E ++ A.E) ++ B.E)]) [isV (.pointer (some ⟨b, 0, none⟩)), isV (.int .i64 ((k : Int) + 1)), isV (I bg), isV (.agg #[I (A.over), I (A.some)]), isV (.pointer (some ⟨b, 0, none⟩)), isV (.int .i64 ((k : Int) + 1 + ta.size)), isV (I bg), isV (.agg #[I (B.over), I (B.some)]), fun v w => ∃ gz, v = .pointer (some ⟨gz, 0, none⟩) ∧ Box w gz 81 [I 0, I 0] ∧ ¬ FootW b w gz ∧ wB.heap.size ≤ gz, fun v w => ∃ gz, v = .pointer (some ⟨gz, 0, none⟩) ∧ Box w gz 81 [I 0, I 0] ∧ ¬ FootW b w gz ∧ wB.heap.size ≤ gz] (by kernel_rfl) rfl rfl (by kernel_rfl) (by kernel_rfl) (by kernel_rfl) rfl (fun _ _ h => h.1) (RelF.refl b _) (fun _ _ _ h k => RelF.trans h k) (fun k w' w'' h hx => InvT.ext h hx) ⟨rv, es, HI.out⟩ ⟨.inr (fun _ _ _ h _ => h), .inr (fun _ _ _ h _ => h), .inr (fun _ _ _ h _ => h), .inr (fun _ _ _ h _ => h), .inr (fun _ _ _ h _ => h), .inr (fun _ _ _ h _ => h), .inr (fun _ _ _ h _ => h), .inr (fun _ _ _ h _ => h), .inr (fun v w w' ⟨g, e, h1, h2, h3⟩ hr => ⟨g, e, (hr.box h1 h2).1, (hr.box h1 h2).2, h3⟩), .inr (fun v w w' ⟨g, e, h1, h2, h3⟩ hr => ⟨g, e, (hr.box h1 h2).1, (hr.box h1 h2).2, h3⟩), trivial⟩ ?each ?rest
  case each =>
    refine .light rfl ?_ (.light rfl ?_ (.light rfl ?_ (.heavy 0 rfl ?_ (.light rfl ?_ (.light rfl ?_ (.light rfl ?_ (.heavy 1 rfl ?_ (.light rfl ?_ (.light rfl ?_ (.nil))))))))))
    · intro fa fw fk hr hinv hs hb
      have s3 : fa.tmps[(3 : Nat)]? = some (.pointer (some ⟨w.heap.size, 0, none⟩)) := (hb 3 (by kernel_rfl)).trans (by rfl)
      have c0 := C3a.out _ fw hinv
      refine .inl ⟨wanted_free rfl, fun K hK => ?_⟩
      clear hs hb hr hinv
      go_simp
      exact hK _ _ rfl (Ext.refl _) (fun h => absurd h (by decide))
    · intro fa fw fk hr hinv hs hb
      have s15 : fa.tmps[(15 : Nat)]? = some (.int .i64 ((k : Int) + 1)) := (hb 15 (by kernel_rfl)).trans (by rfl)
      refine .inl ⟨wanted_free rfl, fun K hK => ?_⟩
      clear hs hb hr hinv
      go_simp
      exact hK _ _ rfl (Ext.refl _) (fun h => absurd h (by decide))
    · intro fa fw fk hr hinv hs hb
      have s5 : fa.tmps[(5 : Nat)]? = some (.pointer (some ⟨w.heap.size + 1, 0, none⟩)) := (hb 5 (by kernel_rfl)).trans (by rfl)
      have c0 := C5a.out _ fw hinv
      refine .inl ⟨wanted_free rfl, fun K hK => ?_⟩
      clear hs hb hr hinv
      go_simp
      exact hK _ _ rfl (Ext.refl _) (fun h => absurd h (by decide))
    · intro fa fw hr hinv hs hb
      obtain ⟨_, s191, rfl⟩ := hs 0 191 (by kernel_rfl) (by kernel_rfl)
      obtain ⟨_, s192, rfl⟩ := hs 1 192 (by kernel_rfl) (by kernel_rfl)
      obtain ⟨_, s193, rfl⟩ := hs 2 193 (by kernel_rfl) (by kernel_rfl)
      refine ⟨wanted_free rfl, fun K hK => ?_⟩
      clear hs hb
      go_simp
      obtain ⟨rvx, esx, hix⟩ := hinv
      refine (CA.out fw rvx esx (Below.trans HX.out hix.be) hix.sm).mono ?_
      rintro e w' ⟨rvy, esy, rfl, hm⟩
      have hq := hix.step hm
      exact hK _ _ rfl hm.rel ⟨rvy, esy, hq⟩
    · intro fa fw fk hr hinv hs hb
      have s3 : fa.tmps[(3 : Nat)]? = some (.pointer (some ⟨w.heap.size, 0, none⟩)) := (hb 3 (by kernel_rfl)).trans (by rfl)
      have c0 := C3a.out _ fw hinv
      refine .inl ⟨wanted_free rfl, fun K hK => ?_⟩
      clear hs hb hr hinv
      go_simp
      exact hK _ _ rfl (Ext.refl _) (fun h => absurd h (by decide))
    · intro fa fw fk hr hinv hs hb
      have s16 : fa.tmps[(16 : Nat)]? = some (.int .i64 ((k : Int) + 1 + ta.size)) := (hb 16 (by kernel_rfl)).trans (by rfl)
      refine .inl ⟨wanted_free rfl, fun K hK => ?_⟩
      clear hs hb hr hinv
      go_simp
      exact hK _ _ rfl (Ext.refl _) (fun h => absurd h (by decide))
    · intro fa fw fk hr hinv hs hb
      have s5 : fa.tmps[(5 : Nat)]? = some (.pointer (some ⟨w.heap.size + 1, 0, none⟩)) := (hb 5 (by kernel_rfl)).trans (by rfl)
      have c0 := C5a.out _ fw hinv
      refine .inl ⟨wanted_free rfl, fun K hK => ?_⟩
      clear hs hb hr hinv
      go_simp
      exact hK _ _ rfl (Ext.refl _) (fun h => absurd h (by decide))
    · intro fa fw hr hinv hs hb
      obtain ⟨_, s195, rfl⟩ := hs 4 195 (by kernel_rfl) (by kernel_rfl)
      obtain ⟨_, s196, rfl⟩ := hs 5 196 (by kernel_rfl) (by kernel_rfl)
      obtain ⟨_, s197, rfl⟩ := hs 6 197 (by kernel_rfl) (by kernel_rfl)
      refine ⟨wanted_free rfl, fun K hK => ?_⟩
      clear hs hb
      go_simp
      obtain ⟨rvx, esx, hix⟩ := hinv
      refine (CB.out fw rvx esx (Below.trans HX.out hix.be) hix.sm).mono ?_
      rintro e w' ⟨rvy, esy, rfl, hm⟩
      have hq := hix.step hm
      exact hK _ _ rfl hm.rel ⟨rvy, esy, hq⟩
    · intro fa fw fk hr hinv hs hb
      refine .inl ⟨wanted_free rfl, fun K hK => ?_⟩
      clear hs hb
      go_simp
      obtain ⟨rvx, esx, hsx⟩ := hinv.sm
      exact hK _ _ ⟨fw.heap.size, rfl, Box.new fw _ _, hsx.fresh ((Ext.refl _).alloc _) (Nat.le_refl _), hr.1⟩ ((Ext.refl _).alloc _) (fun _ => ⟨Nat.le_refl _, by simp [blkP]⟩)
    · intro fa fw fk hr hinv hs hb
      refine .inl ⟨wanted_free rfl, fun K hK => ?_⟩
      clear hs hb
      go_simp
      obtain ⟨rvx, esx, hsx⟩ := hinv.sm
      exact hK _ _ ⟨fw.heap.size, rfl, Box.new fw _ _, hsx.fresh ((Ext.refl _).alloc _) (Nat.le_refl _), hr.1⟩ ((Ext.refl _).alloc _) (fun _ => ⟨Nat.le_refl _, by simp [blkP]⟩)
  case rest =>
    intro w9 hrw9 hiw9
    rintro _ rfl
    rintro _ rfl
    rintro _ rfl
    rintro _ rfl
    rintro _ rfl
    rintro _ rfl
    rintro _ rfl
    rintro _ rfl
    rintro _ ⟨b20, rfl, k20, n20, z20⟩
    rintro _ ⟨b21, rfl, k21, n21, z21⟩
    intro hdist
    simp only [putAll, List.take, Act.put, List.setIfInBounds_toArray, List.set_cons_zero, List.set_cons_succ]
    have hne : b20 ≠ b21 := by have := hdist 8 9 _ _ (by decide) (by decide) (by decide) rfl rfl; simpa [blkP] using this
    clear hdist
    obtain ⟨rv9, es9, hi9⟩ := hiw9
    have z0 := k20.cell 0; have z1 := k20.cell 1; have f6 := k20.free
    simp only [List.getElem?_cons_zero, List.getElem?_cons_succ] at z0 z1
    have hlt9 : ∀ z ∈ (nodeL w b bg 6 sg), z.1 < wB.heap.size := fun z hz => (HI.out.lo z hz).1.lt
    have hre := HI.out.re.1
    have hi10 := hi9.box2 HBS.out k20 n20 (by omega) (fun z hz => by have := hlt9 z hz; omega) (I (A.over)) (I (A.some))
    have k2 := (k21.kept (grownBy_set w9 b20 0 (I (A.over))) (by simpa using hne)).kept (grownBy_set _ b20 1 (I (A.some))) (by simpa using hne)
    have n2 : ¬ FootW b ((w9.setCell ⟨b20, 0, none⟩ (I (A.over))).setCell ⟨b20, 1, none⟩ (I (A.some))) b21 := fun q => n21 ((hi9.foot2 k20 _ _ _).1 q)
    obtain ⟨w10, hw10⟩ : ∃ q, q = (w9.setCell ⟨b20, 0, none⟩ (I (A.over))).setCell ⟨b20, 1, none⟩ (I (A.some)) := ⟨_, rfl⟩
    rw [← hw10] at hi10 k2 n2
    have hi11 := hi10.box2 HBS.out k2 n2 (by omega) (fun z hz => by rcases List.mem_cons.1 hz with e | e; (· rw [e]; exact hne); (· have := hlt9 z e; omega)) (I (B.over)) (I (B.some))
    have HW10 := Lib.hid hw10; have HI11 := Lib.hid hi11; have K2 := Lib.hid k2
    clear hne hi9 hlt9 hre hi10 k2 n2 hw10 hi11 k20 n20 z20 k21 n21 z21 hrw9
    refine wpAny_ready (rs := [10]) (by kernel_rfl) (by simp) (AllReady.cons rfl (fun KK hKK => ?_) AllReady.nil)
    go_simp
    refine hKK _ _ ?_
    clear hKK KK z0 z1 f6
    rw [← HW10.out]
    have z0 := K2.out.cell 0; have z1 := K2.out.cell 1; have f6 := K2.out.free
    simp only [List.getElem?_cons_zero, List.getElem?_cons_succ] at z0 z1
    refine wpAny_ready (rs := [11]) (by kernel_rfl) (by simp) (AllReady.cons rfl (fun KK hKK => ?_) AllReady.nil)
    go_simp
    refine hKK _ _ ?_
    clear hKK KK z0 z1 f6
    refine wpAny_done (by kernel_rfl) ?_ _
    obtain ⟨w11, hw11⟩ : ∃ q, q = (w10.setCell ⟨b21, 0, none⟩ (I (B.over))).setCell ⟨b21, 1, none⟩ (I (B.some)) := ⟨_, rfl⟩
    rw [← hw11]
    have hi12 : NodeI w w0.heap.size b 3 (.slice (some ⟨pb, poff, none⟩) n pc) ((b21, 81, [I (B.over), I (B.some)]) :: ((b20, 81, [I (A.over), I (A.some)]) :: (nodeL w b bg 6 sg))) (stN c rv9 es9 ((G ++ A.G) ++ B.G) ((R ++ A.R) ++ B.R) ((E ++ A.E) ++ B.E)) w11 := by rw [hw11]; exact HI11.out
    have HI12 := Lib.hid hi12
    clear hw11 hi12 HI11 K2 HW10
    have LQ : Hid (((G ++ A.G) ++ B.G).length = q) := by unfold Hid; rw [HQ.out, List.length_append]
    have LT1 : Hid ((((G ++ A.G) ++ B.G) ++ [gAny [A.over, B.over]]).length = q + 1) := by unfold Hid; have := LQ.out; simp only [List.length_append, List.length_cons, List.length_nil] at this ⊢; omega
    have LT2 : Hid (((((((G ++ A.G) ++ B.G) ++ [gAny [A.over, B.over]]) ++ [gAny [bg, A.some]]) ++ [gNot ((q + 1 : Nat) : Int)]) ++ [gAny [A.over, ((q + 1 + 1 : Nat) : Int)]]).length = q + 4) := by unfold Hid; have := LQ.out; simp only [List.length_append, List.length_cons, List.length_nil] at this ⊢; omega
    have LT3 : Hid ((((((((((G ++ A.G) ++ B.G) ++ [gAny [A.over, B.over]]) ++ [gAny [bg, A.some]]) ++ [gNot ((q + 1 : Nat) : Int)]) ++ [gAny [A.over, ((q + 1 + 1 : Nat) : Int)]]) ++ [gAny [bg, B.some]]) ++ [gNot ((q + 4 : Nat) : Int)]) ++ [gAny [B.over, ((q + 4 + 1 : Nat) : Int)]]).length = q + 7) := by unfold Hid; have := LQ.out; simp only [List.length_append, List.length_cons, List.length_nil] at this ⊢; omega
    have LT4 : Hid (((((((((((G ++ A.G) ++ B.G) ++ [gAny [A.over, B.over]]) ++ [gAny [bg, A.some]]) ++ [gNot ((q + 1 : Nat) : Int)]) ++ [gAny [A.over, ((q + 1 + 1 : Nat) : Int)]]) ++ [gAny [bg, B.some]]) ++ [gNot ((q + 4 : Nat) : Int)]) ++ [gAny [B.over, ((q + 4 + 1 : Nat) : Int)]]) ++ [gAll [(q : Int), (q : Int) + 3, (q : Int) + 6]]).length = q + 8) := by unfold Hid; have := LQ.out; simp only [List.length_append, List.length_cons, List.length_nil] at this ⊢; omega
    have C3c := Lib.hid (show ∀ k w', InvT w w0.heap.size b (.slice (some ⟨pb, poff, none⟩) n pc) ((b21, 81, [I (B.over), I (B.some)]) :: ((b20, 81, [I (A.over), I (A.some)]) :: (nodeL w b bg 6 sg))) c [(((G ++ A.G) ++ B.G), (R ++ A.R) ++ B.R, (E ++ A.E) ++ B.E), ((((G ++ A.G) ++ B.G) ++ [gAny [A.over, B.over]]), (R ++ A.R) ++ B.R, (E ++ A.E) ++ B.E), (((((((G ++ A.G) ++ B.G) ++ [gAny [A.over, B.over]]) ++ [gAny [bg, A.some]]) ++ [gNot ((q + 1 : Nat) : Int)]) ++ [gAny [A.over, ((q + 1 + 1 : Nat) : Int)]]), (R ++ A.R) ++ B.R, (E ++ A.E) ++ B.E), ((((((((((G ++ A.G) ++ B.G) ++ [gAny [A.over, B.over]]) ++ [gAny [bg, A.some]]) ++ [gNot ((q + 1 : Nat) : Int)]) ++ [gAny [A.over, ((q + 1 + 1 : Nat) : Int)]]) ++ [gAny [bg, B.some]]) ++ [gNot ((q + 4 : Nat) : Int)]) ++ [gAny [B.over, ((q + 4 + 1 : Nat) : Int)]]), (R ++ A.R) ++ B.R, (E ++ A.E) ++ B.E), (((((((((((G ++ A.G) ++ B.G) ++ [gAny [A.over, B.over]]) ++ [gAny [bg, A.some]]) ++ [gNot ((q + 1 : Nat) : Int)]) ++ [gAny [A.over, ((q + 1 + 1 : Nat) : Int)]]) ++ [gAny [bg, B.some]]) ++ [gNot ((q + 4 : Nat) : Int)]) ++ [gAny [B.over, ((q + 4 + 1 : Nat) : Int)]]) ++ [gAll [(q : Int), (q : Int) + 3, (q : Int) + 6]]), (R ++ A.R) ++ B.R, (E ++ A.E) ++ B.E), ((((((((((((G ++ A.G) ++ B.G) ++ [gAny [A.over, B.over]]) ++ [gAny [bg, A.some]]) ++ [gNot ((q + 1 : Nat) : Int)]) ++ [gAny [A.over, ((q + 1 + 1 : Nat) : Int)]]) ++ [gAny [bg, B.some]]) ++ [gNot ((q + 4 : Nat) : Int)]) ++ [gAny [B.over, ((q + 4 + 1 : Nat) : Int)]]) ++ [gAll [(q : Int), (q : Int) + 3, (q : Int) + 6]]) ++ [gAny [A.some, B.some]]), (R ++ A.R) ++ B.R, (E ++ A.E) ++ B.E)] k w' → w'.cell? ⟨w.heap.size, 0, none⟩ = some (.pointer (some ⟨b, 0, none⟩)) from fun k w' h => h.cell (g := w.heap.size) (T := 72) (cs := [.pointer (some ⟨b, 0, none⟩)]) (by simp) 0)
    have C5c := Lib.hid (show ∀ k w', InvT w w0.heap.size b (.slice (some ⟨pb, poff, none⟩) n pc) ((b21, 81, [I (B.over), I (B.some)]) :: ((b20, 81, [I (A.over), I (A.some)]) :: (nodeL w b bg 6 sg))) c [(((G ++ A.G) ++ B.G), (R ++ A.R) ++ B.R, (E ++ A.E) ++ B.E), ((((G ++ A.G) ++ B.G) ++ [gAny [A.over, B.over]]), (R ++ A.R) ++ B.R, (E ++ A.E) ++ B.E), (((((((G ++ A.G) ++ B.G) ++ [gAny [A.over, B.over]]) ++ [gAny [bg, A.some]]) ++ [gNot ((q + 1 : Nat) : Int)]) ++ [gAny [A.over, ((q + 1 + 1 : Nat) : Int)]]), (R ++ A.R) ++ B.R, (E ++ A.E) ++ B.E), ((((((((((G ++ A.G) ++ B.G) ++ [gAny [A.over, B.over]]) ++ [gAny [bg, A.some]]) ++ [gNot ((q + 1 : Nat) : Int)]) ++ [gAny [A.over, ((q + 1 + 1 : Nat) : Int)]]) ++ [gAny [bg, B.some]]) ++ [gNot ((q + 4 : Nat) : Int)]) ++ [gAny [B.over, ((q + 4 + 1 : Nat) : Int)]]), (R ++ A.R) ++ B.R, (E ++ A.E) ++ B.E), (((((((((((G ++ A.G) ++ B.G) ++ [gAny [A.over, B.over]]) ++ [gAny [bg, A.some]]) ++ [gNot ((q + 1 : Nat) : Int)]) ++ [gAny [A.over, ((q + 1 + 1 : Nat) : Int)]]) ++ [gAny [bg, B.some]]) ++ [gNot ((q + 4 : Nat) : Int)]) ++ [gAny [B.over, ((q + 4 + 1 : Nat) : Int)]]) ++ [gAll [(q : Int), (q : Int) + 3, (q : Int) + 6]]), (R ++ A.R) ++ B.R, (E ++ A.E) ++ B.E), ((((((((((((G ++ A.G) ++ B.G) ++ [gAny [A.over, B.over]]) ++ [gAny [bg, A.some]]) ++ [gNot ((q + 1 : Nat) : Int)]) ++ [gAny [A.over, ((q + 1 + 1 : Nat) : Int)]]) ++ [gAny [bg, B.some]]) ++ [gNot ((q + 4 : Nat) : Int)]) ++ [gAny [B.over, ((q + 4 + 1 : Nat) : Int)]]) ++ [gAll [(q : Int), (q : Int) + 3, (q : Int) + 6]]) ++ [gAny [A.some, B.some]]), (R ++ A.R) ++ B.R, (E ++ A.E) ++ B.E)] k w' → w'.cell? ⟨w.heap.size + 1, 0, none⟩ = some (I bg) from fun k w' h => h.cell (g := w.heap.size + 1) (T := 3) (cs := [I bg]) (by simp) 0)
    have P0a := Lib.hid (show ∀ k w', InvT w w0.heap.size b (.slice (some ⟨pb, poff, none⟩) n pc) ((b21, 81, [I (B.over), I (B.some)]) :: ((b20, 81, [I (A.over), I (A.some)]) :: (nodeL w b bg 6 sg))) c [(((G ++ A.G) ++ B.G), (R ++ A.R) ++ B.R, (E ++ A.E) ++ B.E), ((((G ++ A.G) ++ B.G) ++ [gAny [A.over, B.over]]), (R ++ A.R) ++ B.R, (E ++ A.E) ++ B.E), (((((((G ++ A.G) ++ B.G) ++ [gAny [A.over, B.over]]) ++ [gAny [bg, A.some]]) ++ [gNot ((q + 1 : Nat) : Int)]) ++ [gAny [A.over, ((q + 1 + 1 : Nat) : Int)]]), (R ++ A.R) ++ B.R, (E ++ A.E) ++ B.E), ((((((((((G ++ A.G) ++ B.G) ++ [gAny [A.over, B.over]]) ++ [gAny [bg, A.some]]) ++ [gNot ((q + 1 : Nat) : Int)]) ++ [gAny [A.over, ((q + 1 + 1 : Nat) : Int)]]) ++ [gAny [bg, B.some]]) ++ [gNot ((q + 4 : Nat) : Int)]) ++ [gAny [B.over, ((q + 4 + 1 : Nat) : Int)]]), (R ++ A.R) ++ B.R, (E ++ A.E) ++ B.E), (((((((((((G ++ A.G) ++ B.G) ++ [gAny [A.over, B.over]]) ++ [gAny [bg, A.some]]) ++ [gNot ((q + 1 : Nat) : Int)]) ++ [gAny [A.over, ((q + 1 + 1 : Nat) : Int)]]) ++ [gAny [bg, B.some]]) ++ [gNot ((q + 4 : Nat) : Int)]) ++ [gAny [B.over, ((q + 4 + 1 : Nat) : Int)]]) ++ [gAll [(q : Int), (q : Int) + 3, (q : Int) + 6]]), (R ++ A.R) ++ B.R, (E ++ A.E) ++ B.E), ((((((((((((G ++ A.G) ++ B.G) ++ [gAny [A.over, B.over]]) ++ [gAny [bg, A.some]]) ++ [gNot ((q + 1 : Nat) : Int)]) ++ [gAny [A.over, ((q + 1 + 1 : Nat) : Int)]]) ++ [gAny [bg, B.some]]) ++ [gNot ((q + 4 : Nat) : Int)]) ++ [gAny [B.over, ((q + 4 + 1 : Nat) : Int)]]) ++ [gAll [(q : Int), (q : Int) + 3, (q : Int) + 6]]) ++ [gAny [A.some, B.some]]), (R ++ A.R) ++ B.R, (E ++ A.E) ++ B.E)] k w' → w'.cell? ⟨b20, 0, none⟩ = some (I (A.over)) from fun k w' h => h.cell (g := b20) (T := 81) (cs := [I (A.over), I (A.some)]) (by simp) 0)
    have P1a := Lib.hid (show ∀ k w', InvT w w0.heap.size b (.slice (some ⟨pb, poff, none⟩) n pc) ((b21, 81, [I (B.over), I (B.some)]) :: ((b20, 81, [I (A.over), I (A.some)]) :: (nodeL w b bg 6 sg))) c [(((G ++ A.G) ++ B.G), (R ++ A.R) ++ B.R, (E ++ A.E) ++ B.E), ((((G ++ A.G) ++ B.G) ++ [gAny [A.over, B.over]]), (R ++ A.R) ++ B.R, (E ++ A.E) ++ B.E), (((((((G ++ A.G) ++ B.G) ++ [gAny [A.over, B.over]]) ++ [gAny [bg, A.some]]) ++ [gNot ((q + 1 : Nat) : Int)]) ++ [gAny [A.over, ((q + 1 + 1 : Nat) : Int)]]), (R ++ A.R) ++ B.R, (E ++ A.E) ++ B.E), ((((((((((G ++ A.G) ++ B.G) ++ [gAny [A.over, B.over]]) ++ [gAny [bg, A.some]]) ++ [gNot ((q + 1 : Nat) : Int)]) ++ [gAny [A.over, ((q + 1 + 1 : Nat) : Int)]]) ++ [gAny [bg, B.some]]) ++ [gNot ((q + 4 : Nat) : Int)]) ++ [gAny [B.over, ((q + 4 + 1 : Nat) : Int)]]), (R ++ A.R) ++ B.R, (E ++ A.E) ++ B.E), (((((((((((G ++ A.G) ++ B.G) ++ [gAny [A.over, B.over]]) ++ [gAny [bg, A.some]]) ++ [gNot ((q + 1 : Nat) : Int)]) ++ [gAny [A.over, ((q + 1 + 1 : Nat) : Int)]]) ++ [gAny [bg, B.some]]) ++ [gNot ((q + 4 : Nat) : Int)]) ++ [gAny [B.over, ((q + 4 + 1 : Nat) : Int)]]) ++ [gAll [(q : Int), (q : Int) + 3, (q : Int) + 6]]), (R ++ A.R) ++ B.R, (E ++ A.E) ++ B.E), ((((((((((((G ++ A.G) ++ B.G) ++ [gAny [A.over, B.over]]) ++ [gAny [bg, A.some]]) ++ [gNot ((q + 1 : Nat) : Int)]) ++ [gAny [A.over, ((q + 1 + 1 : Nat) : Int)]]) ++ [gAny [bg, B.some]]) ++ [gNot ((q + 4 : Nat) : Int)]) ++ [gAny [B.over, ((q + 4 + 1 : Nat) : Int)]]) ++ [gAll [(q : Int), (q : Int) + 3, (q : Int) + 6]]) ++ [gAny [A.some, B.some]]), (R ++ A.R) ++ B.R, (E ++ A.E) ++ B.E)] k w' → w'.cell? ⟨b20, 1, none⟩ = some (I (A.some)) from fun k w' h => h.cell (g := b20) (T := 81) (cs := [I (A.over), I (A.some)]) (by simp) 1)
    have P0b := Lib.hid (show ∀ k w', InvT w w0.heap.size b (.slice (some ⟨pb, poff, none⟩) n pc) ((b21, 81, [I (B.over), I (B.some)]) :: ((b20, 81, [I (A.over), I (A.some)]) :: (nodeL w b bg 6 sg))) c [(((G ++ A.G) ++ B.G), (R ++ A.R) ++ B.R, (E ++ A.E) ++ B.E), ((((G ++ A.G) ++ B.G) ++ [gAny [A.over, B.over]]), (R ++ A.R) ++ B.R, (E ++ A.E) ++ B.E), (((((((G ++ A.G) ++ B.G) ++ [gAny [A.over, B.over]]) ++ [gAny [bg, A.some]]) ++ [gNot ((q + 1 : Nat) : Int)]) ++ [gAny [A.over, ((q + 1 + 1 : Nat) : Int)]]), (R ++ A.R) ++ B.R, (E ++ A.E) ++ B.E), ((((((((((G ++ A.G) ++ B.G) ++ [gAny [A.over, B.over]]) ++ [gAny [bg, A.some]]) ++ [gNot ((q + 1 : Nat) : Int)]) ++ [gAny [A.over, ((q + 1 + 1 : Nat) : Int)]]) ++ [gAny [bg, B.some]]) ++ [gNot ((q + 4 : Nat) : Int)]) ++ [gAny [B.over, ((q + 4 + 1 : Nat) : Int)]]), (R ++ A.R) ++ B.R, (E ++ A.E) ++ B.E), (((((((((((G ++ A.G) ++ B.G) ++ [gAny [A.over, B.over]]) ++ [gAny [bg, A.some]]) ++ [gNot ((q + 1 : Nat) : Int)]) ++ [gAny [A.over, ((q + 1 + 1 : Nat) : Int)]]) ++ [gAny [bg, B.some]]) ++ [gNot ((q + 4 : Nat) : Int)]) ++ [gAny [B.over, ((q + 4 + 1 : Nat) : Int)]]) ++ [gAll [(q : Int), (q : Int) + 3, (q : Int) + 6]]), (R ++ A.R) ++ B.R, (E ++ A.E) ++ B.E), ((((((((((((G ++ A.G) ++ B.G) ++ [gAny [A.over, B.over]]) ++ [gAny [bg, A.some]]) ++ [gNot ((q + 1 : Nat) : Int)]) ++ [gAny [A.over, ((q + 1 + 1 : Nat) : Int)]]) ++ [gAny [bg, B.some]]) ++ [gNot ((q + 4 : Nat) : Int)]) ++ [gAny [B.over, ((q + 4 + 1 : Nat) : Int)]]) ++ [gAll [(q : Int), (q : Int) + 3, (q : Int) + 6]]) ++ [gAny [A.some, B.some]]), (R ++ A.R) ++ B.R, (E ++ A.E) ++ B.E)] k w' → w'.cell? ⟨b21, 0, none⟩ = some (I (B.over)) from fun k w' h => h.cell (g := b21) (T := 81) (cs := [I (B.over), I (B.some)]) (by simp) 0)
    have P1b := Lib.hid (show ∀ k w', InvT w w0.heap.size b (.slice (some ⟨pb, poff, none⟩) n pc) ((b21, 81, [I (B.over), I (B.some)]) :: ((b20, 81, [I (A.over), I (A.some)]) :: (nodeL w b bg 6 sg))) c [(((G ++ A.G) ++ B.G), (R ++ A.R) ++ B.R, (E ++ A.E) ++ B.E), ((((G ++ A.G) ++ B.G) ++ [gAny [A.over, B.over]]), (R ++ A.R) ++ B.R, (E ++ A.E) ++ B.E), (((((((G ++ A.G) ++ B.G) ++ [gAny [A.over, B.over]]) ++ [gAny [bg, A.some]]) ++ [gNot ((q + 1 : Nat) : Int)]) ++ [gAny [A.over, ((q + 1 + 1 : Nat) : Int)]]), (R ++ A.R) ++ B.R, (E ++ A.E) ++ B.E), ((((((((((G ++ A.G) ++ B.G) ++ [gAny [A.over, B.over]]) ++ [gAny [bg, A.some]]) ++ [gNot ((q + 1 : Nat) : Int)]) ++ [gAny [A.over, ((q + 1 + 1 : Nat) : Int)]]) ++ [gAny [bg, B.some]]) ++ [gNot ((q + 4 : Nat) : Int)]) ++ [gAny [B.over, ((q + 4 + 1 : Nat) : Int)]]), (R ++ A.R) ++ B.R, (E ++ A.E) ++ B.E), (((((((((((G ++ A.G) ++ B.G) ++ [gAny [A.over, B.over]]) ++ [gAny [bg, A.some]]) ++ [gNot ((q + 1 : Nat) : Int)]) ++ [gAny [A.over, ((q + 1 + 1 : Nat) : Int)]]) ++ [gAny [bg, B.some]]) ++ [gNot ((q + 4 : Nat) : Int)]) ++ [gAny [B.over, ((q + 4 + 1 : Nat) : Int)]]) ++ [gAll [(q : Int), (q : Int) + 3, (q : Int) + 6]]), (R ++ A.R) ++ B.R, (E ++ A.E) ++ B.E), ((((((((((((G ++ A.G) ++ B.G) ++ [gAny [A.over, B.over]]) ++ [gAny [bg, A.some]]) ++ [gNot ((q + 1 : Nat) : Int)]) ++ [gAny [A.over, ((q + 1 + 1 : Nat) : Int)]]) ++ [gAny [bg, B.some]]) ++ [gNot ((q + 4 : Nat) : Int)]) ++ [gAny [B.over, ((q + 4 + 1 : Nat) : Int)]]) ++ [gAll [(q : Int), (q : Int) + 3, (q : Int) + 6]]) ++ [gAny [A.some, B.some]]), (R ++ A.R) ++ B.R, (E ++ A.E) ++ B.E)] k w' → w'.cell? ⟨b21, 1, none⟩ = some (I (B.some)) from fun k w' h => h.cell (g := b21) (T := 81) (cs := [I (B.over), I (B.some)]) (by simp) 1)
    go_upto_region 30 with fail
    refine wp_flow7 24 1 [7, 10, 13, 15, 22] [] (RelF b) (InvT w w0.heap.size b (.slice (some ⟨pb, poff, none⟩) n pc) ((b21, 81, [I (B.over), I (B.some)]) :: ((b20, 81, [I (A.over), I (A.some)]) :: (nodeL w b bg 6 sg))) c [(((G ++ A.G) ++ B.G), (R ++ A.R) ++ B.R, (E ++ A.E) ++ B.E), ((((G ++ A.G) ++ B.G) ++ [gAny [A.over, B.over]]), (R ++ A.R) ++ B.R, (E ++ A.E) ++ B.E), (((((((G ++ A.G) ++ B.G) ++ [gAny [A.over, B.over]]) ++ [gAny [bg, A.some]]) ++ [gNot ((q + 1 : Nat) : Int)]) ++ [gAny [A.over, ((q + 1 + 1 : Nat) : Int)]]), (R ++ A.R) ++ B.R, (E ++ A.E) ++ B.E), ((((((((((G ++ A.G) ++ B.G) ++ [gAny [A.over, B.over]]) ++ [gAny [bg, A.some]]) ++ [gNot ((q + 1 : Nat) : Int)]) ++ [gAny [A.over, ((q + 1 + 1 : Nat) : Int)]]) ++ [gAny [bg, B.some]]) ++ [gNot ((q + 4 : Nat) : Int)]) ++ [gAny [B.over, ((q + 4 + 1 : Nat) : Int)]]), (R ++ A.R) ++ B.R, (E ++ A.E) ++ B.E), (((((((((((G ++ A.G) ++ B.G) ++ [gAny [A.over, B.over]]) ++ [gAny [bg, A.some]]) ++ [gNot ((q + 1 : Nat) : Int)]) ++ [gAny [A.over, ((q + 1 + 1 : Nat) : Int)]]) ++ [gAny [bg, B.some]]) ++ [gNot ((q + 4 : Nat) : Int)]) ++ [gAny [B.over, ((q + 4 + 1 : Nat) : Int)]]) ++ [gAll [(q : Int), (q : Int) + 3, (q : Int) + 6]]), (R ++ A.R) ++ B.R, (E ++ A.E) ++ B.E), ((((((((((((G ++ A.G) ++ B.G) ++ [gAny [A.over, B.over]]) ++ [gAny [bg, A.some]]) ++ [gNot ((q + 1 : Nat) : Int)]) ++ [gAny [A.over, ((q + 1 + 1 : Nat) : Int)]]) ++ [gAny [bg, B.some]]) ++ [gNot ((q + 4 : Nat) : Int)]) ++ [gAny [B.over, ((q + 4 + 1 : Nat) : Int)]]) ++ [gAll [(q : Int), (q : Int) + 3, (q : Int) + 6]]) ++ [gAny [A.some, B.some]]), (R ++ A.R) ++ B.R, (E ++ A.E) ++ B.E)]) [isV (.pointer (some ⟨b, 0, none⟩)), isV (.pointer (some ⟨b, 0, none⟩)), isV (.pointer (some ⟨b20, 0, none⟩)), isV (I (A.over)), isV (.pointer (some ⟨b21, 0, none⟩)), isV (I (B.over)), fun v w => ∃ gz, v = .slice (some ⟨gz, 0, none⟩) 2 2 ∧ ArgP w w0.heap.size b (.slice (some ⟨gz, 0, none⟩) 2 2) [A.over, B.over], isV (.int .i64 ((q : Int))), isV (.func (.func 79) #[] #[.pointer (some ⟨w.heap.size, 0, none⟩), .pointer (some ⟨w.heap.size + 1, 0, none⟩)]), isV (.agg #[I (A.over), I (A.some)]), isV (.int .i64 ((q : Int) + 3)), isV (.func (.func 79) #[] #[.pointer (some ⟨w.heap.size, 0, none⟩), .pointer (some ⟨w.heap.size + 1, 0, none⟩)]), isV (.agg #[I (B.over), I (B.some)]), isV (.int .i64 ((q : Int) + 6)), fun v w => ∃ gz, v = .slice (some ⟨gz, 0, none⟩) 3 3 ∧ ArgP w w0.heap.size b (.slice (some ⟨gz, 0, none⟩) 3 3) [(q : Int), (q : Int) + 3, (q : Int) + 6], isV (.int .i64 ((q : Int) + 7)), isV (.pointer (some ⟨b, 0, none⟩)), isV (.pointer (some ⟨b20, 1, none⟩)), isV (I (A.some)), isV (.pointer (some ⟨b21, 1, none⟩)), isV (I (B.some)), fun v w => ∃ gz, v = .slice (some ⟨gz, 0, none⟩) 2 2 ∧ ArgP w w0.heap.size b (.slice (some ⟨gz, 0, none⟩) 2 2) [A.some, B.some], isV (.int .i64 ((q : Int) + 8)), isV (.agg #[.int .i64 ((q : Int) + 7), .int .i64 ((q : Int) + 8)])] (by kernel_rfl) rfl rfl (by kernel_rfl) (by kernel_rfl) (by kernel_rfl) (RelF.refl b _) (fun _ _ _ h k => RelF.trans h k) (fun k w' w'' h hx => InvT.ext h hx) ⟨_, _, HI12.out⟩ ⟨.inr (fun _ _ _ h _ => h), .inr (fun _ _ _ h _ => h), .inr (fun _ _ _ h _ => h), .inr (fun _ _ _ h _ => h), .inr (fun _ _ _ h _ => h), .inr (fun _ _ _ h _ => h), .inr (fun v w w' ⟨g, e, h⟩ hr => ⟨g, e, h.rel hr⟩), .inr (fun _ _ _ h _ => h), .inr (fun _ _ _ h _ => h), .inr (fun _ _ _ h _ => h), .inr (fun _ _ _ h _ => h), .inr (fun _ _ _ h _ => h), .inr (fun _ _ _ h _ => h), .inr (fun _ _ _ h _ => h), .inr (fun v w w' ⟨g, e, h⟩ hr => ⟨g, e, h.rel hr⟩), .inr (fun _ _ _ h _ => h), .inr (fun _ _ _ h _ => h), .inr (fun _ _ _ h _ => h), .inr (fun _ _ _ h _ => h), .inr (fun _ _ _ h _ => h), .inr (fun _ _ _ h _ => h), .inr (fun v w w' ⟨g, e, h⟩ hr => ⟨g, e, h.rel hr⟩), .inr (fun _ _ _ h _ => h), .inr (fun _ _ _ h _ => h), trivial⟩ ?each ?rest
    case each =>
      refine .light rfl ?_ (.light rfl ?_ (.light rfl ?_ (.light rfl ?_ (.light rfl ?_ (.light rfl ?_ (.light rfl ?_ (.heavy 0 rfl ?_ (.light rfl ?_ (.light rfl ?_ (.heavy 1 rfl ?_ (.light rfl ?_ (.light rfl ?_ (.heavy 2 rfl ?_ (.light rfl ?_ (.heavy 3 rfl ?_ (.light rfl ?_ (.light rfl ?_ (.light rfl ?_ (.light rfl ?_ (.light rfl ?_ (.light rfl ?_ (.heavy 4 rfl ?_ (.light rfl ?_ (.nil))))))))))))))))))))))))
      · intro fa fw fk hr hinv hs hb
        have s3 : fa.tmps[(3 : Nat)]? = some (.pointer (some ⟨w.heap.size, 0, none⟩)) := (hb 3 (by kernel_rfl)).trans (by rfl)
        have c0 := C3c.out _ fw hinv
        refine .inl ⟨wanted_free rfl, fun K hK => ?_⟩
        clear hs hb hr hinv
        go_simp
        exact hK _ _ rfl (Ext.refl _)
      · intro fa fw fk hr hinv hs hb
        have s3 : fa.tmps[(3 : Nat)]? = some (.pointer (some ⟨w.heap.size, 0, none⟩)) := (hb 3 (by kernel_rfl)).trans (by rfl)
        have c0 := C3c.out _ fw hinv
        refine .inl ⟨wanted_free rfl, fun K hK => ?_⟩
        clear hs hb hr hinv
        go_simp
        exact hK _ _ rfl (Ext.refl _)
      · intro fa fw fk hr hinv hs hb
        have s20 : fa.tmps[(20 : Nat)]? = some (.pointer (some ⟨b20, 0, none⟩)) := (hb 20 (by kernel_rfl)).trans (by rfl)
        refine .inl ⟨wanted_free rfl, fun K hK => ?_⟩
        clear hs hb hr hinv
        go_simp
        exact hK _ _ rfl (Ext.refl _)
      · intro fa fw fk hr hinv hs hb
        obtain ⟨_, s202, rfl⟩ := hs 2 202 (by kernel_rfl) (by kernel_rfl)
        have c0 := P0a.out _ fw hinv
        refine .inl ⟨wanted_free rfl, fun K hK => ?_⟩
        clear hs hb hr hinv
        go_simp
        exact hK _ _ rfl (Ext.refl _)
      · intro fa fw fk hr hinv hs hb
        have s21 : fa.tmps[(21 : Nat)]? = some (.pointer (some ⟨b21, 0, none⟩)) := (hb 21 (by kernel_rfl)).trans (by rfl)
        refine .inl ⟨wanted_free rfl, fun K hK => ?_⟩
        clear hs hb hr hinv
        go_simp
        exact hK _ _ rfl (Ext.refl _)
      · intro fa fw fk hr hinv hs hb
        obtain ⟨_, s204, rfl⟩ := hs 4 204 (by kernel_rfl) (by kernel_rfl)
        have c0 := P0b.out _ fw hinv
        refine .inl ⟨wanted_free rfl, fun K hK => ?_⟩
        clear hs hb hr hinv
        go_simp
        exact hK _ _ rfl (Ext.refl _)
      · intro fa fw fk hr hinv hs hb
        obtain ⟨_, s203, rfl⟩ := hs 3 203 (by kernel_rfl) (by kernel_rfl)
        obtain ⟨_, s205, rfl⟩ := hs 5 205 (by kernel_rfl) (by kernel_rfl)
        refine .inl ⟨wanted_free rfl, fun K hK => ?_⟩
        clear hs hb
        go_simp
        obtain ⟨rvx, esx, hsx⟩ := hinv.sm
        exact hK _ _ ⟨fw.heap.size, rfl, ArgP.new hsx [A.over, B.over] _ rfl (by simp)⟩ ((Ext.refl _).alloc _)
      · intro fa fw hr hinv hs hb
        obtain ⟨_, s201, rfl⟩ := hs 1 201 (by kernel_rfl) (by kernel_rfl)
        obtain ⟨_, s206, b206, rfl, k206⟩ := hs 6 206 (by kernel_rfl) (by kernel_rfl)
        refine ⟨wanted_free rfl, fun K hK => ?_⟩
        clear hs hb
        go_simp
        obtain ⟨rvx, esx, hix⟩ := hinv
        refine (sany_any hix.sm _ [A.over, B.over] k206 (by show ((G ++ A.G) ++ B.G).length ≤ 1000; have := LQ.out; have := HQB.out; omega)).mono ?_
        rintro e w' ⟨rfl, hm⟩
        have hq := hix.step hm
        rw [show (nthT [(((G ++ A.G) ++ B.G), (R ++ A.R) ++ B.R, (E ++ A.E) ++ B.E), ((((G ++ A.G) ++ B.G) ++ [gAny [A.over, B.over]]), (R ++ A.R) ++ B.R, (E ++ A.E) ++ B.E), (((((((G ++ A.G) ++ B.G) ++ [gAny [A.over, B.over]]) ++ [gAny [bg, A.some]]) ++ [gNot ((q + 1 : Nat) : Int)]) ++ [gAny [A.over, ((q + 1 + 1 : Nat) : Int)]]), (R ++ A.R) ++ B.R, (E ++ A.E) ++ B.E), ((((((((((G ++ A.G) ++ B.G) ++ [gAny [A.over, B.over]]) ++ [gAny [bg, A.some]]) ++ [gNot ((q + 1 : Nat) : Int)]) ++ [gAny [A.over, ((q + 1 + 1 : Nat) : Int)]]) ++ [gAny [bg, B.some]]) ++ [gNot ((q + 4 : Nat) : Int)]) ++ [gAny [B.over, ((q + 4 + 1 : Nat) : Int)]]), (R ++ A.R) ++ B.R, (E ++ A.E) ++ B.E), (((((((((((G ++ A.G) ++ B.G) ++ [gAny [A.over, B.over]]) ++ [gAny [bg, A.some]]) ++ [gNot ((q + 1 : Nat) : Int)]) ++ [gAny [A.over, ((q + 1 + 1 : Nat) : Int)]]) ++ [gAny [bg, B.some]]) ++ [gNot ((q + 4 : Nat) : Int)]) ++ [gAny [B.over, ((q + 4 + 1 : Nat) : Int)]]) ++ [gAll [(q : Int), (q : Int) + 3, (q : Int) + 6]]), (R ++ A.R) ++ B.R, (E ++ A.E) ++ B.E), ((((((((((((G ++ A.G) ++ B.G) ++ [gAny [A.over, B.over]]) ++ [gAny [bg, A.some]]) ++ [gNot ((q + 1 : Nat) : Int)]) ++ [gAny [A.over, ((q + 1 + 1 : Nat) : Int)]]) ++ [gAny [bg, B.some]]) ++ [gNot ((q + 4 : Nat) : Int)]) ++ [gAny [B.over, ((q + 4 + 1 : Nat) : Int)]]) ++ [gAll [(q : Int), (q : Int) + 3, (q : Int) + 6]]) ++ [gAny [A.some, B.some]]), (R ++ A.R) ++ B.R, (E ++ A.E) ++ B.E)] 0).1.length = q from LQ.out]
        exact hK _ _ rfl hm.rel ⟨rvx, esx, hq⟩
      · intro fa fw fk hr hinv hs hb
        have s22 : fa.tmps[(22 : Nat)]? = some (.func (.func 79) #[] #[.pointer (some ⟨w.heap.size, 0, none⟩), .pointer (some ⟨w.heap.size + 1, 0, none⟩)]) := (hb 22 (by kernel_rfl)).trans (by rfl)
        refine .inl ⟨wanted_free rfl, fun K hK => ?_⟩
        clear hs hb hr hinv
        go_simp
        exact hK _ _ rfl (Ext.refl _)
      · intro fa fw fk hr hinv hs hb
        have s20 : fa.tmps[(20 : Nat)]? = some (.pointer (some ⟨b20, 0, none⟩)) := (hb 20 (by kernel_rfl)).trans (by rfl)
        have c0 := P0a.out _ fw hinv
        have c1 := P1a.out _ fw hinv
        refine .inl ⟨wanted_free rfl, fun K hK => ?_⟩
        clear hs hb hr hinv
        go_simp
        exact hK _ _ rfl (Ext.refl _)
      · intro fa fw hr hinv hs hb
        obtain ⟨_, s208, rfl⟩ := hs 8 208 (by kernel_rfl) (by kernel_rfl)
        obtain ⟨_, s209, rfl⟩ := hs 9 209 (by kernel_rfl) (by kernel_rfl)
        refine ⟨wanted_free rfl, fun K hK => ?_⟩
        clear hs hb
        go_simp
        obtain ⟨rvx, esx, hix⟩ := hinv
        refine (rests_at hix.sm hix.lo (w.heap.size) (w.heap.size + 1) 72 3 bg A.over A.some (by simp) (by simp) (by show (((G ++ A.G) ++ B.G) ++ [gAny [A.over, B.over]]).length ≤ 900; have := LT1.out; have := HQB.out; omega) (q + 1) LT1.out).mono ?_
        rintro e w' ⟨rfl, hm⟩
        have hq := hix.step hm
        exact hK _ _ rfl hm.rel ⟨rvx, esx, hq⟩
      · intro fa fw fk hr hinv hs hb
        have s22 : fa.tmps[(22 : Nat)]? = some (.func (.func 79) #[] #[.pointer (some ⟨w.heap.size, 0, none⟩), .pointer (some ⟨w.heap.size + 1, 0, none⟩)]) := (hb 22 (by kernel_rfl)).trans (by rfl)
        refine .inl ⟨wanted_free rfl, fun K hK => ?_⟩
        clear hs hb hr hinv
        go_simp
        exact hK _ _ rfl (Ext.refl _)
      · intro fa fw fk hr hinv hs hb
        have s21 : fa.tmps[(21 : Nat)]? = some (.pointer (some ⟨b21, 0, none⟩)) := (hb 21 (by kernel_rfl)).trans (by rfl)
        have c0 := P0b.out _ fw hinv
        have c1 := P1b.out _ fw hinv
        refine .inl ⟨wanted_free rfl, fun K hK => ?_⟩
        clear hs hb hr hinv
        go_simp
        exact hK _ _ rfl (Ext.refl _)
      · intro fa fw hr hinv hs hb
        obtain ⟨_, s211, rfl⟩ := hs 11 211 (by kernel_rfl) (by kernel_rfl)
        obtain ⟨_, s212, rfl⟩ := hs 12 212 (by kernel_rfl) (by kernel_rfl)
        refine ⟨wanted_free rfl, fun K hK => ?_⟩
        clear hs hb
        go_simp
        obtain ⟨rvx, esx, hix⟩ := hinv
        refine (rests_at hix.sm hix.lo (w.heap.size) (w.heap.size + 1) 72 3 bg B.over B.some (by simp) (by simp) (by show ((((((G ++ A.G) ++ B.G) ++ [gAny [A.over, B.over]]) ++ [gAny [bg, A.some]]) ++ [gNot ((q + 1 : Nat) : Int)]) ++ [gAny [A.over, ((q + 1 + 1 : Nat) : Int)]]).length ≤ 900; have := LT2.out; have := HQB.out; omega) (q + 4) LT2.out).mono ?_
        rintro e w' ⟨rfl, hm⟩
        have hq := hix.step hm
        exact hK _ _ rfl hm.rel ⟨rvx, esx, hq⟩
      · intro fa fw fk hr hinv hs hb
        obtain ⟨_, s207, rfl⟩ := hs 7 207 (by kernel_rfl) (by kernel_rfl)
        obtain ⟨_, s210, rfl⟩ := hs 10 210 (by kernel_rfl) (by kernel_rfl)
        obtain ⟨_, s213, rfl⟩ := hs 13 213 (by kernel_rfl) (by kernel_rfl)
        refine .inl ⟨wanted_free rfl, fun K hK => ?_⟩
        clear hs hb
        go_simp
        obtain ⟨rvx, esx, hsx⟩ := hinv.sm
        exact hK _ _ ⟨fw.heap.size, rfl, ArgP.new hsx [(q : Int), (q : Int) + 3, (q : Int) + 6] _ rfl (by simp)⟩ ((Ext.refl _).alloc _)
      · intro fa fw hr hinv hs hb
        obtain ⟨_, s200, rfl⟩ := hs 0 200 (by kernel_rfl) (by kernel_rfl)
        obtain ⟨_, s214, b214, rfl, k214⟩ := hs 14 214 (by kernel_rfl) (by kernel_rfl)
        refine ⟨wanted_free rfl, fun K hK => ?_⟩
        clear hs hb
        go_simp
        obtain ⟨rvx, esx, hix⟩ := hinv
        refine (sall_any hix.sm _ [(q : Int), (q : Int) + 3, (q : Int) + 6] k214 (by show (((((((((G ++ A.G) ++ B.G) ++ [gAny [A.over, B.over]]) ++ [gAny [bg, A.some]]) ++ [gNot ((q + 1 : Nat) : Int)]) ++ [gAny [A.over, ((q + 1 + 1 : Nat) : Int)]]) ++ [gAny [bg, B.some]]) ++ [gNot ((q + 4 : Nat) : Int)]) ++ [gAny [B.over, ((q + 4 + 1 : Nat) : Int)]]).length ≤ 1000; have := LT3.out; have := HQB.out; omega)).mono ?_
        rintro e w' ⟨rfl, hm⟩
        have hq := hix.step hm
        rw [show (nthT [(((G ++ A.G) ++ B.G), (R ++ A.R) ++ B.R, (E ++ A.E) ++ B.E), ((((G ++ A.G) ++ B.G) ++ [gAny [A.over, B.over]]), (R ++ A.R) ++ B.R, (E ++ A.E) ++ B.E), (((((((G ++ A.G) ++ B.G) ++ [gAny [A.over, B.over]]) ++ [gAny [bg, A.some]]) ++ [gNot ((q + 1 : Nat) : Int)]) ++ [gAny [A.over, ((q + 1 + 1 : Nat) : Int)]]), (R ++ A.R) ++ B.R, (E ++ A.E) ++ B.E), ((((((((((G ++ A.G) ++ B.G) ++ [gAny [A.over, B.over]]) ++ [gAny [bg, A.some]]) ++ [gNot ((q + 1 : Nat) : Int)]) ++ [gAny [A.over, ((q + 1 + 1 : Nat) : Int)]]) ++ [gAny [bg, B.some]]) ++ [gNot ((q + 4 : Nat) : Int)]) ++ [gAny [B.over, ((q + 4 + 1 : Nat) : Int)]]), (R ++ A.R) ++ B.R, (E ++ A.E) ++ B.E), (((((((((((G ++ A.G) ++ B.G) ++ [gAny [A.over, B.over]]) ++ [gAny [bg, A.some]]) ++ [gNot ((q + 1 : Nat) : Int)]) ++ [gAny [A.over, ((q + 1 + 1 : Nat) : Int)]]) ++ [gAny [bg, B.some]]) ++ [gNot ((q + 4 : Nat) : Int)]) ++ [gAny [B.over, ((q + 4 + 1 : Nat) : Int)]]) ++ [gAll [(q : Int), (q : Int) + 3, (q : Int) + 6]]), (R ++ A.R) ++ B.R, (E ++ A.E) ++ B.E), ((((((((((((G ++ A.G) ++ B.G) ++ [gAny [A.over, B.over]]) ++ [gAny [bg, A.some]]) ++ [gNot ((q + 1 : Nat) : Int)]) ++ [gAny [A.over, ((q + 1 + 1 : Nat) : Int)]]) ++ [gAny [bg, B.some]]) ++ [gNot ((q + 4 : Nat) : Int)]) ++ [gAny [B.over, ((q + 4 + 1 : Nat) : Int)]]) ++ [gAll [(q : Int), (q : Int) + 3, (q : Int) + 6]]) ++ [gAny [A.some, B.some]]), (R ++ A.R) ++ B.R, (E ++ A.E) ++ B.E)] 3).1.length = q + 7 from LT3.out]
        exact hK _ _ rfl hm.rel ⟨rvx, esx, hq⟩
      · intro fa fw fk hr hinv hs hb
        have s3 : fa.tmps[(3 : Nat)]? = some (.pointer (some ⟨w.heap.size, 0, none⟩)) := (hb 3 (by kernel_rfl)).trans (by rfl)
        have c0 := C3c.out _ fw hinv
        refine .inl ⟨wanted_free rfl, fun K hK => ?_⟩
        clear hs hb hr hinv
        go_simp
        exact hK _ _ rfl (Ext.refl _)
      · intro fa fw fk hr hinv hs hb
        have s20 : fa.tmps[(20 : Nat)]? = some (.pointer (some ⟨b20, 0, none⟩)) := (hb 20 (by kernel_rfl)).trans (by rfl)
        refine .inl ⟨wanted_free rfl, fun K hK => ?_⟩
        clear hs hb hr hinv
        go_simp
        exact hK _ _ rfl (Ext.refl _)
      · intro fa fw fk hr hinv hs hb
        obtain ⟨_, s217, rfl⟩ := hs 17 217 (by kernel_rfl) (by kernel_rfl)
        have c0 := P1a.out _ fw hinv
        refine .inl ⟨wanted_free rfl, fun K hK => ?_⟩
        clear hs hb hr hinv
        go_simp
        exact hK _ _ rfl (Ext.refl _)
      · intro fa fw fk hr hinv hs hb
        have s21 : fa.tmps[(21 : Nat)]? = some (.pointer (some ⟨b21, 0, none⟩)) := (hb 21 (by kernel_rfl)).trans (by rfl)
        refine .inl ⟨wanted_free rfl, fun K hK => ?_⟩
        clear hs hb hr hinv
        go_simp
        exact hK _ _ rfl (Ext.refl _)
      · intro fa fw fk hr hinv hs hb
        obtain ⟨_, s219, rfl⟩ := hs 19 219 (by kernel_rfl) (by kernel_rfl)
        have c0 := P1b.out _ fw hinv
        refine .inl ⟨wanted_free rfl, fun K hK => ?_⟩
        clear hs hb hr hinv
        go_simp
        exact hK _ _ rfl (Ext.refl _)
      · intro fa fw fk hr hinv hs hb
        obtain ⟨_, s218, rfl⟩ := hs 18 218 (by kernel_rfl) (by kernel_rfl)
        obtain ⟨_, s220, rfl⟩ := hs 20 220 (by kernel_rfl) (by kernel_rfl)
        refine .inl ⟨wanted_free rfl, fun K hK => ?_⟩
        clear hs hb
        go_simp
        obtain ⟨rvx, esx, hsx⟩ := hinv.sm
        exact hK _ _ ⟨fw.heap.size, rfl, ArgP.new hsx [A.some, B.some] _ rfl (by simp)⟩ ((Ext.refl _).alloc _)
      · intro fa fw hr hinv hs hb
        obtain ⟨_, s216, rfl⟩ := hs 16 216 (by kernel_rfl) (by kernel_rfl)
        obtain ⟨_, s221, b221, rfl, k221⟩ := hs 21 221 (by kernel_rfl) (by kernel_rfl)
        refine ⟨wanted_free rfl, fun K hK => ?_⟩
        clear hs hb
        go_simp
        obtain ⟨rvx, esx, hix⟩ := hinv
        refine (sany_any hix.sm _ [A.some, B.some] k221 (by show ((((((((((G ++ A.G) ++ B.G) ++ [gAny [A.over, B.over]]) ++ [gAny [bg, A.some]]) ++ [gNot ((q + 1 : Nat) : Int)]) ++ [gAny [A.over, ((q + 1 + 1 : Nat) : Int)]]) ++ [gAny [bg, B.some]]) ++ [gNot ((q + 4 : Nat) : Int)]) ++ [gAny [B.over, ((q + 4 + 1 : Nat) : Int)]]) ++ [gAll [(q : Int), (q : Int) + 3, (q : Int) + 6]]).length ≤ 1000; have := LT4.out; have := HQB.out; omega)).mono ?_
        rintro e w' ⟨rfl, hm⟩
        have hq := hix.step hm
        rw [show (nthT [(((G ++ A.G) ++ B.G), (R ++ A.R) ++ B.R, (E ++ A.E) ++ B.E), ((((G ++ A.G) ++ B.G) ++ [gAny [A.over, B.over]]), (R ++ A.R) ++ B.R, (E ++ A.E) ++ B.E), (((((((G ++ A.G) ++ B.G) ++ [gAny [A.over, B.over]]) ++ [gAny [bg, A.some]]) ++ [gNot ((q + 1 : Nat) : Int)]) ++ [gAny [A.over, ((q + 1 + 1 : Nat) : Int)]]), (R ++ A.R) ++ B.R, (E ++ A.E) ++ B.E), ((((((((((G ++ A.G) ++ B.G) ++ [gAny [A.over, B.over]]) ++ [gAny [bg, A.some]]) ++ [gNot ((q + 1 : Nat) : Int)]) ++ [gAny [A.over, ((q + 1 + 1 : Nat) : Int)]]) ++ [gAny [bg, B.some]]) ++ [gNot ((q + 4 : Nat) : Int)]) ++ [gAny [B.over, ((q + 4 + 1 : Nat) : Int)]]), (R ++ A.R) ++ B.R, (E ++ A.E) ++ B.E), (((((((((((G ++ A.G) ++ B.G) ++ [gAny [A.over, B.over]]) ++ [gAny [bg, A.some]]) ++ [gNot ((q + 1 : Nat) : Int)]) ++ [gAny [A.over, ((q + 1 + 1 : Nat) : Int)]]) ++ [gAny [bg, B.some]]) ++ [gNot ((q + 4 : Nat) : Int)]) ++ [gAny [B.over, ((q + 4 + 1 : Nat) : Int)]]) ++ [gAll [(q : Int), (q : Int) + 3, (q : Int) + 6]]), (R ++ A.R) ++ B.R, (E ++ A.E) ++ B.E), ((((((((((((G ++ A.G) ++ B.G) ++ [gAny [A.over, B.over]]) ++ [gAny [bg, A.some]]) ++ [gNot ((q + 1 : Nat) : Int)]) ++ [gAny [A.over, ((q + 1 + 1 : Nat) : Int)]]) ++ [gAny [bg, B.some]]) ++ [gNot ((q + 4 : Nat) : Int)]) ++ [gAny [B.over, ((q + 4 + 1 : Nat) : Int)]]) ++ [gAll [(q : Int), (q : Int) + 3, (q : Int) + 6]]) ++ [gAny [A.some, B.some]]), (R ++ A.R) ++ B.R, (E ++ A.E) ++ B.E)] 4).1.length = q + 8 from LT4.out]
        exact hK _ _ rfl hm.rel ⟨rvx, esx, hq⟩
      · intro fa fw fk hr hinv hs hb
        obtain ⟨_, s215, rfl⟩ := hs 15 215 (by kernel_rfl) (by kernel_rfl)
        obtain ⟨_, s222, rfl⟩ := hs 22 222 (by kernel_rfl) (by kernel_rfl)
        refine .inl ⟨wanted_free rfl, fun K hK => ?_⟩
        clear hs hb hr hinv
        go_simp
        exact hK _ _ rfl (Ext.refl _)
    case rest =>
      intro w9 hrw9 hiw9
      rintro _ rfl
      rintro _ rfl
      rintro _ rfl
      rintro _ rfl
      rintro _ rfl
      rintro _ rfl
      rintro _ ⟨b206, rfl, k206⟩
      rintro _ rfl
      rintro _ rfl
      rintro _ rfl
      rintro _ rfl
      rintro _ rfl
      rintro _ rfl
      rintro _ rfl
      rintro _ ⟨b214, rfl, k214⟩
      rintro _ rfl
      rintro _ rfl
      rintro _ rfl
      rintro _ rfl
      rintro _ rfl
      rintro _ rfl
      rintro _ ⟨b221, rfl, k221⟩
      rintro _ rfl
      rintro _ rfl
      simp only [putAll, List.take, Act.put, List.setIfInBounds_toArray, List.set_cons_zero, List.set_cons_succ]
      obtain ⟨rv9, es9, hi9⟩ := hiw9
      have hb6 : Box w9 (w.heap.size + 1 + 1) 81 [I 0, I 0] := (hi9.lo (w.heap.size + 1 + 1, 81, [I 0, I 0]) (by simp)).1
      have z0 := hb6.cell 0; have z1 := hb6.cell 1; have f6 := hb6.free
      simp only [List.getElem?_cons_zero, List.getElem?_cons_succ] at z0 z1
      have hfin := hi9.finish HBS.out (m6 := w.heap.size + 1 + 1) (x := I 0) (y := I 0) (by simp) (by omega) (I ((q : Int) + 7)) (I ((q : Int) + 8))
      have HFIN := Lib.hid hfin
      clear hb6 hfin hi9 hrw9
      refine wpAny_ready (rs := [24]) (by kernel_rfl) (by simp) (AllReady.cons rfl (fun KK hKK => ?_) AllReady.nil)
      go_simp
      refine hKK _ _ ?_
      clear hKK KK z0 z1 f6
      refine wpAny_done (by kernel_rfl) ?_ _
      go_wp2
      obtain ⟨hmade, y0, y1⟩ := HFIN.out
      refine bodyPost_ret (v := .agg #[I ((q : Int) + 7), I ((q : Int) + 8)]) ?_ rfl ⟨rv9, es9, by rw [HNF.out]; exact congrArg Ending.returned (by simp [HQ.out] <;> omega), by rw [HNF.out]; have hmm := hmade; simp only [nthT, List.append_assoc, List.cons_append, List.nil_append] at hmm ⊢; rw [show ((G.length + A.G.length + B.G.length : Nat) : Int) = (q : Int) from by rw [HQ.out, List.length_append]]; exact hmm⟩
      clear hmade HFIN
      simp [results, Try.results39, go_sem, y0, y1]
end
end Go.Proofs.Ytlafiddfplhafaa
