/- The smith's node: choices; all nodes. -/
import Derived.Test.YtlafiddfplhafaaFa16
import Derived.Test.YtlafiddfplhafaaFa01
import Derived.Test.YtlafiddfplhafaaFa11
import Derived.Test.YtlafiddfplhafaaFa02
import Derived.Test.YtlafiddfplhafaaFa12
import Derived.Test.YtlafiddfplhafaaFa13
namespace Go.Proofs.Ytlafiddfplhafaa
set_option linter.unusedVariables false
set_option linter.unusedSimpArgs false
set_option linter.unusedVariables false
set_option linter.unusedSimpArgs false
open Go.RowKit
section
variable (w0 : World) (b : Nat) (PA : Option Addr) (n pc : Nat) (c : SmithM) (p : List PNode)
set_option maxRecDepth 100000 in
set_option maxHeartbeats 16000000 in
theorem node_if (hp : SlN w0 PA n p) (hn : n ≤ 14) (sn : Nat) (hsn : sn ≤ 2) (ta tb : Tr) (k : Nat) (ht : TreeAt p k (.two ⟨7, (sn : Int)⟩ ta tb)) (ok : (Tr.two ⟨7, (sn : Int)⟩ ta tb).ok) (hgd : ∀ x ∈ (Tr.two ⟨7, (sn : Int)⟩ ta tb).flat, goodN x)
    (ia : NodeOK w0 b PA n pc c ta (k + 1)) (ib : NodeOK w0 b PA n pc c tb (k + 1 + ta.size)) : NodeOK w0 b PA n pc c (.two ⟨7, (sn : Int)⟩ ta tb) k := by
  intro w rv es G R E bg hx h hG hR hE h8 hb0 hb1
  have hle := ht.le
  have hpl := hp.1
  have hkn : k < n := by simp [Tr.size] at hle; omega
  have htop := ht.top
  have hof := ht.of_two ok
  obtain ⟨pb, poff, y, rfl, d0, d1, -, hy⟩ := hp.next hkn
  have hyx : y = ⟨7, (sn : Int)⟩ := by rw [htop] at hy; injection hy with hy; exact hy.symm
  subst hyx
  have e0 := hx.keeps _ _ d0; have e1 := hx.keeps _ _ d1
  have q4 := h.cellP
  have hk3 : Keeps w (((w.alloc (.cells #[.pointer (some ⟨b, 0, none⟩)] 72)).alloc (.cells #[I bg] 3)).alloc (.cells #[I 0, I 0] 81)) := ((Keeps.alloc _ _).trans (Keeps.alloc _ _)).trans (Keeps.alloc _ _)
  have q4' := hk3 _ _ q4; have e0' := hk3 _ _ e0; have e1' := hk3 _ _ e1
  have hI := NodeI.begin h bg 7 (sn : Int)
  obtain ⟨wB, hwB⟩ : ∃ q, q = nodeB w b bg 7 (sn : Int) := ⟨_, rfl⟩
  rw [← hwB] at hI
  have hpB : SlN wB (some ⟨pb, poff, none⟩) n p := hp.keep (Ext.trans hx (by rw [hwB]; exact ((((Ext.refl w).alloc _).alloc _).alloc _).alloc _)).keeps
  have hsz : (Tr.two ⟨7, (sn : Int)⟩ ta tb).size = 1 + ta.size + tb.size := rfl
  rw [hsz] at hG hR hE
  obtain ⟨goa, gob⟩ := sub_good hgd
  have hbs : w0.heap.size ≤ w.heap.size := hx.size
  have hisv : isG ⟨7, (sn : Int)⟩ = (sn : Int) := by simp [isG, insG, wasG]
  obtain ⟨A, hA⟩ : ∃ A, A = nodeF ta (G.length + 1) R.length G.length := ⟨_, rfl⟩
  obtain ⟨qa, hqa⟩ : ∃ qa, qa = G.length + 1 + A.G.length := ⟨_, rfl⟩
  obtain ⟨B, hB⟩ : ∃ B, B = nodeF tb (G.length + 1 + A.G.length + 2) (R.length + A.R.length) ((qa : Int) + 1) := ⟨_, rfl⟩
  have FA : FOk ta (G.length + 1) R.length A := by rw [hA]; exact nodeF_ok ta _ _ _ ok.2.1 goa (by omega) (by omega) (by omega)
  have FB : FOk tb (G.length + 1 + A.G.length + 2) (R.length + A.R.length) B := by rw [hB]; exact nodeF_ok tb _ _ _ ok.2.2 gob (by omega) (by omega) (by omega)
  have hNF : nodeF (.two ⟨7, (sn : Int)⟩ ta tb) G.length R.length bg = ⟨((G.length + 1 + A.G.length + 2 + B.G.length : Nat) : Int), ((G.length + 1 + A.G.length + 2 + B.G.length : Nat) : Int) + 1, gAll [bg, (sn : Int)] :: (A.G ++ ([gNot ((sn : Int)), gAll [bg, (qa : Int)]] ++ (B.G ++ [gAny [A.over, B.over], gAny [A.some, B.some]]))), A.R ++ B.R, A.E ++ B.E⟩ := by
    rw [hB, hqa, hA]; simp only [nodeF]; rw [if_neg (by decide), if_neg (by decide), hisv]
  have hAe : nodeF ta (G ++ [gAll [bg, (sn : Int)]]).length R.length G.length = A := by rw [hA]; simp
  have hBe : nodeF tb (((G ++ [gAll [bg, (sn : Int)]]) ++ A.G) ++ [gNot ((sn : Int)), gAll [bg, (qa : Int)]]).length (R ++ A.R).length ((qa : Int) + 1) = B := by
    have hl : (((G ++ [gAll [bg, (sn : Int)]]) ++ A.G) ++ [gNot ((sn : Int)), gAll [bg, (qa : Int)]]).length = G.length + 1 + A.G.length + 2 := by simp only [List.length_append, List.length_cons, List.length_nil]
    rw [hl, List.length_append]; exact hB.symm
  have hqab : qa ≤ 820 := by have := FA.size; have := nW_le ta; omega
  have HQA := Lib.hid hqa; have HQAB := Lib.hid hqab
  clear hA hB hisv hqab
  have nwa := nW_le ta; have nwb := nW_le tb
  have fa1 := FA.size; have fa2 := FA.regs; have fa3 := FA.few; have fb1 := FB.size; have fb2 := FB.regs; have fb3 := FB.few; have fa4 := FA.over; have fa5 := FA.some
  have ca : ∀ (w' : World) (rvx : Value) (esx : List Value), Ext w0 w' → SmithP w' w0.heap.size b 3 (.slice (some ⟨pb, poff, none⟩) n pc) (stN c rvx esx (G ++ [gAll [bg, (sn : Int)]]) R E) → Calls Try.prog 39 #[.pointer (some ⟨b, 0, none⟩), .int .i64 ((k : Int) + 1), I ((G.length : Int))] w' fun e w'' => ∃ rv' es', e = .returned (.agg #[I A.over, I A.some]) ∧ MadeP w' w'' w0.heap.size b 3 (.slice (some ⟨pb, poff, none⟩) n pc) (stN c rv' es' ((G ++ [gAll [bg, (sn : Int)]]) ++ A.G) (R ++ A.R) (E ++ A.E)) := fun w' rvx esx hxw hsw => by
    have := ia w' rvx esx (G ++ [gAll [bg, (sn : Int)]]) R E ((G.length : Int)) hxw hsw (by (try simp only [List.length_append, List.length_cons, List.length_nil]); omega) (by omega) (by omega) (by (try simp only [List.length_append, List.length_cons, List.length_nil]); omega) (by omega) (by (try simp only [List.length_append, List.length_cons, List.length_nil]); omega)
    rw [hAe] at this
    rwa [show ((k + 1 : Nat) : Int) = (k : Int) + 1 from by omega] at this
  have cb : ∀ (w' : World) (rvx : Value) (esx : List Value), Ext w0 w' → SmithP w' w0.heap.size b 3 (.slice (some ⟨pb, poff, none⟩) n pc) (stN c rvx esx (((G ++ [gAll [bg, (sn : Int)]]) ++ A.G) ++ [gNot ((sn : Int)), gAll [bg, (qa : Int)]]) (R ++ A.R) (E ++ A.E)) → Calls Try.prog 39 #[.pointer (some ⟨b, 0, none⟩), .int .i64 ((k : Int) + 1 + ta.size), I ((qa : Int) + 1)] w' fun e w'' => ∃ rv' es', e = .returned (.agg #[I B.over, I B.some]) ∧ MadeP w' w'' w0.heap.size b 3 (.slice (some ⟨pb, poff, none⟩) n pc) (stN c rv' es' ((((G ++ [gAll [bg, (sn : Int)]]) ++ A.G) ++ [gNot ((sn : Int)), gAll [bg, (qa : Int)]]) ++ B.G) ((R ++ A.R) ++ B.R) ((E ++ A.E) ++ B.E)) := fun w' rvx esx hxw hsw => by
    have := ib w' rvx esx (((G ++ [gAll [bg, (sn : Int)]]) ++ A.G) ++ [gNot ((sn : Int)), gAll [bg, (qa : Int)]]) (R ++ A.R) (E ++ A.E) ((qa : Int) + 1) hxw hsw (by (try simp only [List.length_append, List.length_cons, List.length_nil]); omega) (by (try simp only [List.length_append, List.length_cons, List.length_nil]); omega) (by (try simp only [List.length_append, List.length_cons, List.length_nil]); omega) (by (try simp only [List.length_append, List.length_cons, List.length_nil]); omega) (by omega) (by (try simp only [List.length_append, List.length_cons, List.length_nil]); omega)
    rw [hBe] at this
    rwa [show ((k + 1 + ta.size : Nat) : Int) = (k : Int) + 1 + ta.size from by omega] at this
  have CA := Lib.hid ca; have CB := Lib.hid cb
  obtain ⟨q, hq⟩ : ∃ q, q = (((G ++ [gAll [bg, (sn : Int)]]) ++ A.G) ++ [gNot ((sn : Int)), gAll [bg, (qa : Int)]]).length + B.G.length := ⟨_, rfl⟩
  have hqb : q ≤ 820 := by rw [hq]; simp; omega
  have HI := Lib.hid hI; have HBS := Lib.hid hbs; have HX := Lib.hid hx; have HPB := Lib.hid hpB; have HOF := Lib.hid hof; have HNF := Lib.hid hNF; have HQ := Lib.hid hq; have HQB := Lib.hid hqb; have HFA := Lib.hid FA
  have HGL : Hid (8 ≤ G.length ∧ G.length ≤ 800) := by unfold Hid; omega
  have HWB : Hid (wB = (((w.alloc (.cells #[.pointer (some ⟨b, 0, none⟩)] 72)).alloc (.cells #[I bg] 3)).alloc (.cells #[I 0, I 0] 81)).alloc (.cells #[I 7, I (sn : Int)] 64)) := hwB
  clear hp ht hle hpl htop hof d0 d1 hy hI hx hG hR hE h8 hb0 hb1 hk3 q4 e0 e1 hwB hpB hsz goa gob hqa hbs hNF nwa nwb fa1 fa2 fa3 fb1 fb2 fb3 fa4 fa5 FA FB ca cb hq hqb ia ib hgd ok hAe hBe h
  generalize hnx : (k : Int) + (Tr.two ⟨7, (sn : Int)⟩ ta tb).size = beh at *
  clear hnx
  go_enter Try.func39, Try.ntmps39
  go_upto_region 21 with fail
  rw [← HWB.out]
  clear q4' e0' e1'
  have q3 := (HI.out.cell (g := w.heap.size) (T := 72) (cs := [.pointer (some ⟨b, 0, none⟩)]) (by simp) 0).trans rfl
  have q5 := (HI.out.cell (g := w.heap.size + 1) (T := 3) (cs := [I bg]) (by simp) 0).trans rfl
  have q7 := (HI.out.cell (g := w.heap.size + 1 + 1 + 1) (T := 64) (cs := [I 7, I (sn : Int)]) (by simp) 0).trans rfl
  have q4 := HI.out.sm.cellP
  simp only [List.getElem?_cons_zero] at q3 q5 q7
  go_wp2_with fail
  refine (progOf_any _ n pc p k wB HPB.out (by omega) hkn).mono ?_; rintro e w' ⟨rfl, rfl⟩; rw [HOF.out]
  have hsni : (sn : Int) < 3 := by omega
  clear q3 q4 q5
  have q7' := (HI.out.cell (g := w.heap.size + 1 + 1 + 1) (T := 64) (cs := [I 7, I (sn : Int)]) (by simp) 0).trans rfl
  simp only [List.getElem?_cons_zero] at q7'
  clear q7
  have q7 := q7'
  clear q7'
  go_upto_region 31 with fail
  clear q7
  have C3a := Lib.hid (show ∀ k w', InvT w w0.heap.size b (.slice (some ⟨pb, poff, none⟩) n pc) (nodeL w b bg 7 (sn : Int)) c [(G, R, E)] k w' → w'.cell? ⟨w.heap.size, 0, none⟩ = some (.pointer (some ⟨b, 0, none⟩)) from fun k w' h => h.cell (g := w.heap.size) (T := 72) (cs := [.pointer (some ⟨b, 0, none⟩)]) (by simp) 0)
  have C5a := Lib.hid (show ∀ k w', InvT w w0.heap.size b (.slice (some ⟨pb, poff, none⟩) n pc) (nodeL w b bg 7 (sn : Int)) c [(G, R, E)] k w' → w'.cell? ⟨w.heap.size + 1, 0, none⟩ = some (I bg) from fun k w' h => h.cell (g := w.heap.size + 1) (T := 3) (cs := [I bg]) (by simp) 0)
  have C7a := Lib.hid (show ∀ k w', InvT w w0.heap.size b (.slice (some ⟨pb, poff, none⟩) n pc) (nodeL w b bg 7 (sn : Int)) c [(G, R, E)] k w' → w'.cell? ⟨w.heap.size + 1 + 1 + 1, 1, none⟩ = some (I (sn : Int)) from fun k w' h => h.cell (g := w.heap.size + 1 + 1 + 1) (T := 64) (cs := [I 7, I (sn : Int)]) (by simp) 1)
  have hri := HI.out.sm.ins
  obtain ⟨ivb, ivc, eiv⟩ := own_form hri (Nat.succ_pos 2)
  have Hiv : Hid (c.iv = .slice (some ⟨ivb, 0, none⟩) 3 ivc) := eiv
  clear hri eiv
  have CIiv := Lib.hid (show ∀ k w', InvT w w0.heap.size b (.slice (some ⟨pb, poff, none⟩) n pc) (nodeL w b bg 7 (sn : Int)) c [(G, R, E)] k w' → w'.cell? ⟨b, 5, none⟩ = some (.slice (some ⟨ivb, 0, none⟩) 3 ivc) from fun k w' h => by obtain ⟨_, _, hs⟩ := h.sm; rw [← Hiv.out]; exact hs.cellI)
  have CXiv := Lib.hid (show ∀ k w', InvT w w0.heap.size b (.slice (some ⟨pb, poff, none⟩) n pc) (nodeL w b bg 7 (sn : Int)) c [(G, R, E)] k w' → w'.cell? ⟨ivb, sn, none⟩ = some (I ((sn : Int))) from fun k w' h => by
    obtain ⟨_, _, hs⟩ := h.sm
    have hr := hs.ins
    have hr2 : w'.ownsRow w0.heap.size 3 1 c.iv 3 ([0, 1, 2].map I) := hr
    rw [Hiv.out] at hr2
    have hc := hr2.cellAt sn (show sn < 3 * 1 by omega)
    rw [hc]
    have : sn = 0 ∨ sn = 1 ∨ sn = 2 := by omega
    rcases this with rfl | rfl | rfl <;> rfl)
  refine wp_flow7 9 0 [] [] (RelF b) (InvT w w0.heap.size b (.slice (some ⟨pb, poff, none⟩) n pc) (nodeL w b bg 7 (sn : Int)) c [(G, R, E)]) [isV (.pointer (some ⟨b, 0, none⟩)), isV (.pointer (some ⟨b, 0, none⟩)), isV (.pointer (some ⟨b, 5, none⟩)), isV (.slice (some ⟨ivb, 0, none⟩) 3 ivc), isV (.pointer (some ⟨w.heap.size + 1 + 1 + 1, 1, none⟩)), isV (I (sn : Int)), isV (.pointer (some ⟨ivb, sn, none⟩)), isV (I ((sn : Int))), isV (I ((sn : Int)))] (by kernel_rfl) rfl rfl (by kernel_rfl) (by kernel_rfl) (by kernel_rfl) (RelF.refl b _) (fun _ _ _ h k => RelF.trans h k) (fun k w' w'' h hx => InvT.ext h hx) ⟨rv, es, HI.out⟩ ⟨.inr (fun _ _ _ h _ => h), .inr (fun _ _ _ h _ => h), .inr (fun _ _ _ h _ => h), .inr (fun _ _ _ h _ => h), .inr (fun _ _ _ h _ => h), .inr (fun _ _ _ h _ => h), .inr (fun _ _ _ h _ => h), .inr (fun _ _ _ h _ => h), .inr (fun _ _ _ h _ => h), trivial⟩ ?each ?rest
  case each =>
    refine .light rfl ?_ (.light rfl ?_ (.light rfl ?_ (.light rfl ?_ (.light rfl ?_ (.light rfl ?_ (.light rfl ?_ (.light rfl ?_ (.light rfl ?_ (.nil)))))))))
    · intro fa fw fk hr hinv hs hb
      have s3 : fa.tmps[(3 : Nat)]? = some (.pointer (some ⟨w.heap.size, 0, none⟩)) := (hb 3 (by kernel_rfl)).trans (by rfl)
      have c0 := C3a.out _ fw hinv
      refine .inl ⟨wanted_free rfl, fun K hK => ?_⟩
      clear hs hb hr hinv
      go_simp
      exact hK _ _ rfl (Ext.refl _)
    · intro fa fw fk hr hinv hs hb
      obtain ⟨_, s224, rfl⟩ := hs 0 224 (by kernel_rfl) (by kernel_rfl)
      refine .inl ⟨wanted_free rfl, fun K hK => ?_⟩
      clear hs hb hr hinv
      go_simp
      exact hK _ _ rfl (Ext.refl _)
    · intro fa fw fk hr hinv hs hb
      obtain ⟨_, s225, rfl⟩ := hs 1 225 (by kernel_rfl) (by kernel_rfl)
      refine .inl ⟨wanted_free rfl, fun K hK => ?_⟩
      clear hs hb hr hinv
      go_simp
      exact hK _ _ rfl (Ext.refl _)
    · intro fa fw fk hr hinv hs hb
      obtain ⟨_, s226, rfl⟩ := hs 2 226 (by kernel_rfl) (by kernel_rfl)
      have c0 := CIiv.out _ fw hinv
      refine .inl ⟨wanted_free rfl, fun K hK => ?_⟩
      clear hs hb hr hinv
      go_simp
      exact hK _ _ rfl (Ext.refl _)
    · intro fa fw fk hr hinv hs hb
      have s7 : fa.tmps[(7 : Nat)]? = some (.pointer (some ⟨w.heap.size + 1 + 1 + 1, 0, none⟩)) := (hb 7 (by kernel_rfl)).trans (by rfl)
      refine .inl ⟨wanted_free rfl, fun K hK => ?_⟩
      clear hs hb hr hinv
      go_simp
      exact hK _ _ rfl (Ext.refl _)
    · intro fa fw fk hr hinv hs hb
      obtain ⟨_, s228, rfl⟩ := hs 4 228 (by kernel_rfl) (by kernel_rfl)
      have c0 := C7a.out _ fw hinv
      refine .inl ⟨wanted_free rfl, fun K hK => ?_⟩
      clear hs hb hr hinv
      go_simp
      exact hK _ _ rfl (Ext.refl _)
    · intro fa fw fk hr hinv hs hb
      obtain ⟨_, s227, rfl⟩ := hs 3 227 (by kernel_rfl) (by kernel_rfl)
      obtain ⟨_, s229, rfl⟩ := hs 5 229 (by kernel_rfl) (by kernel_rfl)
      refine .inl ⟨wanted_free rfl, fun K hK => ?_⟩
      clear hs hb hr hinv
      go_simp
      exact hK _ _ rfl (Ext.refl _)
    · intro fa fw fk hr hinv hs hb
      obtain ⟨_, s230, rfl⟩ := hs 6 230 (by kernel_rfl) (by kernel_rfl)
      have c0 := CXiv.out _ fw hinv
      refine .inl ⟨wanted_free rfl, fun K hK => ?_⟩
      clear hs hb hr hinv
      go_simp
      exact hK _ _ rfl (Ext.refl _)
    · intro fa fw fk hr hinv hs hb
      obtain ⟨_, s231, rfl⟩ := hs 7 231 (by kernel_rfl) (by kernel_rfl)
      refine .inl ⟨wanted_free rfl, fun K hK => ?_⟩
      clear hs hb hr hinv
      go_simp
      exact hK _ _ rfl (Ext.refl _)
  case rest =>
    intro w9 hrw9 hiw9
    rintro _ rfl
    rintro _ rfl
    rintro _ rfl
    rintro _ rfl
    rintro _ rfl
    rintro _ rfl
    rintro _ rfl
    rintro _ rfl
    rintro _ rfl
    simp only [putAll, List.take, Act.put, List.setIfInBounds_toArray, List.set_cons_zero, List.set_cons_succ]
    refine wpAny_done (by kernel_rfl) ?_ _
    obtain ⟨rv2, es2, hi2⟩ := hiw9
    have hrs : wB.heap.size ≤ w9.heap.size := hrw9.1
    have q7 := (hi2.cell (g := w.heap.size + 1 + 1 + 1) (T := 64) (cs := [I 7, I (sn : Int)]) (by simp) 0).trans rfl
    simp only [List.getElem?_cons_zero] at q7
    have HI2 := Lib.hid hi2
    clear hi2 hrw9 hrs
    go_upto_region 34 with fail
    clear q7
    have C3d := Lib.hid (show ∀ k w', InvT w w0.heap.size b (.slice (some ⟨pb, poff, none⟩) n pc) (nodeL w b bg 7 (sn : Int)) c [(G, R, E), (G ++ [gAll [bg, (sn : Int)]], R, E), ((G ++ [gAll [bg, (sn : Int)]]) ++ A.G, R ++ A.R, E ++ A.E)] k w' → w'.cell? ⟨w.heap.size, 0, none⟩ = some (.pointer (some ⟨b, 0, none⟩)) from fun k w' h => h.cell (g := w.heap.size) (T := 72) (cs := [.pointer (some ⟨b, 0, none⟩)]) (by simp) 0)
    have C5d := Lib.hid (show ∀ k w', InvT w w0.heap.size b (.slice (some ⟨pb, poff, none⟩) n pc) (nodeL w b bg 7 (sn : Int)) c [(G, R, E), (G ++ [gAll [bg, (sn : Int)]], R, E), ((G ++ [gAll [bg, (sn : Int)]]) ++ A.G, R ++ A.R, E ++ A.E)] k w' → w'.cell? ⟨w.heap.size + 1, 0, none⟩ = some (I bg) from fun k w' h => h.cell (g := w.heap.size + 1) (T := 3) (cs := [I bg]) (by simp) 0)
    refine wp_flow7 9 1 [6, 7] [] (RelF b) (InvT w w0.heap.size b (.slice (some ⟨pb, poff, none⟩) n pc) (nodeL w b bg 7 (sn : Int)) c [(G, R, E), (G ++ [gAll [bg, (sn : Int)]], R, E), ((G ++ [gAll [bg, (sn : Int)]]) ++ A.G, R ++ A.R, E ++ A.E)]) [isV (.pointer (some ⟨b, 0, none⟩)), isV (.int .i64 ((k : Int) + 1)), isV (.pointer (some ⟨b, 0, none⟩)), isV (I bg), isV (.int .i64 ((sn : Int))), fun v w => ∃ gz, v = .slice (some ⟨gz, 0, none⟩) 2 2 ∧ ArgP w w0.heap.size b (.slice (some ⟨gz, 0, none⟩) 2 2) [bg, (sn : Int)], isV (.int .i64 ((G.length : Int))), isV (.agg #[I (A.over), I (A.some)]), fun v w => ∃ gz, v = .pointer (some ⟨gz, 0, none⟩) ∧ Box w gz 81 [I 0, I 0] ∧ ¬ FootW b w gz ∧ w9.heap.size ≤ gz] (by kernel_rfl) rfl rfl (by kernel_rfl) (by kernel_rfl) (by kernel_rfl) (RelF.refl b _) (fun _ _ _ h k => RelF.trans h k) (fun k w' w'' h hx => InvT.ext h hx) ⟨rv2, es2, HI2.out⟩ ⟨.inr (fun _ _ _ h _ => h), .inr (fun _ _ _ h _ => h), .inr (fun _ _ _ h _ => h), .inr (fun _ _ _ h _ => h), .inr (fun _ _ _ h _ => h), .inr (fun v w w' ⟨g, e, h⟩ hr => ⟨g, e, h.rel hr⟩), .inr (fun _ _ _ h _ => h), .inr (fun _ _ _ h _ => h), .inr (fun v w w' ⟨g, e, h1, h2, h3⟩ hr => ⟨g, e, (hr.box h1 h2).1, (hr.box h1 h2).2, h3⟩), trivial⟩ ?each ?rest
    case each =>
      refine .light rfl ?_ (.light rfl ?_ (.light rfl ?_ (.light rfl ?_ (.light rfl ?_ (.light rfl ?_ (.heavy 0 rfl ?_ (.heavy 1 rfl ?_ (.light rfl ?_ (.nil)))))))))
      · intro fa fw fk hr hinv hs hb
        have s3 : fa.tmps[(3 : Nat)]? = some (.pointer (some ⟨w.heap.size, 0, none⟩)) := (hb 3 (by kernel_rfl)).trans (by rfl)
        have c0 := C3d.out _ fw hinv
        refine .inl ⟨wanted_free rfl, fun K hK => ?_⟩
        clear hs hb hr hinv
        go_simp
        exact hK _ _ rfl (Ext.refl _)
      · intro fa fw fk hr hinv hs hb
        have s15 : fa.tmps[(15 : Nat)]? = some (.int .i64 ((k : Int) + 1)) := (hb 15 (by kernel_rfl)).trans (by rfl)
        refine .inl ⟨wanted_free rfl, fun K hK => ?_⟩
        clear hs hb hr hinv
        go_simp
        exact hK _ _ rfl (Ext.refl _)
      · intro fa fw fk hr hinv hs hb
        have s3 : fa.tmps[(3 : Nat)]? = some (.pointer (some ⟨w.heap.size, 0, none⟩)) := (hb 3 (by kernel_rfl)).trans (by rfl)
        have c0 := C3d.out _ fw hinv
        refine .inl ⟨wanted_free rfl, fun K hK => ?_⟩
        clear hs hb hr hinv
        go_simp
        exact hK _ _ rfl (Ext.refl _)
      · intro fa fw fk hr hinv hs hb
        have s5 : fa.tmps[(5 : Nat)]? = some (.pointer (some ⟨w.heap.size + 1, 0, none⟩)) := (hb 5 (by kernel_rfl)).trans (by rfl)
        have c0 := C5d.out _ fw hinv
        refine .inl ⟨wanted_free rfl, fun K hK => ?_⟩
        clear hs hb hr hinv
        go_simp
        exact hK _ _ rfl (Ext.refl _)
      · intro fa fw fk hr hinv hs hb
        have s23 : fa.tmps[(23 : Nat)]? = some (.int .i64 ((sn : Int))) := (hb 23 (by kernel_rfl)).trans (by rfl)
        refine .inl ⟨wanted_free rfl, fun K hK => ?_⟩
        clear hs hb hr hinv
        go_simp
        exact hK _ _ rfl (Ext.refl _)
      · intro fa fw fk hr hinv hs hb
        obtain ⟨_, s246, rfl⟩ := hs 3 246 (by kernel_rfl) (by kernel_rfl)
        obtain ⟨_, s247, rfl⟩ := hs 4 247 (by kernel_rfl) (by kernel_rfl)
        refine .inl ⟨wanted_free rfl, fun K hK => ?_⟩
        clear hs hb
        go_simp
        obtain ⟨rvx, esx, hsx⟩ := hinv.sm
        exact hK _ _ ⟨fw.heap.size, rfl, ArgP.new hsx [bg, (sn : Int)] _ rfl (by simp)⟩ ((Ext.refl _).alloc _)
      · intro fa fw hr hinv hs hb
        obtain ⟨_, s245, rfl⟩ := hs 2 245 (by kernel_rfl) (by kernel_rfl)
        obtain ⟨_, s248, b248, rfl, k248⟩ := hs 5 248 (by kernel_rfl) (by kernel_rfl)
        refine ⟨wanted_free rfl, fun K hK => ?_⟩
        clear hs hb
        go_simp
        obtain ⟨rvx, esx, hix⟩ := hinv
        refine (sall_any hix.sm _ [bg, (sn : Int)] k248 (by show G.length ≤ 1000; have := HGL.out; omega)).mono ?_
        rintro e w' ⟨rfl, hm⟩
        have hq := hix.step hm
        rw [show (nthT [(G, R, E), (G ++ [gAll [bg, (sn : Int)]], R, E), ((G ++ [gAll [bg, (sn : Int)]]) ++ A.G, R ++ A.R, E ++ A.E)] 0).1.length = G.length from rfl]
        exact hK _ _ rfl hm.rel ⟨rvx, esx, hq⟩
      · intro fa fw hr hinv hs hb
        obtain ⟨_, s243, rfl⟩ := hs 0 243 (by kernel_rfl) (by kernel_rfl)
        obtain ⟨_, s244, rfl⟩ := hs 1 244 (by kernel_rfl) (by kernel_rfl)
        obtain ⟨_, s249, rfl⟩ := hs 6 249 (by kernel_rfl) (by kernel_rfl)
        refine ⟨wanted_free rfl, fun K hK => ?_⟩
        clear hs hb
        go_simp
        obtain ⟨rvx, esx, hix⟩ := hinv
        refine (CA.out fw rvx esx (Below.trans HX.out hix.be) hix.sm).mono ?_
        rintro e w' ⟨rvy, esy, rfl, hm⟩
        have hq := hix.step hm
        exact hK _ _ rfl hm.rel ⟨rvy, esy, hq⟩
      · intro fa fw fk hr hinv hs hb
        refine .inl ⟨wanted_free rfl, fun K hK => ?_⟩
        clear hs hb
        go_simp
        obtain ⟨rvx, esx, hsx⟩ := hinv.sm
        exact hK _ _ ⟨fw.heap.size, rfl, Box.new fw _ _, hsx.fresh ((Ext.refl _).alloc _) (Nat.le_refl _), hr.1⟩ ((Ext.refl _).alloc _)
    case rest =>
      intro w9 hrw9 hiw9
      rintro _ rfl
      rintro _ rfl
      rintro _ rfl
      rintro _ rfl
      rintro _ rfl
      rintro _ ⟨b248, rfl, k248⟩
      rintro _ rfl
      rintro _ rfl
      rintro _ ⟨b24, rfl, k24, n24, z24⟩
      simp only [putAll, List.take, Act.put, List.setIfInBounds_toArray, List.set_cons_zero, List.set_cons_succ]
      obtain ⟨rv9, es9, hi9⟩ := hiw9
      have z0 := k24.cell 0; have z1 := k24.cell 1; have f6 := k24.free
      simp only [List.getElem?_cons_zero, List.getElem?_cons_succ] at z0 z1
      have hi10 := hi9.box2 HBS.out k24 n24 (by have h1 := HI2.out.re.1; have h2 := z24; omega) (fun z hz => by have h1 := (HI2.out.lo z hz).1.lt; have h2 := z24; omega) (I (A.over)) (I (A.some))
      have HI10 := Lib.hid hi10
      clear hi9 hi10 k24 n24 z24 hrw9
      refine wpAny_ready (rs := [9]) (by kernel_rfl) (by simp) (AllReady.cons rfl (fun KK hKK => ?_) AllReady.nil)
      go_simp
      refine hKK _ _ ?_
      clear hKK KK z0 z1 f6
      refine wpAny_done (by kernel_rfl) ?_ _
      obtain ⟨w11, hw11⟩ : ∃ q, q = (w9.setCell ⟨b24, 0, none⟩ (I (A.over))).setCell ⟨b24, 1, none⟩ (I (A.some)) := ⟨_, rfl⟩
      rw [← hw11]
      have hi11 : NodeI w w0.heap.size b 3 (.slice (some ⟨pb, poff, none⟩) n pc) ((b24, 81, [I (A.over), I (A.some)]) :: (nodeL w b bg 7 (sn : Int))) (stN c rv9 es9 ((G ++ [gAll [bg, (sn : Int)]]) ++ A.G) (R ++ A.R) (E ++ A.E)) w11 := by rw [hw11]; exact HI10.out
      clear hw11 HI10
      have HI11 := Lib.hid hi11
      clear hi11
      have LA : Hid (((G ++ [gAll [bg, (sn : Int)]]) ++ A.G).length = qa) := by unfold Hid; rw [HQA.out]; simp only [List.length_append, List.length_cons, List.length_nil]
      have EB : Hid (((((G ++ [gAll [bg, (sn : Int)]]) ++ A.G) ++ [gNot ((sn : Int))]) ++ [gAll [bg, (qa : Int)]]) = ((G ++ [gAll [bg, (sn : Int)]]) ++ A.G) ++ [gNot ((sn : Int)), gAll [bg, (qa : Int)]]) := by unfold Hid; simp only [List.append_assoc, List.cons_append, List.nil_append]
      have CB2 : Hid (∀ (w' : World) (rvx : Value) (esx : List Value), Ext w0 w' → SmithP w' w0.heap.size b 3 (.slice (some ⟨pb, poff, none⟩) n pc) (stN c rvx esx ((((G ++ [gAll [bg, (sn : Int)]]) ++ A.G) ++ [gNot ((sn : Int))]) ++ [gAll [bg, (qa : Int)]]) (R ++ A.R) (E ++ A.E)) → Calls Try.prog 39 #[.pointer (some ⟨b, 0, none⟩), .int .i64 ((k : Int) + 1 + ta.size), I ((qa : Int) + 1)] w' fun e w'' => ∃ rv' es', e = .returned (.agg #[I B.over, I B.some]) ∧ MadeP w' w'' w0.heap.size b 3 (.slice (some ⟨pb, poff, none⟩) n pc) (stN c rv' es' ((((G ++ [gAll [bg, (sn : Int)]]) ++ A.G) ++ [gNot ((sn : Int)), gAll [bg, (qa : Int)]]) ++ B.G) ((R ++ A.R) ++ B.R) ((E ++ A.E) ++ B.E))) := by
        unfold Hid; rw [EB.out]; exact CB.out
      have C3e := Lib.hid (show ∀ k w', InvT w w0.heap.size b (.slice (some ⟨pb, poff, none⟩) n pc) ((b24, 81, [I (A.over), I (A.some)]) :: (nodeL w b bg 7 (sn : Int))) c [((G ++ [gAll [bg, (sn : Int)]]) ++ A.G, R ++ A.R, E ++ A.E), (((G ++ [gAll [bg, (sn : Int)]]) ++ A.G) ++ [gNot ((sn : Int))], R ++ A.R, E ++ A.E), ((((G ++ [gAll [bg, (sn : Int)]]) ++ A.G) ++ [gNot ((sn : Int))]) ++ [gAll [bg, (qa : Int)]], R ++ A.R, E ++ A.E), ((((G ++ [gAll [bg, (sn : Int)]]) ++ A.G) ++ [gNot ((sn : Int)), gAll [bg, (qa : Int)]]) ++ B.G, (R ++ A.R) ++ B.R, (E ++ A.E) ++ B.E)] k w' → w'.cell? ⟨w.heap.size, 0, none⟩ = some (.pointer (some ⟨b, 0, none⟩)) from fun k w' h => h.cell (g := w.heap.size) (T := 72) (cs := [.pointer (some ⟨b, 0, none⟩)]) (by simp) 0)
      have C5e := Lib.hid (show ∀ k w', InvT w w0.heap.size b (.slice (some ⟨pb, poff, none⟩) n pc) ((b24, 81, [I (A.over), I (A.some)]) :: (nodeL w b bg 7 (sn : Int))) c [((G ++ [gAll [bg, (sn : Int)]]) ++ A.G, R ++ A.R, E ++ A.E), (((G ++ [gAll [bg, (sn : Int)]]) ++ A.G) ++ [gNot ((sn : Int))], R ++ A.R, E ++ A.E), ((((G ++ [gAll [bg, (sn : Int)]]) ++ A.G) ++ [gNot ((sn : Int))]) ++ [gAll [bg, (qa : Int)]], R ++ A.R, E ++ A.E), ((((G ++ [gAll [bg, (sn : Int)]]) ++ A.G) ++ [gNot ((sn : Int)), gAll [bg, (qa : Int)]]) ++ B.G, (R ++ A.R) ++ B.R, (E ++ A.E) ++ B.E)] k w' → w'.cell? ⟨w.heap.size + 1, 0, none⟩ = some (I bg) from fun k w' h => h.cell (g := w.heap.size + 1) (T := 3) (cs := [I bg]) (by simp) 0)
      go_upto_region 35 with fail
      refine wp_flow7 11 1 [6, 8, 9] [] (RelF b) (InvT w w0.heap.size b (.slice (some ⟨pb, poff, none⟩) n pc) ((b24, 81, [I (A.over), I (A.some)]) :: (nodeL w b bg 7 (sn : Int))) c [((G ++ [gAll [bg, (sn : Int)]]) ++ A.G, R ++ A.R, E ++ A.E), (((G ++ [gAll [bg, (sn : Int)]]) ++ A.G) ++ [gNot ((sn : Int))], R ++ A.R, E ++ A.E), ((((G ++ [gAll [bg, (sn : Int)]]) ++ A.G) ++ [gNot ((sn : Int))]) ++ [gAll [bg, (qa : Int)]], R ++ A.R, E ++ A.E), ((((G ++ [gAll [bg, (sn : Int)]]) ++ A.G) ++ [gNot ((sn : Int)), gAll [bg, (qa : Int)]]) ++ B.G, (R ++ A.R) ++ B.R, (E ++ A.E) ++ B.E)]) [isV (.pointer (some ⟨b, 0, none⟩)), isV (.int .i64 ((k : Int) + 1 + ta.size)), isV (.pointer (some ⟨b, 0, none⟩)), isV (I bg), isV (.pointer (some ⟨b, 0, none⟩)), isV (.int .i64 ((sn : Int))), isV (.int .i64 ((qa : Int))), fun v w => ∃ gz, v = .slice (some ⟨gz, 0, none⟩) 2 2 ∧ ArgP w w0.heap.size b (.slice (some ⟨gz, 0, none⟩) 2 2) [bg, (qa : Int)], isV (.int .i64 ((qa : Int) + 1)), isV (.agg #[I (B.over), I (B.some)]), fun v w => ∃ gz, v = .pointer (some ⟨gz, 0, none⟩) ∧ Box w gz 81 [I 0, I 0] ∧ ¬ FootW b w gz ∧ w11.heap.size ≤ gz] (by kernel_rfl) rfl rfl (by kernel_rfl) (by kernel_rfl) (by kernel_rfl) (RelF.refl b _) (fun _ _ _ h k => RelF.trans h k) (fun k w' w'' h hx => InvT.ext h hx) ⟨_, _, HI11.out⟩ ⟨.inr (fun _ _ _ h _ => h), .inr (fun _ _ _ h _ => h), .inr (fun _ _ _ h _ => h), .inr (fun _ _ _ h _ => h), .inr (fun _ _ _ h _ => h), .inr (fun _ _ _ h _ => h), .inr (fun _ _ _ h _ => h), .inr (fun v w w' ⟨g, e, h⟩ hr => ⟨g, e, h.rel hr⟩), .inr (fun _ _ _ h _ => h), .inr (fun _ _ _ h _ => h), .inr (fun v w w' ⟨g, e, h1, h2, h3⟩ hr => ⟨g, e, (hr.box h1 h2).1, (hr.box h1 h2).2, h3⟩), trivial⟩ ?each ?rest
      case each =>
        refine .light rfl ?_ (.light rfl ?_ (.light rfl ?_ (.light rfl ?_ (.light rfl ?_ (.light rfl ?_ (.heavy 0 rfl ?_ (.light rfl ?_ (.heavy 1 rfl ?_ (.heavy 2 rfl ?_ (.light rfl ?_ (.nil)))))))))))
        · intro fa fw fk hr hinv hs hb
          have s3 : fa.tmps[(3 : Nat)]? = some (.pointer (some ⟨w.heap.size, 0, none⟩)) := (hb 3 (by kernel_rfl)).trans (by rfl)
          have c0 := C3e.out _ fw hinv
          refine .inl ⟨wanted_free rfl, fun K hK => ?_⟩
          clear hs hb hr hinv
          go_simp
          exact hK _ _ rfl (Ext.refl _)
        · intro fa fw fk hr hinv hs hb
          have s16 : fa.tmps[(16 : Nat)]? = some (.int .i64 ((k : Int) + 1 + ta.size)) := (hb 16 (by kernel_rfl)).trans (by rfl)
          refine .inl ⟨wanted_free rfl, fun K hK => ?_⟩
          clear hs hb hr hinv
          go_simp
          exact hK _ _ rfl (Ext.refl _)
        · intro fa fw fk hr hinv hs hb
          have s3 : fa.tmps[(3 : Nat)]? = some (.pointer (some ⟨w.heap.size, 0, none⟩)) := (hb 3 (by kernel_rfl)).trans (by rfl)
          have c0 := C3e.out _ fw hinv
          refine .inl ⟨wanted_free rfl, fun K hK => ?_⟩
          clear hs hb hr hinv
          go_simp
          exact hK _ _ rfl (Ext.refl _)
        · intro fa fw fk hr hinv hs hb
          have s5 : fa.tmps[(5 : Nat)]? = some (.pointer (some ⟨w.heap.size + 1, 0, none⟩)) := (hb 5 (by kernel_rfl)).trans (by rfl)
          have c0 := C5e.out _ fw hinv
          refine .inl ⟨wanted_free rfl, fun K hK => ?_⟩
          clear hs hb hr hinv
          go_simp
          exact hK _ _ rfl (Ext.refl _)
        · intro fa fw fk hr hinv hs hb
          have s3 : fa.tmps[(3 : Nat)]? = some (.pointer (some ⟨w.heap.size, 0, none⟩)) := (hb 3 (by kernel_rfl)).trans (by rfl)
          have c0 := C3e.out _ fw hinv
          refine .inl ⟨wanted_free rfl, fun K hK => ?_⟩
          clear hs hb hr hinv
          go_simp
          exact hK _ _ rfl (Ext.refl _)
        · intro fa fw fk hr hinv hs hb
          have s23 : fa.tmps[(23 : Nat)]? = some (.int .i64 ((sn : Int))) := (hb 23 (by kernel_rfl)).trans (by rfl)
          refine .inl ⟨wanted_free rfl, fun K hK => ?_⟩
          clear hs hb hr hinv
          go_simp
          exact hK _ _ rfl (Ext.refl _)
        · intro fa fw hr hinv hs hb
          obtain ⟨_, s255, rfl⟩ := hs 4 255 (by kernel_rfl) (by kernel_rfl)
          obtain ⟨_, s256, rfl⟩ := hs 5 256 (by kernel_rfl) (by kernel_rfl)
          refine ⟨wanted_free rfl, fun K hK => ?_⟩
          clear hs hb
          go_simp
          obtain ⟨rvx, esx, hix⟩ := hinv
          refine (snot_any hix.sm ((sn : Int)) (by show ((G ++ [gAll [bg, (sn : Int)]]) ++ A.G).length ≤ 1000; have := LA.out; have := HQAB.out; omega)).mono ?_
          rintro e w' ⟨rfl, hm⟩
          have hq := hix.step hm
          rw [show (nthT [((G ++ [gAll [bg, (sn : Int)]]) ++ A.G, R ++ A.R, E ++ A.E), (((G ++ [gAll [bg, (sn : Int)]]) ++ A.G) ++ [gNot ((sn : Int))], R ++ A.R, E ++ A.E), ((((G ++ [gAll [bg, (sn : Int)]]) ++ A.G) ++ [gNot ((sn : Int))]) ++ [gAll [bg, (qa : Int)]], R ++ A.R, E ++ A.E), ((((G ++ [gAll [bg, (sn : Int)]]) ++ A.G) ++ [gNot ((sn : Int)), gAll [bg, (qa : Int)]]) ++ B.G, (R ++ A.R) ++ B.R, (E ++ A.E) ++ B.E)] 0).1.length = qa from LA.out]
          exact hK _ _ rfl hm.rel ⟨rvx, esx, hq⟩
        · intro fa fw fk hr hinv hs hb
          obtain ⟨_, s254, rfl⟩ := hs 3 254 (by kernel_rfl) (by kernel_rfl)
          obtain ⟨_, s257, rfl⟩ := hs 6 257 (by kernel_rfl) (by kernel_rfl)
          refine .inl ⟨wanted_free rfl, fun K hK => ?_⟩
          clear hs hb
          go_simp
          obtain ⟨rvx, esx, hsx⟩ := hinv.sm
          exact hK _ _ ⟨fw.heap.size, rfl, ArgP.new hsx [bg, (qa : Int)] _ rfl (by simp)⟩ ((Ext.refl _).alloc _)
        · intro fa fw hr hinv hs hb
          obtain ⟨_, s253, rfl⟩ := hs 2 253 (by kernel_rfl) (by kernel_rfl)
          obtain ⟨_, s258, b258, rfl, k258⟩ := hs 7 258 (by kernel_rfl) (by kernel_rfl)
          refine ⟨wanted_free rfl, fun K hK => ?_⟩
          clear hs hb
          go_simp
          obtain ⟨rvx, esx, hix⟩ := hinv
          refine (sall_any hix.sm _ [bg, (qa : Int)] k258 (by show (((G ++ [gAll [bg, (sn : Int)]]) ++ A.G) ++ [gNot ((sn : Int))]).length ≤ 1000; have := HQAB.out; rw [List.length_append, LA.out]; simp only [List.length_cons, List.length_nil]; omega)).mono ?_
          rintro e w' ⟨rfl, hm⟩
          have hq := hix.step hm
          rw [show (nthT [((G ++ [gAll [bg, (sn : Int)]]) ++ A.G, R ++ A.R, E ++ A.E), (((G ++ [gAll [bg, (sn : Int)]]) ++ A.G) ++ [gNot ((sn : Int))], R ++ A.R, E ++ A.E), ((((G ++ [gAll [bg, (sn : Int)]]) ++ A.G) ++ [gNot ((sn : Int))]) ++ [gAll [bg, (qa : Int)]], R ++ A.R, E ++ A.E), ((((G ++ [gAll [bg, (sn : Int)]]) ++ A.G) ++ [gNot ((sn : Int)), gAll [bg, (qa : Int)]]) ++ B.G, (R ++ A.R) ++ B.R, (E ++ A.E) ++ B.E)] 1).1.length = qa + 1 from by show (((G ++ [gAll [bg, (sn : Int)]]) ++ A.G) ++ [gNot ((sn : Int))]).length = qa + 1; rw [List.length_append, LA.out]; rfl]
          exact hK _ _ rfl hm.rel ⟨rvx, esx, hq⟩
        · intro fa fw hr hinv hs hb
          obtain ⟨_, s251, rfl⟩ := hs 0 251 (by kernel_rfl) (by kernel_rfl)
          obtain ⟨_, s252, rfl⟩ := hs 1 252 (by kernel_rfl) (by kernel_rfl)
          obtain ⟨_, s259, rfl⟩ := hs 8 259 (by kernel_rfl) (by kernel_rfl)
          refine ⟨wanted_free rfl, fun K hK => ?_⟩
          clear hs hb
          go_simp
          obtain ⟨rvx, esx, hix⟩ := hinv
          refine (CB2.out fw rvx esx (Below.trans HX.out hix.be) hix.sm).mono ?_
          rintro e w' ⟨rvy, esy, rfl, hm⟩
          have hq := hix.step hm
          exact hK _ _ rfl hm.rel ⟨rvy, esy, hq⟩
        · intro fa fw fk hr hinv hs hb
          refine .inl ⟨wanted_free rfl, fun K hK => ?_⟩
          clear hs hb
          go_simp
          obtain ⟨rvx, esx, hsx⟩ := hinv.sm
          exact hK _ _ ⟨fw.heap.size, rfl, Box.new fw _ _, hsx.fresh ((Ext.refl _).alloc _) (Nat.le_refl _), hr.1⟩ ((Ext.refl _).alloc _)
      case rest =>
        intro w9 hrw9 hiw9
        rintro _ rfl
        rintro _ rfl
        rintro _ rfl
        rintro _ rfl
        rintro _ rfl
        rintro _ rfl
        rintro _ rfl
        rintro _ ⟨b258, rfl, k258⟩
        rintro _ rfl
        rintro _ rfl
        rintro _ ⟨b25, rfl, k25, n25, z25⟩
        simp only [putAll, List.take, Act.put, List.setIfInBounds_toArray, List.set_cons_zero, List.set_cons_succ]
        obtain ⟨rv9, es9, hi9⟩ := hiw9
        have z0 := k25.cell 0; have z1 := k25.cell 1; have f6 := k25.free
        simp only [List.getElem?_cons_zero, List.getElem?_cons_succ] at z0 z1
        have hi10 := hi9.box2 HBS.out k25 n25 (by have h1 := HI11.out.re.1; have h2 := z25; omega) (fun z hz => by have h1 := (HI11.out.lo z hz).1.lt; have h2 := z25; omega) (I (B.over)) (I (B.some))
        have HI10 := Lib.hid hi10
        clear hi9 hi10 k25 n25 z25 hrw9
        refine wpAny_ready (rs := [11]) (by kernel_rfl) (by simp) (AllReady.cons rfl (fun KK hKK => ?_) AllReady.nil)
        go_simp
        refine hKK _ _ ?_
        clear hKK KK z0 z1 f6
        refine wpAny_done (by kernel_rfl) ?_ _
        obtain ⟨w12, hw12⟩ : ∃ q, q = (w9.setCell ⟨b25, 0, none⟩ (I (B.over))).setCell ⟨b25, 1, none⟩ (I (B.some)) := ⟨_, rfl⟩
        rw [← hw12]
        have hi12 : NodeI w w0.heap.size b 3 (.slice (some ⟨pb, poff, none⟩) n pc) ((b25, 81, [I (B.over), I (B.some)]) :: ((b24, 81, [I (A.over), I (A.some)]) :: (nodeL w b bg 7 (sn : Int)))) (stN c rv9 es9 ((((G ++ [gAll [bg, (sn : Int)]]) ++ A.G) ++ [gNot ((sn : Int)), gAll [bg, (qa : Int)]]) ++ B.G) ((R ++ A.R) ++ B.R) ((E ++ A.E) ++ B.E)) w12 := by rw [hw12]; exact HI10.out
        clear hw12 HI10
        have HI12 := Lib.hid hi12
        clear hi12
        have C3f := Lib.hid (show ∀ k w', InvT w w0.heap.size b (.slice (some ⟨pb, poff, none⟩) n pc) ((b25, 81, [I (B.over), I (B.some)]) :: ((b24, 81, [I (A.over), I (A.some)]) :: (nodeL w b bg 7 (sn : Int)))) c [((((G ++ [gAll [bg, (sn : Int)]]) ++ A.G) ++ [gNot ((sn : Int)), gAll [bg, (qa : Int)]]) ++ B.G, (R ++ A.R) ++ B.R, (E ++ A.E) ++ B.E), (((((G ++ [gAll [bg, (sn : Int)]]) ++ A.G) ++ [gNot ((sn : Int)), gAll [bg, (qa : Int)]]) ++ B.G) ++ [gAny [A.over, B.over]], (R ++ A.R) ++ B.R, (E ++ A.E) ++ B.E), ((((((G ++ [gAll [bg, (sn : Int)]]) ++ A.G) ++ [gNot ((sn : Int)), gAll [bg, (qa : Int)]]) ++ B.G) ++ [gAny [A.over, B.over]]) ++ [gAny [A.some, B.some]], (R ++ A.R) ++ B.R, (E ++ A.E) ++ B.E)] k w' → w'.cell? ⟨w.heap.size, 0, none⟩ = some (.pointer (some ⟨b, 0, none⟩)) from fun k w' h => h.cell (g := w.heap.size) (T := 72) (cs := [.pointer (some ⟨b, 0, none⟩)]) (by simp) 0)
        have C5f := Lib.hid (show ∀ k w', InvT w w0.heap.size b (.slice (some ⟨pb, poff, none⟩) n pc) ((b25, 81, [I (B.over), I (B.some)]) :: ((b24, 81, [I (A.over), I (A.some)]) :: (nodeL w b bg 7 (sn : Int)))) c [((((G ++ [gAll [bg, (sn : Int)]]) ++ A.G) ++ [gNot ((sn : Int)), gAll [bg, (qa : Int)]]) ++ B.G, (R ++ A.R) ++ B.R, (E ++ A.E) ++ B.E), (((((G ++ [gAll [bg, (sn : Int)]]) ++ A.G) ++ [gNot ((sn : Int)), gAll [bg, (qa : Int)]]) ++ B.G) ++ [gAny [A.over, B.over]], (R ++ A.R) ++ B.R, (E ++ A.E) ++ B.E), ((((((G ++ [gAll [bg, (sn : Int)]]) ++ A.G) ++ [gNot ((sn : Int)), gAll [bg, (qa : Int)]]) ++ B.G) ++ [gAny [A.over, B.over]]) ++ [gAny [A.some, B.some]], (R ++ A.R) ++ B.R, (E ++ A.E) ++ B.E)] k w' → w'.cell? ⟨w.heap.size + 1, 0, none⟩ = some (I bg) from fun k w' h => h.cell (g := w.heap.size + 1) (T := 3) (cs := [I bg]) (by simp) 0)
        have P0a := Lib.hid (show ∀ k w', InvT w w0.heap.size b (.slice (some ⟨pb, poff, none⟩) n pc) ((b25, 81, [I (B.over), I (B.some)]) :: ((b24, 81, [I (A.over), I (A.some)]) :: (nodeL w b bg 7 (sn : Int)))) c [((((G ++ [gAll [bg, (sn : Int)]]) ++ A.G) ++ [gNot ((sn : Int)), gAll [bg, (qa : Int)]]) ++ B.G, (R ++ A.R) ++ B.R, (E ++ A.E) ++ B.E), (((((G ++ [gAll [bg, (sn : Int)]]) ++ A.G) ++ [gNot ((sn : Int)), gAll [bg, (qa : Int)]]) ++ B.G) ++ [gAny [A.over, B.over]], (R ++ A.R) ++ B.R, (E ++ A.E) ++ B.E), ((((((G ++ [gAll [bg, (sn : Int)]]) ++ A.G) ++ [gNot ((sn : Int)), gAll [bg, (qa : Int)]]) ++ B.G) ++ [gAny [A.over, B.over]]) ++ [gAny [A.some, B.some]], (R ++ A.R) ++ B.R, (E ++ A.E) ++ B.E)] k w' → w'.cell? ⟨b24, 0, none⟩ = some (I (A.over)) from fun k w' h => h.cell (g := b24) (T := 81) (cs := [I (A.over), I (A.some)]) (by simp) 0)
        have P1a := Lib.hid (show ∀ k w', InvT w w0.heap.size b (.slice (some ⟨pb, poff, none⟩) n pc) ((b25, 81, [I (B.over), I (B.some)]) :: ((b24, 81, [I (A.over), I (A.some)]) :: (nodeL w b bg 7 (sn : Int)))) c [((((G ++ [gAll [bg, (sn : Int)]]) ++ A.G) ++ [gNot ((sn : Int)), gAll [bg, (qa : Int)]]) ++ B.G, (R ++ A.R) ++ B.R, (E ++ A.E) ++ B.E), (((((G ++ [gAll [bg, (sn : Int)]]) ++ A.G) ++ [gNot ((sn : Int)), gAll [bg, (qa : Int)]]) ++ B.G) ++ [gAny [A.over, B.over]], (R ++ A.R) ++ B.R, (E ++ A.E) ++ B.E), ((((((G ++ [gAll [bg, (sn : Int)]]) ++ A.G) ++ [gNot ((sn : Int)), gAll [bg, (qa : Int)]]) ++ B.G) ++ [gAny [A.over, B.over]]) ++ [gAny [A.some, B.some]], (R ++ A.R) ++ B.R, (E ++ A.E) ++ B.E)] k w' → w'.cell? ⟨b24, 1, none⟩ = some (I (A.some)) from fun k w' h => h.cell (g := b24) (T := 81) (cs := [I (A.over), I (A.some)]) (by simp) 1)
        have P0b := Lib.hid (show ∀ k w', InvT w w0.heap.size b (.slice (some ⟨pb, poff, none⟩) n pc) ((b25, 81, [I (B.over), I (B.some)]) :: ((b24, 81, [I (A.over), I (A.some)]) :: (nodeL w b bg 7 (sn : Int)))) c [((((G ++ [gAll [bg, (sn : Int)]]) ++ A.G) ++ [gNot ((sn : Int)), gAll [bg, (qa : Int)]]) ++ B.G, (R ++ A.R) ++ B.R, (E ++ A.E) ++ B.E), (((((G ++ [gAll [bg, (sn : Int)]]) ++ A.G) ++ [gNot ((sn : Int)), gAll [bg, (qa : Int)]]) ++ B.G) ++ [gAny [A.over, B.over]], (R ++ A.R) ++ B.R, (E ++ A.E) ++ B.E), ((((((G ++ [gAll [bg, (sn : Int)]]) ++ A.G) ++ [gNot ((sn : Int)), gAll [bg, (qa : Int)]]) ++ B.G) ++ [gAny [A.over, B.over]]) ++ [gAny [A.some, B.some]], (R ++ A.R) ++ B.R, (E ++ A.E) ++ B.E)] k w' → w'.cell? ⟨b25, 0, none⟩ = some (I (B.over)) from fun k w' h => h.cell (g := b25) (T := 81) (cs := [I (B.over), I (B.some)]) (by simp) 0)
        have P1b := Lib.hid (show ∀ k w', InvT w w0.heap.size b (.slice (some ⟨pb, poff, none⟩) n pc) ((b25, 81, [I (B.over), I (B.some)]) :: ((b24, 81, [I (A.over), I (A.some)]) :: (nodeL w b bg 7 (sn : Int)))) c [((((G ++ [gAll [bg, (sn : Int)]]) ++ A.G) ++ [gNot ((sn : Int)), gAll [bg, (qa : Int)]]) ++ B.G, (R ++ A.R) ++ B.R, (E ++ A.E) ++ B.E), (((((G ++ [gAll [bg, (sn : Int)]]) ++ A.G) ++ [gNot ((sn : Int)), gAll [bg, (qa : Int)]]) ++ B.G) ++ [gAny [A.over, B.over]], (R ++ A.R) ++ B.R, (E ++ A.E) ++ B.E), ((((((G ++ [gAll [bg, (sn : Int)]]) ++ A.G) ++ [gNot ((sn : Int)), gAll [bg, (qa : Int)]]) ++ B.G) ++ [gAny [A.over, B.over]]) ++ [gAny [A.some, B.some]], (R ++ A.R) ++ B.R, (E ++ A.E) ++ B.E)] k w' → w'.cell? ⟨b25, 1, none⟩ = some (I (B.some)) from fun k w' h => h.cell (g := b25) (T := 81) (cs := [I (B.over), I (B.some)]) (by simp) 1)
        have LQ : Hid (((((G ++ [gAll [bg, (sn : Int)]]) ++ A.G) ++ [gNot ((sn : Int)), gAll [bg, (qa : Int)]]) ++ B.G).length = q) := by unfold Hid; rw [HQ.out, List.length_append]
        go_upto_region 36 with fail
        refine wp_flow7 15 1 [6, 13] [] (RelF b) (InvT w w0.heap.size b (.slice (some ⟨pb, poff, none⟩) n pc) ((b25, 81, [I (B.over), I (B.some)]) :: ((b24, 81, [I (A.over), I (A.some)]) :: (nodeL w b bg 7 (sn : Int)))) c [((((G ++ [gAll [bg, (sn : Int)]]) ++ A.G) ++ [gNot ((sn : Int)), gAll [bg, (qa : Int)]]) ++ B.G, (R ++ A.R) ++ B.R, (E ++ A.E) ++ B.E), (((((G ++ [gAll [bg, (sn : Int)]]) ++ A.G) ++ [gNot ((sn : Int)), gAll [bg, (qa : Int)]]) ++ B.G) ++ [gAny [A.over, B.over]], (R ++ A.R) ++ B.R, (E ++ A.E) ++ B.E), ((((((G ++ [gAll [bg, (sn : Int)]]) ++ A.G) ++ [gNot ((sn : Int)), gAll [bg, (qa : Int)]]) ++ B.G) ++ [gAny [A.over, B.over]]) ++ [gAny [A.some, B.some]], (R ++ A.R) ++ B.R, (E ++ A.E) ++ B.E)]) [isV (.pointer (some ⟨b, 0, none⟩)), isV (.pointer (some ⟨b24, 0, none⟩)), isV (I (A.over)), isV (.pointer (some ⟨b25, 0, none⟩)), isV (I (B.over)), fun v w => ∃ gz, v = .slice (some ⟨gz, 0, none⟩) 2 2 ∧ ArgP w w0.heap.size b (.slice (some ⟨gz, 0, none⟩) 2 2) [A.over, B.over], isV (.int .i64 ((q : Int))), isV (.pointer (some ⟨b, 0, none⟩)), isV (.pointer (some ⟨b24, 1, none⟩)), isV (I (A.some)), isV (.pointer (some ⟨b25, 1, none⟩)), isV (I (B.some)), fun v w => ∃ gz, v = .slice (some ⟨gz, 0, none⟩) 2 2 ∧ ArgP w w0.heap.size b (.slice (some ⟨gz, 0, none⟩) 2 2) [A.some, B.some], isV (.int .i64 ((q : Int) + 1)), isV (.agg #[.int .i64 ((q : Int)), .int .i64 ((q : Int) + 1)])] (by kernel_rfl) rfl rfl (by kernel_rfl) (by kernel_rfl) (by kernel_rfl) (RelF.refl b _) (fun _ _ _ h k => RelF.trans h k) (fun k w' w'' h hx => InvT.ext h hx) ⟨_, _, HI12.out⟩ ⟨.inr (fun _ _ _ h _ => h), .inr (fun _ _ _ h _ => h), .inr (fun _ _ _ h _ => h), .inr (fun _ _ _ h _ => h), .inr (fun _ _ _ h _ => h), .inr (fun v w w' ⟨g, e, h⟩ hr => ⟨g, e, h.rel hr⟩), .inr (fun _ _ _ h _ => h), .inr (fun _ _ _ h _ => h), .inr (fun _ _ _ h _ => h), .inr (fun _ _ _ h _ => h), .inr (fun _ _ _ h _ => h), .inr (fun _ _ _ h _ => h), .inr (fun v w w' ⟨g, e, h⟩ hr => ⟨g, e, h.rel hr⟩), .inr (fun _ _ _ h _ => h), .inr (fun _ _ _ h _ => h), trivial⟩ ?each ?rest
        case each =>
          refine .light rfl ?_ (.light rfl ?_ (.light rfl ?_ (.light rfl ?_ (.light rfl ?_ (.light rfl ?_ (.heavy 0 rfl ?_ (.light rfl ?_ (.light rfl ?_ (.light rfl ?_ (.light rfl ?_ (.light rfl ?_ (.light rfl ?_ (.heavy 1 rfl ?_ (.light rfl ?_ (.nil)))))))))))))))
          · intro fa fw fk hr hinv hs hb
            have s3 : fa.tmps[(3 : Nat)]? = some (.pointer (some ⟨w.heap.size, 0, none⟩)) := (hb 3 (by kernel_rfl)).trans (by rfl)
            have c0 := C3f.out _ fw hinv
            refine .inl ⟨wanted_free rfl, fun K hK => ?_⟩
            clear hs hb hr hinv
            go_simp
            exact hK _ _ rfl (Ext.refl _)
          · intro fa fw fk hr hinv hs hb
            have s24 : fa.tmps[(24 : Nat)]? = some (.pointer (some ⟨b24, 0, none⟩)) := (hb 24 (by kernel_rfl)).trans (by rfl)
            refine .inl ⟨wanted_free rfl, fun K hK => ?_⟩
            clear hs hb hr hinv
            go_simp
            exact hK _ _ rfl (Ext.refl _)
          · intro fa fw fk hr hinv hs hb
            obtain ⟨_, s262, rfl⟩ := hs 1 262 (by kernel_rfl) (by kernel_rfl)
            have c0 := P0a.out _ fw hinv
            refine .inl ⟨wanted_free rfl, fun K hK => ?_⟩
            clear hs hb hr hinv
            go_simp
            exact hK _ _ rfl (Ext.refl _)
          · intro fa fw fk hr hinv hs hb
            have s25 : fa.tmps[(25 : Nat)]? = some (.pointer (some ⟨b25, 0, none⟩)) := (hb 25 (by kernel_rfl)).trans (by rfl)
            refine .inl ⟨wanted_free rfl, fun K hK => ?_⟩
            clear hs hb hr hinv
            go_simp
            exact hK _ _ rfl (Ext.refl _)
          · intro fa fw fk hr hinv hs hb
            obtain ⟨_, s264, rfl⟩ := hs 3 264 (by kernel_rfl) (by kernel_rfl)
            have c0 := P0b.out _ fw hinv
            refine .inl ⟨wanted_free rfl, fun K hK => ?_⟩
            clear hs hb hr hinv
            go_simp
            exact hK _ _ rfl (Ext.refl _)
          · intro fa fw fk hr hinv hs hb
            obtain ⟨_, s263, rfl⟩ := hs 2 263 (by kernel_rfl) (by kernel_rfl)
            obtain ⟨_, s265, rfl⟩ := hs 4 265 (by kernel_rfl) (by kernel_rfl)
            refine .inl ⟨wanted_free rfl, fun K hK => ?_⟩
            clear hs hb
            go_simp
            obtain ⟨rvx, esx, hsx⟩ := hinv.sm
            exact hK _ _ ⟨fw.heap.size, rfl, ArgP.new hsx [A.over, B.over] _ rfl (by simp)⟩ ((Ext.refl _).alloc _)
          · intro fa fw hr hinv hs hb
            obtain ⟨_, s261, rfl⟩ := hs 0 261 (by kernel_rfl) (by kernel_rfl)
            obtain ⟨_, s266, b266, rfl, k266⟩ := hs 5 266 (by kernel_rfl) (by kernel_rfl)
            refine ⟨wanted_free rfl, fun K hK => ?_⟩
            clear hs hb
            go_simp
            obtain ⟨rvx, esx, hix⟩ := hinv
            refine (sany_any hix.sm _ [A.over, B.over] k266 (by show ((((G ++ [gAll [bg, (sn : Int)]]) ++ A.G) ++ [gNot ((sn : Int)), gAll [bg, (qa : Int)]]) ++ B.G).length ≤ 1000; have := LQ.out; have := HQB.out; omega)).mono ?_
            rintro e w' ⟨rfl, hm⟩
            have hq := hix.step hm
            rw [show (nthT [((((G ++ [gAll [bg, (sn : Int)]]) ++ A.G) ++ [gNot ((sn : Int)), gAll [bg, (qa : Int)]]) ++ B.G, (R ++ A.R) ++ B.R, (E ++ A.E) ++ B.E), (((((G ++ [gAll [bg, (sn : Int)]]) ++ A.G) ++ [gNot ((sn : Int)), gAll [bg, (qa : Int)]]) ++ B.G) ++ [gAny [A.over, B.over]], (R ++ A.R) ++ B.R, (E ++ A.E) ++ B.E), ((((((G ++ [gAll [bg, (sn : Int)]]) ++ A.G) ++ [gNot ((sn : Int)), gAll [bg, (qa : Int)]]) ++ B.G) ++ [gAny [A.over, B.over]]) ++ [gAny [A.some, B.some]], (R ++ A.R) ++ B.R, (E ++ A.E) ++ B.E)] 0).1.length = q from LQ.out]
            exact hK _ _ rfl hm.rel ⟨rvx, esx, hq⟩
          · intro fa fw fk hr hinv hs hb
            have s3 : fa.tmps[(3 : Nat)]? = some (.pointer (some ⟨w.heap.size, 0, none⟩)) := (hb 3 (by kernel_rfl)).trans (by rfl)
            have c0 := C3f.out _ fw hinv
            refine .inl ⟨wanted_free rfl, fun K hK => ?_⟩
            clear hs hb hr hinv
            go_simp
            exact hK _ _ rfl (Ext.refl _)
          · intro fa fw fk hr hinv hs hb
            have s24 : fa.tmps[(24 : Nat)]? = some (.pointer (some ⟨b24, 0, none⟩)) := (hb 24 (by kernel_rfl)).trans (by rfl)
            refine .inl ⟨wanted_free rfl, fun K hK => ?_⟩
            clear hs hb hr hinv
            go_simp
            exact hK _ _ rfl (Ext.refl _)
          · intro fa fw fk hr hinv hs hb
            obtain ⟨_, s269, rfl⟩ := hs 8 269 (by kernel_rfl) (by kernel_rfl)
            have c0 := P1a.out _ fw hinv
            refine .inl ⟨wanted_free rfl, fun K hK => ?_⟩
            clear hs hb hr hinv
            go_simp
            exact hK _ _ rfl (Ext.refl _)
          · intro fa fw fk hr hinv hs hb
            have s25 : fa.tmps[(25 : Nat)]? = some (.pointer (some ⟨b25, 0, none⟩)) := (hb 25 (by kernel_rfl)).trans (by rfl)
            refine .inl ⟨wanted_free rfl, fun K hK => ?_⟩
            clear hs hb hr hinv
            go_simp
            exact hK _ _ rfl (Ext.refl _)
          · intro fa fw fk hr hinv hs hb
            obtain ⟨_, s271, rfl⟩ := hs 10 271 (by kernel_rfl) (by kernel_rfl)
            have c0 := P1b.out _ fw hinv
            refine .inl ⟨wanted_free rfl, fun K hK => ?_⟩
            clear hs hb hr hinv
            go_simp
            exact hK _ _ rfl (Ext.refl _)
          · intro fa fw fk hr hinv hs hb
            obtain ⟨_, s270, rfl⟩ := hs 9 270 (by kernel_rfl) (by kernel_rfl)
            obtain ⟨_, s272, rfl⟩ := hs 11 272 (by kernel_rfl) (by kernel_rfl)
            refine .inl ⟨wanted_free rfl, fun K hK => ?_⟩
            clear hs hb
            go_simp
            obtain ⟨rvx, esx, hsx⟩ := hinv.sm
            exact hK _ _ ⟨fw.heap.size, rfl, ArgP.new hsx [A.some, B.some] _ rfl (by simp)⟩ ((Ext.refl _).alloc _)
          · intro fa fw hr hinv hs hb
            obtain ⟨_, s268, rfl⟩ := hs 7 268 (by kernel_rfl) (by kernel_rfl)
            obtain ⟨_, s273, b273, rfl, k273⟩ := hs 12 273 (by kernel_rfl) (by kernel_rfl)
            refine ⟨wanted_free rfl, fun K hK => ?_⟩
            clear hs hb
            go_simp
            obtain ⟨rvx, esx, hix⟩ := hinv
            refine (sany_any hix.sm _ [A.some, B.some] k273 (by show (((((G ++ [gAll [bg, (sn : Int)]]) ++ A.G) ++ [gNot ((sn : Int)), gAll [bg, (qa : Int)]]) ++ B.G) ++ [gAny [A.over, B.over]]).length ≤ 1000; have := HQB.out; rw [List.length_append, LQ.out]; simp only [List.length_cons, List.length_nil]; omega)).mono ?_
            rintro e w' ⟨rfl, hm⟩
            have hq := hix.step hm
            rw [show (nthT [((((G ++ [gAll [bg, (sn : Int)]]) ++ A.G) ++ [gNot ((sn : Int)), gAll [bg, (qa : Int)]]) ++ B.G, (R ++ A.R) ++ B.R, (E ++ A.E) ++ B.E), (((((G ++ [gAll [bg, (sn : Int)]]) ++ A.G) ++ [gNot ((sn : Int)), gAll [bg, (qa : Int)]]) ++ B.G) ++ [gAny [A.over, B.over]], (R ++ A.R) ++ B.R, (E ++ A.E) ++ B.E), ((((((G ++ [gAll [bg, (sn : Int)]]) ++ A.G) ++ [gNot ((sn : Int)), gAll [bg, (qa : Int)]]) ++ B.G) ++ [gAny [A.over, B.over]]) ++ [gAny [A.some, B.some]], (R ++ A.R) ++ B.R, (E ++ A.E) ++ B.E)] 1).1.length = q + 1 from by show (((((G ++ [gAll [bg, (sn : Int)]]) ++ A.G) ++ [gNot ((sn : Int)), gAll [bg, (qa : Int)]]) ++ B.G) ++ [gAny [A.over, B.over]]).length = q + 1; rw [List.length_append, LQ.out]; rfl]
            exact hK _ _ rfl hm.rel ⟨rvx, esx, hq⟩
          · intro fa fw fk hr hinv hs hb
            obtain ⟨_, s267, rfl⟩ := hs 6 267 (by kernel_rfl) (by kernel_rfl)
            obtain ⟨_, s274, rfl⟩ := hs 13 274 (by kernel_rfl) (by kernel_rfl)
            refine .inl ⟨wanted_free rfl, fun K hK => ?_⟩
            clear hs hb hr hinv
            go_simp
            exact hK _ _ rfl (Ext.refl _)
        case rest =>
          intro w9 hrw9 hiw9
          rintro _ rfl
          rintro _ rfl
          rintro _ rfl
          rintro _ rfl
          rintro _ rfl
          rintro _ ⟨b266, rfl, k266⟩
          rintro _ rfl
          rintro _ rfl
          rintro _ rfl
          rintro _ rfl
          rintro _ rfl
          rintro _ rfl
          rintro _ ⟨b273, rfl, k273⟩
          rintro _ rfl
          rintro _ rfl
          simp only [putAll, List.take, Act.put, List.setIfInBounds_toArray, List.set_cons_zero, List.set_cons_succ]
          obtain ⟨rv9, es9, hi9⟩ := hiw9
          have hb6 : Box w9 (w.heap.size + 1 + 1) 81 [I 0, I 0] := (hi9.lo (w.heap.size + 1 + 1, 81, [I 0, I 0]) (by simp)).1
          have z0 := hb6.cell 0; have z1 := hb6.cell 1; have f6 := hb6.free
          simp only [List.getElem?_cons_zero, List.getElem?_cons_succ] at z0 z1
          have hfin := hi9.finish HBS.out (m6 := w.heap.size + 1 + 1) (x := I 0) (y := I 0) (by simp) (by omega) (I ((q : Int))) (I ((q : Int) + 1))
          have HFIN := Lib.hid hfin
          clear hb6 hfin hi9 hrw9
          refine wpAny_ready (rs := [15]) (by kernel_rfl) (by simp) (AllReady.cons rfl (fun KK hKK => ?_) AllReady.nil)
          go_simp
          refine hKK _ _ ?_
          clear hKK KK z0 z1 f6
          refine wpAny_done (by kernel_rfl) ?_ _
          go_wp2
          obtain ⟨hmade, y0, y1⟩ := HFIN.out
          refine bodyPost_ret (v := .agg #[I ((q : Int)), I ((q : Int) + 1)]) ?_ rfl ⟨rv9, es9, by rw [HNF.out]; exact congrArg Ending.returned (by simp [HQ.out] <;> omega), by rw [HNF.out]; have hmm := hmade; simp only [nthT, List.append_assoc, List.cons_append, List.nil_append] at hmm ⊢; exact hmm⟩
          clear hmade HFIN
          simp [results, Try.results39, go_sem, y0, y1]
set_option maxRecDepth 100000 in
set_option maxHeartbeats 16000000 in
theorem node_was (hp : SlN w0 PA n p) (hn : n ≤ 14) (sn : Nat) (hsn : sn ≤ 2) (ta tb : Tr) (k : Nat) (ht : TreeAt p k (.two ⟨8, (sn : Int)⟩ ta tb)) (ok : (Tr.two ⟨8, (sn : Int)⟩ ta tb).ok) (hgd : ∀ x ∈ (Tr.two ⟨8, (sn : Int)⟩ ta tb).flat, goodN x)
    (ia : NodeOK w0 b PA n pc c ta (k + 1)) (ib : NodeOK w0 b PA n pc c tb (k + 1 + ta.size)) : NodeOK w0 b PA n pc c (.two ⟨8, (sn : Int)⟩ ta tb) k := by
  intro w rv es G R E bg hx h hG hR hE h8 hb0 hb1
  have hle := ht.le
  have hpl := hp.1
  have hkn : k < n := by simp [Tr.size] at hle; omega
  have htop := ht.top
  have hof := ht.of_two ok
  obtain ⟨pb, poff, y, rfl, d0, d1, -, hy⟩ := hp.next hkn
  have hyx : y = ⟨8, (sn : Int)⟩ := by rw [htop] at hy; injection hy with hy; exact hy.symm
  subst hyx
  have e0 := hx.keeps _ _ d0; have e1 := hx.keeps _ _ d1
  have q4 := h.cellP
  have hk3 : Keeps w (((w.alloc (.cells #[.pointer (some ⟨b, 0, none⟩)] 72)).alloc (.cells #[I bg] 3)).alloc (.cells #[I 0, I 0] 81)) := ((Keeps.alloc _ _).trans (Keeps.alloc _ _)).trans (Keeps.alloc _ _)
  have q4' := hk3 _ _ q4; have e0' := hk3 _ _ e0; have e1' := hk3 _ _ e1
  have hI := NodeI.begin h bg 8 (sn : Int)
  obtain ⟨wB, hwB⟩ : ∃ q, q = nodeB w b bg 8 (sn : Int) := ⟨_, rfl⟩
  rw [← hwB] at hI
  have hpB : SlN wB (some ⟨pb, poff, none⟩) n p := hp.keep (Ext.trans hx (by rw [hwB]; exact ((((Ext.refl w).alloc _).alloc _).alloc _).alloc _)).keeps
  have hsz : (Tr.two ⟨8, (sn : Int)⟩ ta tb).size = 1 + ta.size + tb.size := rfl
  rw [hsz] at hG hR hE
  obtain ⟨goa, gob⟩ := sub_good hgd
  have hbs : w0.heap.size ≤ w.heap.size := hx.size
  have hisv : isG ⟨8, (sn : Int)⟩ = (sn : Int) + 5 := by simp [isG, insG, wasG]
  obtain ⟨A, hA⟩ : ∃ A, A = nodeF ta (G.length + 1) R.length G.length := ⟨_, rfl⟩
  obtain ⟨qa, hqa⟩ : ∃ qa, qa = G.length + 1 + A.G.length := ⟨_, rfl⟩
  obtain ⟨B, hB⟩ : ∃ B, B = nodeF tb (G.length + 1 + A.G.length + 2) (R.length + A.R.length) ((qa : Int) + 1) := ⟨_, rfl⟩
  have FA : FOk ta (G.length + 1) R.length A := by rw [hA]; exact nodeF_ok ta _ _ _ ok.2.1 goa (by omega) (by omega) (by omega)
  have FB : FOk tb (G.length + 1 + A.G.length + 2) (R.length + A.R.length) B := by rw [hB]; exact nodeF_ok tb _ _ _ ok.2.2 gob (by omega) (by omega) (by omega)
  have hNF : nodeF (.two ⟨8, (sn : Int)⟩ ta tb) G.length R.length bg = ⟨((G.length + 1 + A.G.length + 2 + B.G.length : Nat) : Int), ((G.length + 1 + A.G.length + 2 + B.G.length : Nat) : Int) + 1, gAll [bg, (sn : Int) + 5] :: (A.G ++ ([gNot ((sn : Int) + 5), gAll [bg, (qa : Int)]] ++ (B.G ++ [gAny [A.over, B.over], gAny [A.some, B.some]]))), A.R ++ B.R, A.E ++ B.E⟩ := by
    rw [hB, hqa, hA]; simp only [nodeF]; rw [if_neg (by decide), if_neg (by decide), hisv]
  have hAe : nodeF ta (G ++ [gAll [bg, (sn : Int) + 5]]).length R.length G.length = A := by rw [hA]; simp
  have hBe : nodeF tb (((G ++ [gAll [bg, (sn : Int) + 5]]) ++ A.G) ++ [gNot ((sn : Int) + 5), gAll [bg, (qa : Int)]]).length (R ++ A.R).length ((qa : Int) + 1) = B := by
    have hl : (((G ++ [gAll [bg, (sn : Int) + 5]]) ++ A.G) ++ [gNot ((sn : Int) + 5), gAll [bg, (qa : Int)]]).length = G.length + 1 + A.G.length + 2 := by simp only [List.length_append, List.length_cons, List.length_nil]
    rw [hl, List.length_append]; exact hB.symm
  have hqab : qa ≤ 820 := by have := FA.size; have := nW_le ta; omega
  have HQA := Lib.hid hqa; have HQAB := Lib.hid hqab
  clear hA hB hisv hqab
  have nwa := nW_le ta; have nwb := nW_le tb
  have fa1 := FA.size; have fa2 := FA.regs; have fa3 := FA.few; have fb1 := FB.size; have fb2 := FB.regs; have fb3 := FB.few; have fa4 := FA.over; have fa5 := FA.some
  have ca : ∀ (w' : World) (rvx : Value) (esx : List Value), Ext w0 w' → SmithP w' w0.heap.size b 3 (.slice (some ⟨pb, poff, none⟩) n pc) (stN c rvx esx (G ++ [gAll [bg, (sn : Int) + 5]]) R E) → Calls Try.prog 39 #[.pointer (some ⟨b, 0, none⟩), .int .i64 ((k : Int) + 1), I ((G.length : Int))] w' fun e w'' => ∃ rv' es', e = .returned (.agg #[I A.over, I A.some]) ∧ MadeP w' w'' w0.heap.size b 3 (.slice (some ⟨pb, poff, none⟩) n pc) (stN c rv' es' ((G ++ [gAll [bg, (sn : Int) + 5]]) ++ A.G) (R ++ A.R) (E ++ A.E)) := fun w' rvx esx hxw hsw => by
    have := ia w' rvx esx (G ++ [gAll [bg, (sn : Int) + 5]]) R E ((G.length : Int)) hxw hsw (by (try simp only [List.length_append, List.length_cons, List.length_nil]); omega) (by omega) (by omega) (by (try simp only [List.length_append, List.length_cons, List.length_nil]); omega) (by omega) (by (try simp only [List.length_append, List.length_cons, List.length_nil]); omega)
    rw [hAe] at this
    rwa [show ((k + 1 : Nat) : Int) = (k : Int) + 1 from by omega] at this
  have cb : ∀ (w' : World) (rvx : Value) (esx : List Value), Ext w0 w' → SmithP w' w0.heap.size b 3 (.slice (some ⟨pb, poff, none⟩) n pc) (stN c rvx esx (((G ++ [gAll [bg, (sn : Int) + 5]]) ++ A.G) ++ [gNot ((sn : Int) + 5), gAll [bg, (qa : Int)]]) (R ++ A.R) (E ++ A.E)) → Calls Try.prog 39 #[.pointer (some ⟨b, 0, none⟩), .int .i64 ((k : Int) + 1 + ta.size), I ((qa : Int) + 1)] w' fun e w'' => ∃ rv' es', e = .returned (.agg #[I B.over, I B.some]) ∧ MadeP w' w'' w0.heap.size b 3 (.slice (some ⟨pb, poff, none⟩) n pc) (stN c rv' es' ((((G ++ [gAll [bg, (sn : Int) + 5]]) ++ A.G) ++ [gNot ((sn : Int) + 5), gAll [bg, (qa : Int)]]) ++ B.G) ((R ++ A.R) ++ B.R) ((E ++ A.E) ++ B.E)) := fun w' rvx esx hxw hsw => by
    have := ib w' rvx esx (((G ++ [gAll [bg, (sn : Int) + 5]]) ++ A.G) ++ [gNot ((sn : Int) + 5), gAll [bg, (qa : Int)]]) (R ++ A.R) (E ++ A.E) ((qa : Int) + 1) hxw hsw (by (try simp only [List.length_append, List.length_cons, List.length_nil]); omega) (by (try simp only [List.length_append, List.length_cons, List.length_nil]); omega) (by (try simp only [List.length_append, List.length_cons, List.length_nil]); omega) (by (try simp only [List.length_append, List.length_cons, List.length_nil]); omega) (by omega) (by (try simp only [List.length_append, List.length_cons, List.length_nil]); omega)
    rw [hBe] at this
    rwa [show ((k + 1 + ta.size : Nat) : Int) = (k : Int) + 1 + ta.size from by omega] at this
  have CA := Lib.hid ca; have CB := Lib.hid cb
  obtain ⟨q, hq⟩ : ∃ q, q = (((G ++ [gAll [bg, (sn : Int) + 5]]) ++ A.G) ++ [gNot ((sn : Int) + 5), gAll [bg, (qa : Int)]]).length + B.G.length := ⟨_, rfl⟩
  have hqb : q ≤ 820 := by rw [hq]; simp; omega
  have HI := Lib.hid hI; have HBS := Lib.hid hbs; have HX := Lib.hid hx; have HPB := Lib.hid hpB; have HOF := Lib.hid hof; have HNF := Lib.hid hNF; have HQ := Lib.hid hq; have HQB := Lib.hid hqb; have HFA := Lib.hid FA
  have HGL : Hid (8 ≤ G.length ∧ G.length ≤ 800) := by unfold Hid; omega
  have HWB : Hid (wB = (((w.alloc (.cells #[.pointer (some ⟨b, 0, none⟩)] 72)).alloc (.cells #[I bg] 3)).alloc (.cells #[I 0, I 0] 81)).alloc (.cells #[I 8, I (sn : Int)] 64)) := hwB
  clear hp ht hle hpl htop hof d0 d1 hy hI hx hG hR hE h8 hb0 hb1 hk3 q4 e0 e1 hwB hpB hsz goa gob hqa hbs hNF nwa nwb fa1 fa2 fa3 fb1 fb2 fb3 fa4 fa5 FA FB ca cb hq hqb ia ib hgd ok hAe hBe h
  generalize hnx : (k : Int) + (Tr.two ⟨8, (sn : Int)⟩ ta tb).size = beh at *
  clear hnx
  go_enter Try.func39, Try.ntmps39
  go_upto_region 21 with fail
  rw [← HWB.out]
  clear q4' e0' e1'
  have q3 := (HI.out.cell (g := w.heap.size) (T := 72) (cs := [.pointer (some ⟨b, 0, none⟩)]) (by simp) 0).trans rfl
  have q5 := (HI.out.cell (g := w.heap.size + 1) (T := 3) (cs := [I bg]) (by simp) 0).trans rfl
  have q7 := (HI.out.cell (g := w.heap.size + 1 + 1 + 1) (T := 64) (cs := [I 8, I (sn : Int)]) (by simp) 0).trans rfl
  have q4 := HI.out.sm.cellP
  simp only [List.getElem?_cons_zero] at q3 q5 q7
  go_wp2_with fail
  refine (progOf_any _ n pc p k wB HPB.out (by omega) hkn).mono ?_; rintro e w' ⟨rfl, rfl⟩; rw [HOF.out]
  have hsni : (sn : Int) < 3 := by omega
  clear q3 q4 q5
  have q7' := (HI.out.cell (g := w.heap.size + 1 + 1 + 1) (T := 64) (cs := [I 8, I (sn : Int)]) (by simp) 0).trans rfl
  simp only [List.getElem?_cons_zero] at q7'
  clear q7
  have q7 := q7'
  clear q7'
  go_upto_region 31 with fail
  clear q7
  have C3a := Lib.hid (show ∀ k w', InvT w w0.heap.size b (.slice (some ⟨pb, poff, none⟩) n pc) (nodeL w b bg 8 (sn : Int)) c [(G, R, E)] k w' → w'.cell? ⟨w.heap.size, 0, none⟩ = some (.pointer (some ⟨b, 0, none⟩)) from fun k w' h => h.cell (g := w.heap.size) (T := 72) (cs := [.pointer (some ⟨b, 0, none⟩)]) (by simp) 0)
  have C5a := Lib.hid (show ∀ k w', InvT w w0.heap.size b (.slice (some ⟨pb, poff, none⟩) n pc) (nodeL w b bg 8 (sn : Int)) c [(G, R, E)] k w' → w'.cell? ⟨w.heap.size + 1, 0, none⟩ = some (I bg) from fun k w' h => h.cell (g := w.heap.size + 1) (T := 3) (cs := [I bg]) (by simp) 0)
  have C7a := Lib.hid (show ∀ k w', InvT w w0.heap.size b (.slice (some ⟨pb, poff, none⟩) n pc) (nodeL w b bg 8 (sn : Int)) c [(G, R, E)] k w' → w'.cell? ⟨w.heap.size + 1 + 1 + 1, 1, none⟩ = some (I (sn : Int)) from fun k w' h => h.cell (g := w.heap.size + 1 + 1 + 1) (T := 64) (cs := [I 8, I (sn : Int)]) (by simp) 1)
  have hri := HI.out.sm.ins
  obtain ⟨ivb, ivc, eiv⟩ := own_form hri (Nat.succ_pos 2)
  have Hiv : Hid (c.iv = .slice (some ⟨ivb, 0, none⟩) 3 ivc) := eiv
  clear hri eiv
  have CIiv := Lib.hid (show ∀ k w', InvT w w0.heap.size b (.slice (some ⟨pb, poff, none⟩) n pc) (nodeL w b bg 8 (sn : Int)) c [(G, R, E)] k w' → w'.cell? ⟨b, 5, none⟩ = some (.slice (some ⟨ivb, 0, none⟩) 3 ivc) from fun k w' h => by obtain ⟨_, _, hs⟩ := h.sm; rw [← Hiv.out]; exact hs.cellI)
  have CXiv := Lib.hid (show ∀ k w', InvT w w0.heap.size b (.slice (some ⟨pb, poff, none⟩) n pc) (nodeL w b bg 8 (sn : Int)) c [(G, R, E)] k w' → w'.cell? ⟨ivb, sn, none⟩ = some (I ((sn : Int))) from fun k w' h => by
    obtain ⟨_, _, hs⟩ := h.sm
    have hr := hs.ins
    have hr2 : w'.ownsRow w0.heap.size 3 1 c.iv 3 ([0, 1, 2].map I) := hr
    rw [Hiv.out] at hr2
    have hc := hr2.cellAt sn (show sn < 3 * 1 by omega)
    rw [hc]
    have : sn = 0 ∨ sn = 1 ∨ sn = 2 := by omega
    rcases this with rfl | rfl | rfl <;> rfl)
  have hri := HI.out.sm.was
  obtain ⟨wvb, wvc, ewv⟩ := own_form hri (Nat.succ_pos 2)
  have Hwv : Hid (c.wv = .slice (some ⟨wvb, 0, none⟩) 3 wvc) := ewv
  clear hri ewv
  have CIwv := Lib.hid (show ∀ k w', InvT w w0.heap.size b (.slice (some ⟨pb, poff, none⟩) n pc) (nodeL w b bg 8 (sn : Int)) c [(G, R, E)] k w' → w'.cell? ⟨b, 6, none⟩ = some (.slice (some ⟨wvb, 0, none⟩) 3 wvc) from fun k w' h => by obtain ⟨_, _, hs⟩ := h.sm; rw [← Hwv.out]; exact hs.cellW)
  have CXwv := Lib.hid (show ∀ k w', InvT w w0.heap.size b (.slice (some ⟨pb, poff, none⟩) n pc) (nodeL w b bg 8 (sn : Int)) c [(G, R, E)] k w' → w'.cell? ⟨wvb, sn, none⟩ = some (I ((sn : Int) + 5)) from fun k w' h => by
    obtain ⟨_, _, hs⟩ := h.sm
    have hr := hs.was
    have hr2 : w'.ownsRow w0.heap.size 3 1 c.wv 3 ([5, 6, 7].map I) := hr
    rw [Hwv.out] at hr2
    have hc := hr2.cellAt sn (show sn < 3 * 1 by omega)
    rw [hc]
    have : sn = 0 ∨ sn = 1 ∨ sn = 2 := by omega
    rcases this with rfl | rfl | rfl <;> rfl)
  refine wp_flow7 9 0 [] [] (RelF b) (InvT w w0.heap.size b (.slice (some ⟨pb, poff, none⟩) n pc) (nodeL w b bg 8 (sn : Int)) c [(G, R, E)]) [isV (.pointer (some ⟨b, 0, none⟩)), isV (.pointer (some ⟨b, 0, none⟩)), isV (.pointer (some ⟨b, 5, none⟩)), isV (.slice (some ⟨ivb, 0, none⟩) 3 ivc), isV (.pointer (some ⟨w.heap.size + 1 + 1 + 1, 1, none⟩)), isV (I (sn : Int)), isV (.pointer (some ⟨ivb, sn, none⟩)), isV (I ((sn : Int))), isV (I ((sn : Int)))] (by kernel_rfl) rfl rfl (by kernel_rfl) (by kernel_rfl) (by kernel_rfl) (RelF.refl b _) (fun _ _ _ h k => RelF.trans h k) (fun k w' w'' h hx => InvT.ext h hx) ⟨rv, es, HI.out⟩ ⟨.inr (fun _ _ _ h _ => h), .inr (fun _ _ _ h _ => h), .inr (fun _ _ _ h _ => h), .inr (fun _ _ _ h _ => h), .inr (fun _ _ _ h _ => h), .inr (fun _ _ _ h _ => h), .inr (fun _ _ _ h _ => h), .inr (fun _ _ _ h _ => h), .inr (fun _ _ _ h _ => h), trivial⟩ ?each ?rest
  case each =>
    refine .light rfl ?_ (.light rfl ?_ (.light rfl ?_ (.light rfl ?_ (.light rfl ?_ (.light rfl ?_ (.light rfl ?_ (.light rfl ?_ (.light rfl ?_ (.nil)))))))))
    · intro fa fw fk hr hinv hs hb
      have s3 : fa.tmps[(3 : Nat)]? = some (.pointer (some ⟨w.heap.size, 0, none⟩)) := (hb 3 (by kernel_rfl)).trans (by rfl)
      have c0 := C3a.out _ fw hinv
      refine .inl ⟨wanted_free rfl, fun K hK => ?_⟩
      clear hs hb hr hinv
      go_simp
      exact hK _ _ rfl (Ext.refl _)
    · intro fa fw fk hr hinv hs hb
      obtain ⟨_, s224, rfl⟩ := hs 0 224 (by kernel_rfl) (by kernel_rfl)
      refine .inl ⟨wanted_free rfl, fun K hK => ?_⟩
      clear hs hb hr hinv
      go_simp
      exact hK _ _ rfl (Ext.refl _)
    · intro fa fw fk hr hinv hs hb
      obtain ⟨_, s225, rfl⟩ := hs 1 225 (by kernel_rfl) (by kernel_rfl)
      refine .inl ⟨wanted_free rfl, fun K hK => ?_⟩
      clear hs hb hr hinv
      go_simp
      exact hK _ _ rfl (Ext.refl _)
    · intro fa fw fk hr hinv hs hb
      obtain ⟨_, s226, rfl⟩ := hs 2 226 (by kernel_rfl) (by kernel_rfl)
      have c0 := CIiv.out _ fw hinv
      refine .inl ⟨wanted_free rfl, fun K hK => ?_⟩
      clear hs hb hr hinv
      go_simp
      exact hK _ _ rfl (Ext.refl _)
    · intro fa fw fk hr hinv hs hb
      have s7 : fa.tmps[(7 : Nat)]? = some (.pointer (some ⟨w.heap.size + 1 + 1 + 1, 0, none⟩)) := (hb 7 (by kernel_rfl)).trans (by rfl)
      refine .inl ⟨wanted_free rfl, fun K hK => ?_⟩
      clear hs hb hr hinv
      go_simp
      exact hK _ _ rfl (Ext.refl _)
    · intro fa fw fk hr hinv hs hb
      obtain ⟨_, s228, rfl⟩ := hs 4 228 (by kernel_rfl) (by kernel_rfl)
      have c0 := C7a.out _ fw hinv
      refine .inl ⟨wanted_free rfl, fun K hK => ?_⟩
      clear hs hb hr hinv
      go_simp
      exact hK _ _ rfl (Ext.refl _)
    · intro fa fw fk hr hinv hs hb
      obtain ⟨_, s227, rfl⟩ := hs 3 227 (by kernel_rfl) (by kernel_rfl)
      obtain ⟨_, s229, rfl⟩ := hs 5 229 (by kernel_rfl) (by kernel_rfl)
      refine .inl ⟨wanted_free rfl, fun K hK => ?_⟩
      clear hs hb hr hinv
      go_simp
      exact hK _ _ rfl (Ext.refl _)
    · intro fa fw fk hr hinv hs hb
      obtain ⟨_, s230, rfl⟩ := hs 6 230 (by kernel_rfl) (by kernel_rfl)
      have c0 := CXiv.out _ fw hinv
      refine .inl ⟨wanted_free rfl, fun K hK => ?_⟩
      clear hs hb hr hinv
      go_simp
      exact hK _ _ rfl (Ext.refl _)
    · intro fa fw fk hr hinv hs hb
      obtain ⟨_, s231, rfl⟩ := hs 7 231 (by kernel_rfl) (by kernel_rfl)
      refine .inl ⟨wanted_free rfl, fun K hK => ?_⟩
      clear hs hb hr hinv
      go_simp
      exact hK _ _ rfl (Ext.refl _)
  case rest =>
    intro w9 hrw9 hiw9
    rintro _ rfl
    rintro _ rfl
    rintro _ rfl
    rintro _ rfl
    rintro _ rfl
    rintro _ rfl
    rintro _ rfl
    rintro _ rfl
    rintro _ rfl
    simp only [putAll, List.take, Act.put, List.setIfInBounds_toArray, List.set_cons_zero, List.set_cons_succ]
    refine wpAny_done (by kernel_rfl) ?_ _
    obtain ⟨rv2, es2, hi2⟩ := hiw9
    have hrs : wB.heap.size ≤ w9.heap.size := hrw9.1
    have q7 := (hi2.cell (g := w.heap.size + 1 + 1 + 1) (T := 64) (cs := [I 8, I (sn : Int)]) (by simp) 0).trans rfl
    simp only [List.getElem?_cons_zero] at q7
    have HI2 := Lib.hid hi2
    clear hi2 hrw9 hrs
    go_upto_region 33 with fail
    clear q7
    refine wp_flow7 9 0 [] [] (RelF b) (InvT w w0.heap.size b (.slice (some ⟨pb, poff, none⟩) n pc) (nodeL w b bg 8 (sn : Int)) c [(G, R, E)]) [isV (.pointer (some ⟨b, 0, none⟩)), isV (.pointer (some ⟨b, 0, none⟩)), isV (.pointer (some ⟨b, 6, none⟩)), isV (.slice (some ⟨wvb, 0, none⟩) 3 wvc), isV (.pointer (some ⟨w.heap.size + 1 + 1 + 1, 1, none⟩)), isV (I (sn : Int)), isV (.pointer (some ⟨wvb, sn, none⟩)), isV (I ((sn : Int) + 5)), isV (I ((sn : Int) + 5))] (by kernel_rfl) rfl rfl (by kernel_rfl) (by kernel_rfl) (by kernel_rfl) (RelF.refl b _) (fun _ _ _ h k => RelF.trans h k) (fun k w' w'' h hx => InvT.ext h hx) ⟨rv2, es2, HI2.out⟩ ⟨.inr (fun _ _ _ h _ => h), .inr (fun _ _ _ h _ => h), .inr (fun _ _ _ h _ => h), .inr (fun _ _ _ h _ => h), .inr (fun _ _ _ h _ => h), .inr (fun _ _ _ h _ => h), .inr (fun _ _ _ h _ => h), .inr (fun _ _ _ h _ => h), .inr (fun _ _ _ h _ => h), trivial⟩ ?each ?rest
    case each =>
      refine .light rfl ?_ (.light rfl ?_ (.light rfl ?_ (.light rfl ?_ (.light rfl ?_ (.light rfl ?_ (.light rfl ?_ (.light rfl ?_ (.light rfl ?_ (.nil)))))))))
      · intro fa fw fk hr hinv hs hb
        have s3 : fa.tmps[(3 : Nat)]? = some (.pointer (some ⟨w.heap.size, 0, none⟩)) := (hb 3 (by kernel_rfl)).trans (by rfl)
        have c0 := C3a.out _ fw hinv
        refine .inl ⟨wanted_free rfl, fun K hK => ?_⟩
        clear hs hb hr hinv
        go_simp
        exact hK _ _ rfl (Ext.refl _)
      · intro fa fw fk hr hinv hs hb
        obtain ⟨_, s235, rfl⟩ := hs 0 235 (by kernel_rfl) (by kernel_rfl)
        refine .inl ⟨wanted_free rfl, fun K hK => ?_⟩
        clear hs hb hr hinv
        go_simp
        exact hK _ _ rfl (Ext.refl _)
      · intro fa fw fk hr hinv hs hb
        obtain ⟨_, s236, rfl⟩ := hs 1 236 (by kernel_rfl) (by kernel_rfl)
        refine .inl ⟨wanted_free rfl, fun K hK => ?_⟩
        clear hs hb hr hinv
        go_simp
        exact hK _ _ rfl (Ext.refl _)
      · intro fa fw fk hr hinv hs hb
        obtain ⟨_, s237, rfl⟩ := hs 2 237 (by kernel_rfl) (by kernel_rfl)
        have c0 := CIwv.out _ fw hinv
        refine .inl ⟨wanted_free rfl, fun K hK => ?_⟩
        clear hs hb hr hinv
        go_simp
        exact hK _ _ rfl (Ext.refl _)
      · intro fa fw fk hr hinv hs hb
        have s7 : fa.tmps[(7 : Nat)]? = some (.pointer (some ⟨w.heap.size + 1 + 1 + 1, 0, none⟩)) := (hb 7 (by kernel_rfl)).trans (by rfl)
        refine .inl ⟨wanted_free rfl, fun K hK => ?_⟩
        clear hs hb hr hinv
        go_simp
        exact hK _ _ rfl (Ext.refl _)
      · intro fa fw fk hr hinv hs hb
        obtain ⟨_, s239, rfl⟩ := hs 4 239 (by kernel_rfl) (by kernel_rfl)
        have c0 := C7a.out _ fw hinv
        refine .inl ⟨wanted_free rfl, fun K hK => ?_⟩
        clear hs hb hr hinv
        go_simp
        exact hK _ _ rfl (Ext.refl _)
      · intro fa fw fk hr hinv hs hb
        obtain ⟨_, s238, rfl⟩ := hs 3 238 (by kernel_rfl) (by kernel_rfl)
        obtain ⟨_, s240, rfl⟩ := hs 5 240 (by kernel_rfl) (by kernel_rfl)
        refine .inl ⟨wanted_free rfl, fun K hK => ?_⟩
        clear hs hb hr hinv
        go_simp
        exact hK _ _ rfl (Ext.refl _)
      · intro fa fw fk hr hinv hs hb
        obtain ⟨_, s241, rfl⟩ := hs 6 241 (by kernel_rfl) (by kernel_rfl)
        have c0 := CXwv.out _ fw hinv
        refine .inl ⟨wanted_free rfl, fun K hK => ?_⟩
        clear hs hb hr hinv
        go_simp
        exact hK _ _ rfl (Ext.refl _)
      · intro fa fw fk hr hinv hs hb
        obtain ⟨_, s242, rfl⟩ := hs 7 242 (by kernel_rfl) (by kernel_rfl)
        refine .inl ⟨wanted_free rfl, fun K hK => ?_⟩
        clear hs hb hr hinv
        go_simp
        exact hK _ _ rfl (Ext.refl _)
    case rest =>
      intro w10 hrw10 hiw10
      rintro _ rfl
      rintro _ rfl
      rintro _ rfl
      rintro _ rfl
      rintro _ rfl
      rintro _ rfl
      rintro _ rfl
      rintro _ rfl
      rintro _ rfl
      simp only [putAll, List.take, Act.put, List.setIfInBounds_toArray, List.set_cons_zero, List.set_cons_succ]
      refine wpAny_done (by kernel_rfl) ?_ _
      obtain ⟨rv3, es3, hi3⟩ := hiw10
      have HI3 := Lib.hid hi3
      clear hi3 hrw10
      go_upto_region 34 with fail
      have C3d := Lib.hid (show ∀ k w', InvT w w0.heap.size b (.slice (some ⟨pb, poff, none⟩) n pc) (nodeL w b bg 8 (sn : Int)) c [(G, R, E), (G ++ [gAll [bg, (sn : Int) + 5]], R, E), ((G ++ [gAll [bg, (sn : Int) + 5]]) ++ A.G, R ++ A.R, E ++ A.E)] k w' → w'.cell? ⟨w.heap.size, 0, none⟩ = some (.pointer (some ⟨b, 0, none⟩)) from fun k w' h => h.cell (g := w.heap.size) (T := 72) (cs := [.pointer (some ⟨b, 0, none⟩)]) (by simp) 0)
      have C5d := Lib.hid (show ∀ k w', InvT w w0.heap.size b (.slice (some ⟨pb, poff, none⟩) n pc) (nodeL w b bg 8 (sn : Int)) c [(G, R, E), (G ++ [gAll [bg, (sn : Int) + 5]], R, E), ((G ++ [gAll [bg, (sn : Int) + 5]]) ++ A.G, R ++ A.R, E ++ A.E)] k w' → w'.cell? ⟨w.heap.size + 1, 0, none⟩ = some (I bg) from fun k w' h => h.cell (g := w.heap.size + 1) (T := 3) (cs := [I bg]) (by simp) 0)
      refine wp_flow7 9 1 [6, 7] [] (RelF b) (InvT w w0.heap.size b (.slice (some ⟨pb, poff, none⟩) n pc) (nodeL w b bg 8 (sn : Int)) c [(G, R, E), (G ++ [gAll [bg, (sn : Int) + 5]], R, E), ((G ++ [gAll [bg, (sn : Int) + 5]]) ++ A.G, R ++ A.R, E ++ A.E)]) [isV (.pointer (some ⟨b, 0, none⟩)), isV (.int .i64 ((k : Int) + 1)), isV (.pointer (some ⟨b, 0, none⟩)), isV (I bg), isV (.int .i64 ((sn : Int) + 5)), fun v w => ∃ gz, v = .slice (some ⟨gz, 0, none⟩) 2 2 ∧ ArgP w w0.heap.size b (.slice (some ⟨gz, 0, none⟩) 2 2) [bg, (sn : Int) + 5], isV (.int .i64 ((G.length : Int))), isV (.agg #[I (A.over), I (A.some)]), fun v w => ∃ gz, v = .pointer (some ⟨gz, 0, none⟩) ∧ Box w gz 81 [I 0, I 0] ∧ ¬ FootW b w gz ∧ w10.heap.size ≤ gz] (by kernel_rfl) rfl rfl (by kernel_rfl) (by kernel_rfl) (by kernel_rfl) (RelF.refl b _) (fun _ _ _ h k => RelF.trans h k) (fun k w' w'' h hx => InvT.ext h hx) ⟨rv3, es3, HI3.out⟩ ⟨.inr (fun _ _ _ h _ => h), .inr (fun _ _ _ h _ => h), .inr (fun _ _ _ h _ => h), .inr (fun _ _ _ h _ => h), .inr (fun _ _ _ h _ => h), .inr (fun v w w' ⟨g, e, h⟩ hr => ⟨g, e, h.rel hr⟩), .inr (fun _ _ _ h _ => h), .inr (fun _ _ _ h _ => h), .inr (fun v w w' ⟨g, e, h1, h2, h3⟩ hr => ⟨g, e, (hr.box h1 h2).1, (hr.box h1 h2).2, h3⟩), trivial⟩ ?each ?rest
      case each =>
        refine .light rfl ?_ (.light rfl ?_ (.light rfl ?_ (.light rfl ?_ (.light rfl ?_ (.light rfl ?_ (.heavy 0 rfl ?_ (.heavy 1 rfl ?_ (.light rfl ?_ (.nil)))))))))
        · intro fa fw fk hr hinv hs hb
          have s3 : fa.tmps[(3 : Nat)]? = some (.pointer (some ⟨w.heap.size, 0, none⟩)) := (hb 3 (by kernel_rfl)).trans (by rfl)
          have c0 := C3d.out _ fw hinv
          refine .inl ⟨wanted_free rfl, fun K hK => ?_⟩
          clear hs hb hr hinv
          go_simp
          exact hK _ _ rfl (Ext.refl _)
        · intro fa fw fk hr hinv hs hb
          have s15 : fa.tmps[(15 : Nat)]? = some (.int .i64 ((k : Int) + 1)) := (hb 15 (by kernel_rfl)).trans (by rfl)
          refine .inl ⟨wanted_free rfl, fun K hK => ?_⟩
          clear hs hb hr hinv
          go_simp
          exact hK _ _ rfl (Ext.refl _)
        · intro fa fw fk hr hinv hs hb
          have s3 : fa.tmps[(3 : Nat)]? = some (.pointer (some ⟨w.heap.size, 0, none⟩)) := (hb 3 (by kernel_rfl)).trans (by rfl)
          have c0 := C3d.out _ fw hinv
          refine .inl ⟨wanted_free rfl, fun K hK => ?_⟩
          clear hs hb hr hinv
          go_simp
          exact hK _ _ rfl (Ext.refl _)
        · intro fa fw fk hr hinv hs hb
          have s5 : fa.tmps[(5 : Nat)]? = some (.pointer (some ⟨w.heap.size + 1, 0, none⟩)) := (hb 5 (by kernel_rfl)).trans (by rfl)
          have c0 := C5d.out _ fw hinv
          refine .inl ⟨wanted_free rfl, fun K hK => ?_⟩
          clear hs hb hr hinv
          go_simp
          exact hK _ _ rfl (Ext.refl _)
        · intro fa fw fk hr hinv hs hb
          have s23 : fa.tmps[(23 : Nat)]? = some (.int .i64 ((sn : Int) + 5)) := (hb 23 (by kernel_rfl)).trans (by rfl)
          refine .inl ⟨wanted_free rfl, fun K hK => ?_⟩
          clear hs hb hr hinv
          go_simp
          exact hK _ _ rfl (Ext.refl _)
        · intro fa fw fk hr hinv hs hb
          obtain ⟨_, s246, rfl⟩ := hs 3 246 (by kernel_rfl) (by kernel_rfl)
          obtain ⟨_, s247, rfl⟩ := hs 4 247 (by kernel_rfl) (by kernel_rfl)
          refine .inl ⟨wanted_free rfl, fun K hK => ?_⟩
          clear hs hb
          go_simp
          obtain ⟨rvx, esx, hsx⟩ := hinv.sm
          exact hK _ _ ⟨fw.heap.size, rfl, ArgP.new hsx [bg, (sn : Int) + 5] _ rfl (by simp)⟩ ((Ext.refl _).alloc _)
        · intro fa fw hr hinv hs hb
          obtain ⟨_, s245, rfl⟩ := hs 2 245 (by kernel_rfl) (by kernel_rfl)
          obtain ⟨_, s248, b248, rfl, k248⟩ := hs 5 248 (by kernel_rfl) (by kernel_rfl)
          refine ⟨wanted_free rfl, fun K hK => ?_⟩
          clear hs hb
          go_simp
          obtain ⟨rvx, esx, hix⟩ := hinv
          refine (sall_any hix.sm _ [bg, (sn : Int) + 5] k248 (by show G.length ≤ 1000; have := HGL.out; omega)).mono ?_
          rintro e w' ⟨rfl, hm⟩
          have hq := hix.step hm
          rw [show (nthT [(G, R, E), (G ++ [gAll [bg, (sn : Int) + 5]], R, E), ((G ++ [gAll [bg, (sn : Int) + 5]]) ++ A.G, R ++ A.R, E ++ A.E)] 0).1.length = G.length from rfl]
          exact hK _ _ rfl hm.rel ⟨rvx, esx, hq⟩
        · intro fa fw hr hinv hs hb
          obtain ⟨_, s243, rfl⟩ := hs 0 243 (by kernel_rfl) (by kernel_rfl)
          obtain ⟨_, s244, rfl⟩ := hs 1 244 (by kernel_rfl) (by kernel_rfl)
          obtain ⟨_, s249, rfl⟩ := hs 6 249 (by kernel_rfl) (by kernel_rfl)
          refine ⟨wanted_free rfl, fun K hK => ?_⟩
          clear hs hb
          go_simp
          obtain ⟨rvx, esx, hix⟩ := hinv
          refine (CA.out fw rvx esx (Below.trans HX.out hix.be) hix.sm).mono ?_
          rintro e w' ⟨rvy, esy, rfl, hm⟩
          have hq := hix.step hm
          exact hK _ _ rfl hm.rel ⟨rvy, esy, hq⟩
        · intro fa fw fk hr hinv hs hb
          refine .inl ⟨wanted_free rfl, fun K hK => ?_⟩
          clear hs hb
          go_simp
          obtain ⟨rvx, esx, hsx⟩ := hinv.sm
          exact hK _ _ ⟨fw.heap.size, rfl, Box.new fw _ _, hsx.fresh ((Ext.refl _).alloc _) (Nat.le_refl _), hr.1⟩ ((Ext.refl _).alloc _)
      case rest =>
        intro w9 hrw9 hiw9
        rintro _ rfl
        rintro _ rfl
        rintro _ rfl
        rintro _ rfl
        rintro _ rfl
        rintro _ ⟨b248, rfl, k248⟩
        rintro _ rfl
        rintro _ rfl
        rintro _ ⟨b24, rfl, k24, n24, z24⟩
        simp only [putAll, List.take, Act.put, List.setIfInBounds_toArray, List.set_cons_zero, List.set_cons_succ]
        obtain ⟨rv9, es9, hi9⟩ := hiw9
        have z0 := k24.cell 0; have z1 := k24.cell 1; have f6 := k24.free
        simp only [List.getElem?_cons_zero, List.getElem?_cons_succ] at z0 z1
        have hi10 := hi9.box2 HBS.out k24 n24 (by have h1 := HI3.out.re.1; have h2 := z24; omega) (fun z hz => by have h1 := (HI3.out.lo z hz).1.lt; have h2 := z24; omega) (I (A.over)) (I (A.some))
        have HI10 := Lib.hid hi10
        clear hi9 hi10 k24 n24 z24 hrw9
        refine wpAny_ready (rs := [9]) (by kernel_rfl) (by simp) (AllReady.cons rfl (fun KK hKK => ?_) AllReady.nil)
        go_simp
        refine hKK _ _ ?_
        clear hKK KK z0 z1 f6
        refine wpAny_done (by kernel_rfl) ?_ _
        obtain ⟨w11, hw11⟩ : ∃ q, q = (w9.setCell ⟨b24, 0, none⟩ (I (A.over))).setCell ⟨b24, 1, none⟩ (I (A.some)) := ⟨_, rfl⟩
        rw [← hw11]
        have hi11 : NodeI w w0.heap.size b 3 (.slice (some ⟨pb, poff, none⟩) n pc) ((b24, 81, [I (A.over), I (A.some)]) :: (nodeL w b bg 8 (sn : Int))) (stN c rv9 es9 ((G ++ [gAll [bg, (sn : Int) + 5]]) ++ A.G) (R ++ A.R) (E ++ A.E)) w11 := by rw [hw11]; exact HI10.out
        clear hw11 HI10
        have HI11 := Lib.hid hi11
        clear hi11
        have LA : Hid (((G ++ [gAll [bg, (sn : Int) + 5]]) ++ A.G).length = qa) := by unfold Hid; rw [HQA.out]; simp only [List.length_append, List.length_cons, List.length_nil]
        have EB : Hid (((((G ++ [gAll [bg, (sn : Int) + 5]]) ++ A.G) ++ [gNot ((sn : Int) + 5)]) ++ [gAll [bg, (qa : Int)]]) = ((G ++ [gAll [bg, (sn : Int) + 5]]) ++ A.G) ++ [gNot ((sn : Int) + 5), gAll [bg, (qa : Int)]]) := by unfold Hid; simp only [List.append_assoc, List.cons_append, List.nil_append]
        have CB2 : Hid (∀ (w' : World) (rvx : Value) (esx : List Value), Ext w0 w' → SmithP w' w0.heap.size b 3 (.slice (some ⟨pb, poff, none⟩) n pc) (stN c rvx esx ((((G ++ [gAll [bg, (sn : Int) + 5]]) ++ A.G) ++ [gNot ((sn : Int) + 5)]) ++ [gAll [bg, (qa : Int)]]) (R ++ A.R) (E ++ A.E)) → Calls Try.prog 39 #[.pointer (some ⟨b, 0, none⟩), .int .i64 ((k : Int) + 1 + ta.size), I ((qa : Int) + 1)] w' fun e w'' => ∃ rv' es', e = .returned (.agg #[I B.over, I B.some]) ∧ MadeP w' w'' w0.heap.size b 3 (.slice (some ⟨pb, poff, none⟩) n pc) (stN c rv' es' ((((G ++ [gAll [bg, (sn : Int) + 5]]) ++ A.G) ++ [gNot ((sn : Int) + 5), gAll [bg, (qa : Int)]]) ++ B.G) ((R ++ A.R) ++ B.R) ((E ++ A.E) ++ B.E))) := by
          unfold Hid; rw [EB.out]; exact CB.out
        have C3e := Lib.hid (show ∀ k w', InvT w w0.heap.size b (.slice (some ⟨pb, poff, none⟩) n pc) ((b24, 81, [I (A.over), I (A.some)]) :: (nodeL w b bg 8 (sn : Int))) c [((G ++ [gAll [bg, (sn : Int) + 5]]) ++ A.G, R ++ A.R, E ++ A.E), (((G ++ [gAll [bg, (sn : Int) + 5]]) ++ A.G) ++ [gNot ((sn : Int) + 5)], R ++ A.R, E ++ A.E), ((((G ++ [gAll [bg, (sn : Int) + 5]]) ++ A.G) ++ [gNot ((sn : Int) + 5)]) ++ [gAll [bg, (qa : Int)]], R ++ A.R, E ++ A.E), ((((G ++ [gAll [bg, (sn : Int) + 5]]) ++ A.G) ++ [gNot ((sn : Int) + 5), gAll [bg, (qa : Int)]]) ++ B.G, (R ++ A.R) ++ B.R, (E ++ A.E) ++ B.E)] k w' → w'.cell? ⟨w.heap.size, 0, none⟩ = some (.pointer (some ⟨b, 0, none⟩)) from fun k w' h => h.cell (g := w.heap.size) (T := 72) (cs := [.pointer (some ⟨b, 0, none⟩)]) (by simp) 0)
        have C5e := Lib.hid (show ∀ k w', InvT w w0.heap.size b (.slice (some ⟨pb, poff, none⟩) n pc) ((b24, 81, [I (A.over), I (A.some)]) :: (nodeL w b bg 8 (sn : Int))) c [((G ++ [gAll [bg, (sn : Int) + 5]]) ++ A.G, R ++ A.R, E ++ A.E), (((G ++ [gAll [bg, (sn : Int) + 5]]) ++ A.G) ++ [gNot ((sn : Int) + 5)], R ++ A.R, E ++ A.E), ((((G ++ [gAll [bg, (sn : Int) + 5]]) ++ A.G) ++ [gNot ((sn : Int) + 5)]) ++ [gAll [bg, (qa : Int)]], R ++ A.R, E ++ A.E), ((((G ++ [gAll [bg, (sn : Int) + 5]]) ++ A.G) ++ [gNot ((sn : Int) + 5), gAll [bg, (qa : Int)]]) ++ B.G, (R ++ A.R) ++ B.R, (E ++ A.E) ++ B.E)] k w' → w'.cell? ⟨w.heap.size + 1, 0, none⟩ = some (I bg) from fun k w' h => h.cell (g := w.heap.size + 1) (T := 3) (cs := [I bg]) (by simp) 0)
        go_upto_region 35 with fail
        refine wp_flow7 11 1 [6, 8, 9] [] (RelF b) (InvT w w0.heap.size b (.slice (some ⟨pb, poff, none⟩) n pc) ((b24, 81, [I (A.over), I (A.some)]) :: (nodeL w b bg 8 (sn : Int))) c [((G ++ [gAll [bg, (sn : Int) + 5]]) ++ A.G, R ++ A.R, E ++ A.E), (((G ++ [gAll [bg, (sn : Int) + 5]]) ++ A.G) ++ [gNot ((sn : Int) + 5)], R ++ A.R, E ++ A.E), ((((G ++ [gAll [bg, (sn : Int) + 5]]) ++ A.G) ++ [gNot ((sn : Int) + 5)]) ++ [gAll [bg, (qa : Int)]], R ++ A.R, E ++ A.E), ((((G ++ [gAll [bg, (sn : Int) + 5]]) ++ A.G) ++ [gNot ((sn : Int) + 5), gAll [bg, (qa : Int)]]) ++ B.G, (R ++ A.R) ++ B.R, (E ++ A.E) ++ B.E)]) [isV (.pointer (some ⟨b, 0, none⟩)), isV (.int .i64 ((k : Int) + 1 + ta.size)), isV (.pointer (some ⟨b, 0, none⟩)), isV (I bg), isV (.pointer (some ⟨b, 0, none⟩)), isV (.int .i64 ((sn : Int) + 5)), isV (.int .i64 ((qa : Int))), fun v w => ∃ gz, v = .slice (some ⟨gz, 0, none⟩) 2 2 ∧ ArgP w w0.heap.size b (.slice (some ⟨gz, 0, none⟩) 2 2) [bg, (qa : Int)], isV (.int .i64 ((qa : Int) + 1)), isV (.agg #[I (B.over), I (B.some)]), fun v w => ∃ gz, v = .pointer (some ⟨gz, 0, none⟩) ∧ Box w gz 81 [I 0, I 0] ∧ ¬ FootW b w gz ∧ w11.heap.size ≤ gz] (by kernel_rfl) rfl rfl (by kernel_rfl) (by kernel_rfl) (by kernel_rfl) (RelF.refl b _) (fun _ _ _ h k => RelF.trans h k) (fun k w' w'' h hx => InvT.ext h hx) ⟨_, _, HI11.out⟩ ⟨.inr (fun _ _ _ h _ => h), .inr (fun _ _ _ h _ => h), .inr (fun _ _ _ h _ => h), .inr (fun _ _ _ h _ => h), .inr (fun _ _ _ h _ => h), .inr (fun _ _ _ h _ => h), .inr (fun _ _ _ h _ => h), .inr (fun v w w' ⟨g, e, h⟩ hr => ⟨g, e, h.rel hr⟩), .inr (fun _ _ _ h _ => h), .inr (fun _ _ _ h _ => h), .inr (fun v w w' ⟨g, e, h1, h2, h3⟩ hr => ⟨g, e, (hr.box h1 h2).1, (hr.box h1 h2).2, h3⟩), trivial⟩ ?each ?rest
        case each =>
          refine .light rfl ?_ (.light rfl ?_ (.light rfl ?_ (.light rfl ?_ (.light rfl ?_ (.light rfl ?_ (.heavy 0 rfl ?_ (.light rfl ?_ (.heavy 1 rfl ?_ (.heavy 2 rfl ?_ (.light rfl ?_ (.nil)))))))))))
          · intro fa fw fk hr hinv hs hb
            have s3 : fa.tmps[(3 : Nat)]? = some (.pointer (some ⟨w.heap.size, 0, none⟩)) := (hb 3 (by kernel_rfl)).trans (by rfl)
            have c0 := C3e.out _ fw hinv
            refine .inl ⟨wanted_free rfl, fun K hK => ?_⟩
            clear hs hb hr hinv
            go_simp
            exact hK _ _ rfl (Ext.refl _)
          · intro fa fw fk hr hinv hs hb
            have s16 : fa.tmps[(16 : Nat)]? = some (.int .i64 ((k : Int) + 1 + ta.size)) := (hb 16 (by kernel_rfl)).trans (by rfl)
            refine .inl ⟨wanted_free rfl, fun K hK => ?_⟩
            clear hs hb hr hinv
            go_simp
            exact hK _ _ rfl (Ext.refl _)
          · intro fa fw fk hr hinv hs hb
            have s3 : fa.tmps[(3 : Nat)]? = some (.pointer (some ⟨w.heap.size, 0, none⟩)) := (hb 3 (by kernel_rfl)).trans (by rfl)
            have c0 := C3e.out _ fw hinv
            refine .inl ⟨wanted_free rfl, fun K hK => ?_⟩
            clear hs hb hr hinv
            go_simp
            exact hK _ _ rfl (Ext.refl _)
          · intro fa fw fk hr hinv hs hb
            have s5 : fa.tmps[(5 : Nat)]? = some (.pointer (some ⟨w.heap.size + 1, 0, none⟩)) := (hb 5 (by kernel_rfl)).trans (by rfl)
            have c0 := C5e.out _ fw hinv
            refine .inl ⟨wanted_free rfl, fun K hK => ?_⟩
            clear hs hb hr hinv
            go_simp
            exact hK _ _ rfl (Ext.refl _)
          · intro fa fw fk hr hinv hs hb
            have s3 : fa.tmps[(3 : Nat)]? = some (.pointer (some ⟨w.heap.size, 0, none⟩)) := (hb 3 (by kernel_rfl)).trans (by rfl)
            have c0 := C3e.out _ fw hinv
            refine .inl ⟨wanted_free rfl, fun K hK => ?_⟩
            clear hs hb hr hinv
            go_simp
            exact hK _ _ rfl (Ext.refl _)
          · intro fa fw fk hr hinv hs hb
            have s23 : fa.tmps[(23 : Nat)]? = some (.int .i64 ((sn : Int) + 5)) := (hb 23 (by kernel_rfl)).trans (by rfl)
            refine .inl ⟨wanted_free rfl, fun K hK => ?_⟩
            clear hs hb hr hinv
            go_simp
            exact hK _ _ rfl (Ext.refl _)
          · intro fa fw hr hinv hs hb
            obtain ⟨_, s255, rfl⟩ := hs 4 255 (by kernel_rfl) (by kernel_rfl)
            obtain ⟨_, s256, rfl⟩ := hs 5 256 (by kernel_rfl) (by kernel_rfl)
            refine ⟨wanted_free rfl, fun K hK => ?_⟩
            clear hs hb
            go_simp
            obtain ⟨rvx, esx, hix⟩ := hinv
            refine (snot_any hix.sm ((sn : Int) + 5) (by show ((G ++ [gAll [bg, (sn : Int) + 5]]) ++ A.G).length ≤ 1000; have := LA.out; have := HQAB.out; omega)).mono ?_
            rintro e w' ⟨rfl, hm⟩
            have hq := hix.step hm
            rw [show (nthT [((G ++ [gAll [bg, (sn : Int) + 5]]) ++ A.G, R ++ A.R, E ++ A.E), (((G ++ [gAll [bg, (sn : Int) + 5]]) ++ A.G) ++ [gNot ((sn : Int) + 5)], R ++ A.R, E ++ A.E), ((((G ++ [gAll [bg, (sn : Int) + 5]]) ++ A.G) ++ [gNot ((sn : Int) + 5)]) ++ [gAll [bg, (qa : Int)]], R ++ A.R, E ++ A.E), ((((G ++ [gAll [bg, (sn : Int) + 5]]) ++ A.G) ++ [gNot ((sn : Int) + 5), gAll [bg, (qa : Int)]]) ++ B.G, (R ++ A.R) ++ B.R, (E ++ A.E) ++ B.E)] 0).1.length = qa from LA.out]
            exact hK _ _ rfl hm.rel ⟨rvx, esx, hq⟩
          · intro fa fw fk hr hinv hs hb
            obtain ⟨_, s254, rfl⟩ := hs 3 254 (by kernel_rfl) (by kernel_rfl)
            obtain ⟨_, s257, rfl⟩ := hs 6 257 (by kernel_rfl) (by kernel_rfl)
            refine .inl ⟨wanted_free rfl, fun K hK => ?_⟩
            clear hs hb
            go_simp
            obtain ⟨rvx, esx, hsx⟩ := hinv.sm
            exact hK _ _ ⟨fw.heap.size, rfl, ArgP.new hsx [bg, (qa : Int)] _ rfl (by simp)⟩ ((Ext.refl _).alloc _)
          · intro fa fw hr hinv hs hb
            obtain ⟨_, s253, rfl⟩ := hs 2 253 (by kernel_rfl) (by kernel_rfl)
            obtain ⟨_, s258, b258, rfl, k258⟩ := hs 7 258 (by kernel_rfl) (by kernel_rfl)
            refine ⟨wanted_free rfl, fun K hK => ?_⟩
            clear hs hb
            go_simp
            obtain ⟨rvx, esx, hix⟩ := hinv
            refine (sall_any hix.sm _ [bg, (qa : Int)] k258 (by show (((G ++ [gAll [bg, (sn : Int) + 5]]) ++ A.G) ++ [gNot ((sn : Int) + 5)]).length ≤ 1000; have := HQAB.out; rw [List.length_append, LA.out]; simp only [List.length_cons, List.length_nil]; omega)).mono ?_
            rintro e w' ⟨rfl, hm⟩
            have hq := hix.step hm
            rw [show (nthT [((G ++ [gAll [bg, (sn : Int) + 5]]) ++ A.G, R ++ A.R, E ++ A.E), (((G ++ [gAll [bg, (sn : Int) + 5]]) ++ A.G) ++ [gNot ((sn : Int) + 5)], R ++ A.R, E ++ A.E), ((((G ++ [gAll [bg, (sn : Int) + 5]]) ++ A.G) ++ [gNot ((sn : Int) + 5)]) ++ [gAll [bg, (qa : Int)]], R ++ A.R, E ++ A.E), ((((G ++ [gAll [bg, (sn : Int) + 5]]) ++ A.G) ++ [gNot ((sn : Int) + 5), gAll [bg, (qa : Int)]]) ++ B.G, (R ++ A.R) ++ B.R, (E ++ A.E) ++ B.E)] 1).1.length = qa + 1 from by show (((G ++ [gAll [bg, (sn : Int) + 5]]) ++ A.G) ++ [gNot ((sn : Int) + 5)]).length = qa + 1; rw [List.length_append, LA.out]; rfl]
            exact hK _ _ rfl hm.rel ⟨rvx, esx, hq⟩
          · intro fa fw hr hinv hs hb
            obtain ⟨_, s251, rfl⟩ := hs 0 251 (by kernel_rfl) (by kernel_rfl)
            obtain ⟨_, s252, rfl⟩ := hs 1 252 (by kernel_rfl) (by kernel_rfl)
            obtain ⟨_, s259, rfl⟩ := hs 8 259 (by kernel_rfl) (by kernel_rfl)
            refine ⟨wanted_free rfl, fun K hK => ?_⟩
            clear hs hb
            go_simp
            obtain ⟨rvx, esx, hix⟩ := hinv
            refine (CB2.out fw rvx esx (Below.trans HX.out hix.be) hix.sm).mono ?_
            rintro e w' ⟨rvy, esy, rfl, hm⟩
            have hq := hix.step hm
            exact hK _ _ rfl hm.rel ⟨rvy, esy, hq⟩
          · intro fa fw fk hr hinv hs hb
            refine .inl ⟨wanted_free rfl, fun K hK => ?_⟩
            clear hs hb
            go_simp
            obtain ⟨rvx, esx, hsx⟩ := hinv.sm
            exact hK _ _ ⟨fw.heap.size, rfl, Box.new fw _ _, hsx.fresh ((Ext.refl _).alloc _) (Nat.le_refl _), hr.1⟩ ((Ext.refl _).alloc _)
        case rest =>
          intro w9 hrw9 hiw9
          rintro _ rfl
          rintro _ rfl
          rintro _ rfl
          rintro _ rfl
          rintro _ rfl
          rintro _ rfl
          rintro _ rfl
          rintro _ ⟨b258, rfl, k258⟩
          rintro _ rfl
          rintro _ rfl
          rintro _ ⟨b25, rfl, k25, n25, z25⟩
          simp only [putAll, List.take, Act.put, List.setIfInBounds_toArray, List.set_cons_zero, List.set_cons_succ]
          obtain ⟨rv9, es9, hi9⟩ := hiw9
          have z0 := k25.cell 0; have z1 := k25.cell 1; have f6 := k25.free
          simp only [List.getElem?_cons_zero, List.getElem?_cons_succ] at z0 z1
          have hi10 := hi9.box2 HBS.out k25 n25 (by have h1 := HI11.out.re.1; have h2 := z25; omega) (fun z hz => by have h1 := (HI11.out.lo z hz).1.lt; have h2 := z25; omega) (I (B.over)) (I (B.some))
          have HI10 := Lib.hid hi10
          clear hi9 hi10 k25 n25 z25 hrw9
          refine wpAny_ready (rs := [11]) (by kernel_rfl) (by simp) (AllReady.cons rfl (fun KK hKK => ?_) AllReady.nil)
          go_simp
          refine hKK _ _ ?_
          clear hKK KK z0 z1 f6
          refine wpAny_done (by kernel_rfl) ?_ _
          obtain ⟨w12, hw12⟩ : ∃ q, q = (w9.setCell ⟨b25, 0, none⟩ (I (B.over))).setCell ⟨b25, 1, none⟩ (I (B.some)) := ⟨_, rfl⟩
          rw [← hw12]
          have hi12 : NodeI w w0.heap.size b 3 (.slice (some ⟨pb, poff, none⟩) n pc) ((b25, 81, [I (B.over), I (B.some)]) :: ((b24, 81, [I (A.over), I (A.some)]) :: (nodeL w b bg 8 (sn : Int)))) (stN c rv9 es9 ((((G ++ [gAll [bg, (sn : Int) + 5]]) ++ A.G) ++ [gNot ((sn : Int) + 5), gAll [bg, (qa : Int)]]) ++ B.G) ((R ++ A.R) ++ B.R) ((E ++ A.E) ++ B.E)) w12 := by rw [hw12]; exact HI10.out
          clear hw12 HI10
          have HI12 := Lib.hid hi12
          clear hi12
          have C3f := Lib.hid (show ∀ k w', InvT w w0.heap.size b (.slice (some ⟨pb, poff, none⟩) n pc) ((b25, 81, [I (B.over), I (B.some)]) :: ((b24, 81, [I (A.over), I (A.some)]) :: (nodeL w b bg 8 (sn : Int)))) c [((((G ++ [gAll [bg, (sn : Int) + 5]]) ++ A.G) ++ [gNot ((sn : Int) + 5), gAll [bg, (qa : Int)]]) ++ B.G, (R ++ A.R) ++ B.R, (E ++ A.E) ++ B.E), (((((G ++ [gAll [bg, (sn : Int) + 5]]) ++ A.G) ++ [gNot ((sn : Int) + 5), gAll [bg, (qa : Int)]]) ++ B.G) ++ [gAny [A.over, B.over]], (R ++ A.R) ++ B.R, (E ++ A.E) ++ B.E), ((((((G ++ [gAll [bg, (sn : Int) + 5]]) ++ A.G) ++ [gNot ((sn : Int) + 5), gAll [bg, (qa : Int)]]) ++ B.G) ++ [gAny [A.over, B.over]]) ++ [gAny [A.some, B.some]], (R ++ A.R) ++ B.R, (E ++ A.E) ++ B.E)] k w' → w'.cell? ⟨w.heap.size, 0, none⟩ = some (.pointer (some ⟨b, 0, none⟩)) from fun k w' h => h.cell (g := w.heap.size) (T := 72) (cs := [.pointer (some ⟨b, 0, none⟩)]) (by simp) 0)
          have C5f := Lib.hid (show ∀ k w', InvT w w0.heap.size b (.slice (some ⟨pb, poff, none⟩) n pc) ((b25, 81, [I (B.over), I (B.some)]) :: ((b24, 81, [I (A.over), I (A.some)]) :: (nodeL w b bg 8 (sn : Int)))) c [((((G ++ [gAll [bg, (sn : Int) + 5]]) ++ A.G) ++ [gNot ((sn : Int) + 5), gAll [bg, (qa : Int)]]) ++ B.G, (R ++ A.R) ++ B.R, (E ++ A.E) ++ B.E), (((((G ++ [gAll [bg, (sn : Int) + 5]]) ++ A.G) ++ [gNot ((sn : Int) + 5), gAll [bg, (qa : Int)]]) ++ B.G) ++ [gAny [A.over, B.over]], (R ++ A.R) ++ B.R, (E ++ A.E) ++ B.E), ((((((G ++ [gAll [bg, (sn : Int) + 5]]) ++ A.G) ++ [gNot ((sn : Int) + 5), gAll [bg, (qa : Int)]]) ++ B.G) ++ [gAny [A.over, B.over]]) ++ [gAny [A.some, B.some]], (R ++ A.R) ++ B.R, (E ++ A.E) ++ B.E)] k w' → w'.cell? ⟨w.heap.size + 1, 0, none⟩ = some (I bg) from fun k w' h => h.cell (g := w.heap.size + 1) (T := 3) (cs := [I bg]) (by simp) 0)
          have P0a := Lib.hid (show ∀ k w', InvT w w0.heap.size b (.slice (some ⟨pb, poff, none⟩) n pc) ((b25, 81, [I (B.over), I (B.some)]) :: ((b24, 81, [I (A.over), I (A.some)]) :: (nodeL w b bg 8 (sn : Int)))) c [((((G ++ [gAll [bg, (sn : Int) + 5]]) ++ A.G) ++ [gNot ((sn : Int) + 5), gAll [bg, (qa : Int)]]) ++ B.G, (R ++ A.R) ++ B.R, (E ++ A.E) ++ B.E), (((((G ++ [gAll [bg, (sn : Int) + 5]]) ++ A.G) ++ [gNot ((sn : Int) + 5), gAll [bg, (qa : Int)]]) ++ B.G) ++ [gAny [A.over, B.over]], (R ++ A.R) ++ B.R, (E ++ A.E) ++ B.E), ((((((G ++ [gAll [bg, (sn : Int) + 5]]) ++ A.G) ++ [gNot ((sn : Int) + 5), gAll [bg, (qa : Int)]]) ++ B.G) ++ [gAny [A.over, B.over]]) ++ [gAny [A.some, B.some]], (R ++ A.R) ++ B.R, (E ++ A.E) ++ B.E)] k w' → w'.cell? ⟨b24, 0, none⟩ = some (I (A.over)) from fun k w' h => h.cell (g := b24) (T := 81) (cs := [I (A.over), I (A.some)]) (by simp) 0)
          have P1a := Lib.hid (show ∀ k w', InvT w w0.heap.size b (.slice (some ⟨pb, poff, none⟩) n pc) ((b25, 81, [I (B.over), I (B.some)]) :: ((b24, 81, [I (A.over), I (A.some)]) :: (nodeL w b bg 8 (sn : Int)))) c [((((G ++ [gAll [bg, (sn : Int) + 5]]) ++ A.G) ++ [gNot ((sn : Int) + 5), gAll [bg, (qa : Int)]]) ++ B.G, (R ++ A.R) ++ B.R, (E ++ A.E) ++ B.E), (((((G ++ [gAll [bg, (sn : Int) + 5]]) ++ A.G) ++ [gNot ((sn : Int) + 5), gAll [bg, (qa : Int)]]) ++ B.G) ++ [gAny [A.over, B.over]], (R ++ A.R) ++ B.R, (E ++ A.E) ++ B.E), ((((((G ++ [gAll [bg, (sn : Int) + 5]]) ++ A.G) ++ [gNot ((sn : Int) + 5), gAll [bg, (qa : Int)]]) ++ B.G) ++ [gAny [A.over, B.over]]) ++ [gAny [A.some, B.some]], (R ++ A.R) ++ B.R, (E ++ A.E) ++ B.E)] k w' → w'.cell? ⟨b24, 1, none⟩ = some (I (A.some)) from fun k w' h => h.cell (g := b24) (T := 81) (cs := [I (A.over), I (A.some)]) (by simp) 1)
          have P0b := Lib.hid (show ∀ k w', InvT w w0.heap.size b (.slice (some ⟨pb, poff, none⟩) n pc) ((b25, 81, [I (B.over), I (B.some)]) :: ((b24, 81, [I (A.over), I (A.some)]) :: (nodeL w b bg 8 (sn : Int)))) c [((((G ++ [gAll [bg, (sn : Int) + 5]]) ++ A.G) ++ [gNot ((sn : Int) + 5), gAll [bg, (qa : Int)]]) ++ B.G, (R ++ A.R) ++ B.R, (E ++ A.E) ++ B.E), (((((G ++ [gAll [bg, (sn : Int) + 5]]) ++ A.G) ++ [gNot ((sn : Int) + 5), gAll [bg, (qa : Int)]]) ++ B.G) ++ [gAny [A.over, B.over]], (R ++ A.R) ++ B.R, (E ++ A.E) ++ B.E), ((((((G ++ [gAll [bg, (sn : Int) + 5]]) ++ A.G) ++ [gNot ((sn : Int) + 5), gAll [bg, (qa : Int)]]) ++ B.G) ++ [gAny [A.over, B.over]]) ++ [gAny [A.some, B.some]], (R ++ A.R) ++ B.R, (E ++ A.E) ++ B.E)] k w' → w'.cell? ⟨b25, 0, none⟩ = some (I (B.over)) from fun k w' h => h.cell (g := b25) (T := 81) (cs := [I (B.over), I (B.some)]) (by simp) 0)
          have P1b := Lib.hid (show ∀ k w', InvT w w0.heap.size b (.slice (some ⟨pb, poff, none⟩) n pc) ((b25, 81, [I (B.over), I (B.some)]) :: ((b24, 81, [I (A.over), I (A.some)]) :: (nodeL w b bg 8 (sn : Int)))) c [((((G ++ [gAll [bg, (sn : Int) + 5]]) ++ A.G) ++ [gNot ((sn : Int) + 5), gAll [bg, (qa : Int)]]) ++ B.G, (R ++ A.R) ++ B.R, (E ++ A.E) ++ B.E), (((((G ++ [gAll [bg, (sn : Int) + 5]]) ++ A.G) ++ [gNot ((sn : Int) + 5), gAll [bg, (qa : Int)]]) ++ B.G) ++ [gAny [A.over, B.over]], (R ++ A.R) ++ B.R, (E ++ A.E) ++ B.E), ((((((G ++ [gAll [bg, (sn : Int) + 5]]) ++ A.G) ++ [gNot ((sn : Int) + 5), gAll [bg, (qa : Int)]]) ++ B.G) ++ [gAny [A.over, B.over]]) ++ [gAny [A.some, B.some]], (R ++ A.R) ++ B.R, (E ++ A.E) ++ B.E)] k w' → w'.cell? ⟨b25, 1, none⟩ = some (I (B.some)) from fun k w' h => h.cell (g := b25) (T := 81) (cs := [I (B.over), I (B.some)]) (by simp) 1)
          have LQ : Hid (((((G ++ [gAll [bg, (sn : Int) + 5]]) ++ A.G) ++ [gNot ((sn : Int) + 5), gAll [bg, (qa : Int)]]) ++ B.G).length = q) := by unfold Hid; rw [HQ.out, List.length_append]
          go_upto_region 36 with fail
          refine wp_flow7 15 1 [6, 13] [] (RelF b) (InvT w w0.heap.size b (.slice (some ⟨pb, poff, none⟩) n pc) ((b25, 81, [I (B.over), I (B.some)]) :: ((b24, 81, [I (A.over), I (A.some)]) :: (nodeL w b bg 8 (sn : Int)))) c [((((G ++ [gAll [bg, (sn : Int) + 5]]) ++ A.G) ++ [gNot ((sn : Int) + 5), gAll [bg, (qa : Int)]]) ++ B.G, (R ++ A.R) ++ B.R, (E ++ A.E) ++ B.E), (((((G ++ [gAll [bg, (sn : Int) + 5]]) ++ A.G) ++ [gNot ((sn : Int) + 5), gAll [bg, (qa : Int)]]) ++ B.G) ++ [gAny [A.over, B.over]], (R ++ A.R) ++ B.R, (E ++ A.E) ++ B.E), ((((((G ++ [gAll [bg, (sn : Int) + 5]]) ++ A.G) ++ [gNot ((sn : Int) + 5), gAll [bg, (qa : Int)]]) ++ B.G) ++ [gAny [A.over, B.over]]) ++ [gAny [A.some, B.some]], (R ++ A.R) ++ B.R, (E ++ A.E) ++ B.E)]) [isV (.pointer (some ⟨b, 0, none⟩)), isV (.pointer (some ⟨b24, 0, none⟩)), isV (I (A.over)), isV (.pointer (some ⟨b25, 0, none⟩)), isV (I (B.over)), fun v w => ∃ gz, v = .slice (some ⟨gz, 0, none⟩) 2 2 ∧ ArgP w w0.heap.size b (.slice (some ⟨gz, 0, none⟩) 2 2) [A.over, B.over], isV (.int .i64 ((q : Int))), isV (.pointer (some ⟨b, 0, none⟩)), isV (.pointer (some ⟨b24, 1, none⟩)), isV (I (A.some)), isV (.pointer (some ⟨b25, 1, none⟩)), isV (I (B.some)), fun v w => ∃ gz, v = .slice (some ⟨gz, 0, none⟩) 2 2 ∧ ArgP w w0.heap.size b (.slice (some ⟨gz, 0, none⟩) 2 2) [A.some, B.some], isV (.int .i64 ((q : Int) + 1)), isV (.agg #[.int .i64 ((q : Int)), .int .i64 ((q : Int) + 1)])] (by kernel_rfl) rfl rfl (by kernel_rfl) (by kernel_rfl) (by kernel_rfl) (RelF.refl b _) (fun _ _ _ h k => RelF.trans h k) (fun k w' w'' h hx => InvT.ext h hx) ⟨_, _, HI12.out⟩ ⟨.inr (fun _ _ _ h _ => h), .inr (fun _ _ _ h _ => h), .inr (fun _ _ _ h _ => h), .inr (fun _ _ _ h _ => h), .inr (fun _ _ _ h _ => h), .inr (fun v w w' ⟨g, e, h⟩ hr => ⟨g, e, h.rel hr⟩), .inr (fun _ _ _ h _ => h), .inr (fun _ _ _ h _ => h), .inr (fun _ _ _ h _ => h), .inr (fun _ _ _ h _ => h), .inr (fun _ _ _ h _ => h), .inr (fun _ _ _ h _ => h), .inr (fun v w w' ⟨g, e, h⟩ hr => ⟨g, e, h.rel hr⟩), .inr (fun _ _ _ h _ => h), .inr (fun _ _ _ h _ => h), trivial⟩ ?each ?rest
          case each =>
            refine .light rfl ?_ (.light rfl ?_ (.light rfl ?_ (.light rfl ?_ (.light rfl ?_ (.light rfl ?_ (.heavy 0 rfl ?_ (.light rfl ?_ (.light rfl ?_ (.light rfl ?_ (.light rfl ?_ (.light rfl ?_ (.light rfl ?_ (.heavy 1 rfl ?_ (.light rfl ?_ (.nil)))))))))))))))
            · intro fa fw fk hr hinv hs hb
              have s3 : fa.tmps[(3 : Nat)]? = some (.pointer (some ⟨w.heap.size, 0, none⟩)) := (hb 3 (by kernel_rfl)).trans (by rfl)
              have c0 := C3f.out _ fw hinv
              refine .inl ⟨wanted_free rfl, fun K hK => ?_⟩
              clear hs hb hr hinv
              go_simp
              exact hK _ _ rfl (Ext.refl _)
            · intro fa fw fk hr hinv hs hb
              have s24 : fa.tmps[(24 : Nat)]? = some (.pointer (some ⟨b24, 0, none⟩)) := (hb 24 (by kernel_rfl)).trans (by rfl)
              refine .inl ⟨wanted_free rfl, fun K hK => ?_⟩
              clear hs hb hr hinv
              go_simp
              exact hK _ _ rfl (Ext.refl _)
            · intro fa fw fk hr hinv hs hb
              obtain ⟨_, s262, rfl⟩ := hs 1 262 (by kernel_rfl) (by kernel_rfl)
              have c0 := P0a.out _ fw hinv
              refine .inl ⟨wanted_free rfl, fun K hK => ?_⟩
              clear hs hb hr hinv
              go_simp
              exact hK _ _ rfl (Ext.refl _)
            · intro fa fw fk hr hinv hs hb
              have s25 : fa.tmps[(25 : Nat)]? = some (.pointer (some ⟨b25, 0, none⟩)) := (hb 25 (by kernel_rfl)).trans (by rfl)
              refine .inl ⟨wanted_free rfl, fun K hK => ?_⟩
              clear hs hb hr hinv
              go_simp
              exact hK _ _ rfl (Ext.refl _)
            · intro fa fw fk hr hinv hs hb
              obtain ⟨_, s264, rfl⟩ := hs 3 264 (by kernel_rfl) (by kernel_rfl)
              have c0 := P0b.out _ fw hinv
              refine .inl ⟨wanted_free rfl, fun K hK => ?_⟩
              clear hs hb hr hinv
              go_simp
              exact hK _ _ rfl (Ext.refl _)
            · intro fa fw fk hr hinv hs hb
              obtain ⟨_, s263, rfl⟩ := hs 2 263 (by kernel_rfl) (by kernel_rfl)
              obtain ⟨_, s265, rfl⟩ := hs 4 265 (by kernel_rfl) (by kernel_rfl)
              refine .inl ⟨wanted_free rfl, fun K hK => ?_⟩
              clear hs hb
              go_simp
              obtain ⟨rvx, esx, hsx⟩ := hinv.sm
              exact hK _ _ ⟨fw.heap.size, rfl, ArgP.new hsx [A.over, B.over] _ rfl (by simp)⟩ ((Ext.refl _).alloc _)
            · intro fa fw hr hinv hs hb
              obtain ⟨_, s261, rfl⟩ := hs 0 261 (by kernel_rfl) (by kernel_rfl)
              obtain ⟨_, s266, b266, rfl, k266⟩ := hs 5 266 (by kernel_rfl) (by kernel_rfl)
              refine ⟨wanted_free rfl, fun K hK => ?_⟩
              clear hs hb
              go_simp
              obtain ⟨rvx, esx, hix⟩ := hinv
              refine (sany_any hix.sm _ [A.over, B.over] k266 (by show ((((G ++ [gAll [bg, (sn : Int) + 5]]) ++ A.G) ++ [gNot ((sn : Int) + 5), gAll [bg, (qa : Int)]]) ++ B.G).length ≤ 1000; have := LQ.out; have := HQB.out; omega)).mono ?_
              rintro e w' ⟨rfl, hm⟩
              have hq := hix.step hm
              rw [show (nthT [((((G ++ [gAll [bg, (sn : Int) + 5]]) ++ A.G) ++ [gNot ((sn : Int) + 5), gAll [bg, (qa : Int)]]) ++ B.G, (R ++ A.R) ++ B.R, (E ++ A.E) ++ B.E), (((((G ++ [gAll [bg, (sn : Int) + 5]]) ++ A.G) ++ [gNot ((sn : Int) + 5), gAll [bg, (qa : Int)]]) ++ B.G) ++ [gAny [A.over, B.over]], (R ++ A.R) ++ B.R, (E ++ A.E) ++ B.E), ((((((G ++ [gAll [bg, (sn : Int) + 5]]) ++ A.G) ++ [gNot ((sn : Int) + 5), gAll [bg, (qa : Int)]]) ++ B.G) ++ [gAny [A.over, B.over]]) ++ [gAny [A.some, B.some]], (R ++ A.R) ++ B.R, (E ++ A.E) ++ B.E)] 0).1.length = q from LQ.out]
              exact hK _ _ rfl hm.rel ⟨rvx, esx, hq⟩
            · intro fa fw fk hr hinv hs hb
              have s3 : fa.tmps[(3 : Nat)]? = some (.pointer (some ⟨w.heap.size, 0, none⟩)) := (hb 3 (by kernel_rfl)).trans (by rfl)
              have c0 := C3f.out _ fw hinv
              refine .inl ⟨wanted_free rfl, fun K hK => ?_⟩
              clear hs hb hr hinv
              go_simp
              exact hK _ _ rfl (Ext.refl _)
            · intro fa fw fk hr hinv hs hb
              have s24 : fa.tmps[(24 : Nat)]? = some (.pointer (some ⟨b24, 0, none⟩)) := (hb 24 (by kernel_rfl)).trans (by rfl)
              refine .inl ⟨wanted_free rfl, fun K hK => ?_⟩
              clear hs hb hr hinv
              go_simp
              exact hK _ _ rfl (Ext.refl _)
            · intro fa fw fk hr hinv hs hb
              obtain ⟨_, s269, rfl⟩ := hs 8 269 (by kernel_rfl) (by kernel_rfl)
              have c0 := P1a.out _ fw hinv
              refine .inl ⟨wanted_free rfl, fun K hK => ?_⟩
              clear hs hb hr hinv
              go_simp
              exact hK _ _ rfl (Ext.refl _)
            · intro fa fw fk hr hinv hs hb
              have s25 : fa.tmps[(25 : Nat)]? = some (.pointer (some ⟨b25, 0, none⟩)) := (hb 25 (by kernel_rfl)).trans (by rfl)
              refine .inl ⟨wanted_free rfl, fun K hK => ?_⟩
              clear hs hb hr hinv
              go_simp
              exact hK _ _ rfl (Ext.refl _)
            · intro fa fw fk hr hinv hs hb
              obtain ⟨_, s271, rfl⟩ := hs 10 271 (by kernel_rfl) (by kernel_rfl)
              have c0 := P1b.out _ fw hinv
              refine .inl ⟨wanted_free rfl, fun K hK => ?_⟩
              clear hs hb hr hinv
              go_simp
              exact hK _ _ rfl (Ext.refl _)
            · intro fa fw fk hr hinv hs hb
              obtain ⟨_, s270, rfl⟩ := hs 9 270 (by kernel_rfl) (by kernel_rfl)
              obtain ⟨_, s272, rfl⟩ := hs 11 272 (by kernel_rfl) (by kernel_rfl)
              refine .inl ⟨wanted_free rfl, fun K hK => ?_⟩
              clear hs hb
              go_simp
              obtain ⟨rvx, esx, hsx⟩ := hinv.sm
              exact hK _ _ ⟨fw.heap.size, rfl, ArgP.new hsx [A.some, B.some] _ rfl (by simp)⟩ ((Ext.refl _).alloc _)
            · intro fa fw hr hinv hs hb
              obtain ⟨_, s268, rfl⟩ := hs 7 268 (by kernel_rfl) (by kernel_rfl)
              obtain ⟨_, s273, b273, rfl, k273⟩ := hs 12 273 (by kernel_rfl) (by kernel_rfl)
              refine ⟨wanted_free rfl, fun K hK => ?_⟩
              clear hs hb
              go_simp
              obtain ⟨rvx, esx, hix⟩ := hinv
              refine (sany_any hix.sm _ [A.some, B.some] k273 (by show (((((G ++ [gAll [bg, (sn : Int) + 5]]) ++ A.G) ++ [gNot ((sn : Int) + 5), gAll [bg, (qa : Int)]]) ++ B.G) ++ [gAny [A.over, B.over]]).length ≤ 1000; have := HQB.out; rw [List.length_append, LQ.out]; simp only [List.length_cons, List.length_nil]; omega)).mono ?_
              rintro e w' ⟨rfl, hm⟩
              have hq := hix.step hm
              rw [show (nthT [((((G ++ [gAll [bg, (sn : Int) + 5]]) ++ A.G) ++ [gNot ((sn : Int) + 5), gAll [bg, (qa : Int)]]) ++ B.G, (R ++ A.R) ++ B.R, (E ++ A.E) ++ B.E), (((((G ++ [gAll [bg, (sn : Int) + 5]]) ++ A.G) ++ [gNot ((sn : Int) + 5), gAll [bg, (qa : Int)]]) ++ B.G) ++ [gAny [A.over, B.over]], (R ++ A.R) ++ B.R, (E ++ A.E) ++ B.E), ((((((G ++ [gAll [bg, (sn : Int) + 5]]) ++ A.G) ++ [gNot ((sn : Int) + 5), gAll [bg, (qa : Int)]]) ++ B.G) ++ [gAny [A.over, B.over]]) ++ [gAny [A.some, B.some]], (R ++ A.R) ++ B.R, (E ++ A.E) ++ B.E)] 1).1.length = q + 1 from by show (((((G ++ [gAll [bg, (sn : Int) + 5]]) ++ A.G) ++ [gNot ((sn : Int) + 5), gAll [bg, (qa : Int)]]) ++ B.G) ++ [gAny [A.over, B.over]]).length = q + 1; rw [List.length_append, LQ.out]; rfl]
              exact hK _ _ rfl hm.rel ⟨rvx, esx, hq⟩
            · intro fa fw fk hr hinv hs hb
              obtain ⟨_, s267, rfl⟩ := hs 6 267 (by kernel_rfl) (by kernel_rfl)
              obtain ⟨_, s274, rfl⟩ := hs 13 274 (by kernel_rfl) (by kernel_rfl)
              refine .inl ⟨wanted_free rfl, fun K hK => ?_⟩
              clear hs hb hr hinv
              go_simp
              exact hK _ _ rfl (Ext.refl _)
          case rest =>
            intro w9 hrw9 hiw9
            rintro _ rfl
            rintro _ rfl
            rintro _ rfl
            rintro _ rfl
            rintro _ rfl
            rintro _ ⟨b266, rfl, k266⟩
            rintro _ rfl
            rintro _ rfl
            rintro _ rfl
            rintro _ rfl
            rintro _ rfl
            rintro _ rfl
            rintro _ ⟨b273, rfl, k273⟩
            rintro _ rfl
            rintro _ rfl
            simp only [putAll, List.take, Act.put, List.setIfInBounds_toArray, List.set_cons_zero, List.set_cons_succ]
            obtain ⟨rv9, es9, hi9⟩ := hiw9
            have hb6 : Box w9 (w.heap.size + 1 + 1) 81 [I 0, I 0] := (hi9.lo (w.heap.size + 1 + 1, 81, [I 0, I 0]) (by simp)).1
            have z0 := hb6.cell 0; have z1 := hb6.cell 1; have f6 := hb6.free
            simp only [List.getElem?_cons_zero, List.getElem?_cons_succ] at z0 z1
            have hfin := hi9.finish HBS.out (m6 := w.heap.size + 1 + 1) (x := I 0) (y := I 0) (by simp) (by omega) (I ((q : Int))) (I ((q : Int) + 1))
            have HFIN := Lib.hid hfin
            clear hb6 hfin hi9 hrw9
            refine wpAny_ready (rs := [15]) (by kernel_rfl) (by simp) (AllReady.cons rfl (fun KK hKK => ?_) AllReady.nil)
            go_simp
            refine hKK _ _ ?_
            clear hKK KK z0 z1 f6
            refine wpAny_done (by kernel_rfl) ?_ _
            go_wp2
            obtain ⟨hmade, y0, y1⟩ := HFIN.out
            refine bodyPost_ret (v := .agg #[I ((q : Int)), I ((q : Int) + 1)]) ?_ rfl ⟨rv9, es9, by rw [HNF.out]; exact congrArg Ending.returned (by simp [HQ.out] <;> omega), by rw [HNF.out]; have hmm := hmade; simp only [nthT, List.append_assoc, List.cons_append, List.nil_append] at hmm ⊢; exact hmm⟩
            clear hmade HFIN
            simp [results, Try.results39, go_sem, y0, y1]
theorem node_any (hp : SlN w0 PA n p) (hn : n ≤ 14) : ∀ (t : Tr) (k : Nat), TreeAt p k t → t.ok → (∀ x ∈ t.flat, goodN x) → NodeOK w0 b PA n pc c t k
  | .leaf x, k, ht, ok, hg => by
    have hgx := hg x (by simp [Tr.flat])
    have hk := good_leaf' ok hgx
    obtain ⟨s0, s2⟩ := leaf_sig' hgx
    obtain ⟨kd, sg⟩ := x
    obtain ⟨sn, rfl⟩ : ∃ sn : Nat, sg = sn := ⟨sg.toNat, by simp only at s0; omega⟩
    have hsn : sn ≤ 2 := by simp only at s2; omega
    simp only at hk
    rcases hk with rfl | rfl | rfl | rfl | rfl
    · exact node_nothing w0 b PA n pc c p hp hn _ k ht
    · exact node_pause w0 b PA n pc c p hp hn _ k ht
    · exact node_halt w0 b PA n pc c p hp hn _ k ht
    · exact node_emit w0 b PA n pc c p hp hn sn hsn k ht
    · exact node_await w0 b PA n pc c p hp hn sn hsn k ht
  | .two x ta tb, k, ht, ok, hg => by
    have hgx := hg x (by simp [Tr.flat])
    have hk := good_two' ok.1 hgx
    obtain ⟨s0, s2⟩ := leaf_sig' hgx
    obtain ⟨ga, gb⟩ := sub_good hg
    have ia := node_any hp hn ta (k + 1) ht.first ok.2.1 ga
    have ib := node_any hp hn tb (k + 1 + ta.size) ht.second ok.2.2 gb
    obtain ⟨kd, sg⟩ := x
    obtain ⟨sn, rfl⟩ : ∃ sn : Nat, sg = sn := ⟨sg.toNat, by simp only at s0; omega⟩
    have hsn : sn ≤ 2 := by simp only at s2; omega
    simp only at hk
    rcases hk with rfl | rfl | rfl | rfl
    · exact node_seq w0 b PA n pc c p hp hn _ ta tb k ht ok hg ia ib
    · exact node_par w0 b PA n pc c p hp hn _ ta tb k ht ok hg ia ib
    · exact node_if w0 b PA n pc c p hp hn sn hsn ta tb k ht ok hg ia ib
    · exact node_was w0 b PA n pc c p hp hn sn hsn ta tb k ht ok hg ia ib
end
end Go.Proofs.Ytlafiddfplhafaa
/- forge.Net, by the program. (Printed by forgenet.py.) -/
namespace Go.Proofs.Ytlafiddfplhafaa
set_option linter.unusedVariables false
set_option linter.unusedSimpArgs false
open Go.RowKit
section
variable (PA : Option Addr) (n pc : Nat) (p : List PNode) (w : World)
set_option maxRecDepth 100000 in
set_option maxHeartbeats 16000000 in
theorem net_good (hp : SlN w PA n p) (hn : n ≤ 14) (hc0 : checkP p = 0) (t : Tr) (ht : TreeAt p 0 t) (ok : t.ok) (hg : ∀ x ∈ t.flat, goodN x) (hsz : t.size ≤ 14) :
    Calls Try.prog 14 #[.slice PA n pc] w fun e w' => ∃ i GA gn gc RA rn rc OA on oc, e = .returned (Pr (netV i GA gn gc RA rn rc OA on oc) (I 0)) ∧ NetC w' i GA gn gc RA rn rc OA on oc (netF t) ∧ Ext w w' := by
  obtain ⟨W, hW⟩ : ∃ W, W = w.alloc (.cells #[I 0, .slice none 0 0, .slice none 0 0, .slice none 0 0] 39) := ⟨_, rfl⟩
  have hx1 : Ext w W := by rw [hW]; exact (Ext.refl _).alloc _
  have hz : Box W w.heap.size 39 [I 0, .slice none 0 0, .slice none 0 0, .slice none 0 0] := by rw [hW]; exact Box.new w _ _
  have hnm : n ≤ maxLen := Nat.le_trans hn (by unfold maxLen; omega)
  have HP := Lib.hid (hp.keep hx1.keeps); have HX1 := Lib.hid hx1; have HZ := Lib.hid hz; have HN := Lib.hid hn; have HNM := Lib.hid hnm; have HC0 := Lib.hid hc0; have HT := Lib.hid ht; have HOK := Lib.hid ok; have HG := Lib.hid hg; have HSZ := Lib.hid hsz
  have HW : Hid (W = w.alloc (.cells #[I 0, .slice none 0 0, .slice none 0 0, .slice none 0 0] 39)) := hW
  clear hp hW hx1 hz hn hnm hc0 ht ok hg hsz
  go_enter Try.func14, Try.ntmps14
  go_wp2_with fail
  rw [← HW.out]
  refine (progCheck_any PA n pc p W HP.out HNM.out).mono ?_; rintro e w2 ⟨rfl, x2⟩; rw [HC0.out]
  have X2 := Lib.hid x2
  have P2 := Lib.hid (HP.out.keep x2.keeps)
  clear x2
  go_upto_region 6 with fail
  obtain ⟨w3, hw3⟩ : ∃ q, q = (w2.alloc (.cells #[.slice none 0 0, .slice none 0 0, .slice none 0 0] 23)).alloc (.cells #[I 3, .slice none 0 0, .slice none 0 0, .slice none 0 0, .slice PA n pc, .slice none 0 0, .slice none 0 0, .slice (some ⟨w2.heap.size, 0, none⟩) 3 3] 74) := ⟨_, rfl⟩
  have hi3 : InitB w2 w2.heap.size (w2.heap.size + 1) (.slice PA n pc) (sIn 0 (.slice none 0 0) w2.heap.size) w3 := by
    rw [hw3]
    have e1 : (w2.alloc (.cells #[.slice none 0 0, .slice none 0 0, .slice none 0 0] 23)).heap.size = w2.heap.size + 1 := by simp
    have hx : Ext w2 (w2.alloc (.cells #[.slice none 0 0, .slice none 0 0, .slice none 0 0] 23)) := (Ext.refl _).alloc _
    have hx' : Ext w2 ((w2.alloc (.cells #[.slice none 0 0, .slice none 0 0, .slice none 0 0] 23)).alloc (.cells #[I 3, .slice none 0 0, .slice none 0 0, .slice none 0 0, .slice PA n pc, .slice none 0 0, .slice none 0 0, .slice (some ⟨w2.heap.size, 0, none⟩) 3 3] 74)) := hx.alloc _
    refine InitB.begin w2 _ (Nat.le_refl _) _ ((Box.new w2 [.slice none 0 0, .slice none 0 0, .slice none 0 0] 23).ext ((Ext.refl _).alloc _)) ?_ (below_ext (Below.refl _ _) (Nat.le_refl _) hx')
    rw [← e1]
    exact Box.new _ _ _
  rw [← hw3]
  obtain ⟨b, hb⟩ : ∃ q, q = w2.heap.size + 1 := ⟨_, rfl⟩
  rw [← hb] at hi3
  rw [← hb]
  have HI3 := Lib.hid hi3; have HBB := Lib.hid hb
  clear hi3 hw3 hb
  obtain ⟨wI, hwI⟩ : ∃ q, q = w2 := ⟨_, rfl⟩
  have HWI := Lib.hid hwI
  obtain ⟨base, hbase⟩ : ∃ q, q = w2.heap.size := ⟨_, rfl⟩
  rw [← hbase]
  have HBA := Lib.hid hbase
  obtain ⟨pv, hpv⟩ : ∃ q, q = Value.slice PA n pc := ⟨_, rfl⟩
  have HPV := Lib.hid hpv
  have hi4 : InitB wI base b pv (sIn 0 (.slice none 0 0) base) w3 := by rw [hwI, hbase, hpv]; exact HI3.out
  have HI4 := Lib.hid hi4
  clear HI3 hwI hbase hpv hi4
  obtain ⟨inf, hti, htz, hts1, hts2⟩ := info_parts tab_int'
  have HTI := Lib.hid hti; have HTZ := Lib.hid htz; have HT1 := Lib.hid hts1; have HT2 := Lib.hid hts2
  clear hti htz hts1 hts2
  go_wp2_with fail
  go_loopw [29] (fun j wr => ∃ (k : Nat) (iv : Value), k ≤ 3 ∧ j = .int .i64 k ∧ InitB wI base b pv (sIn k iv base) wr) (fun j _ => 3 - (intOf j).toNat)
  case atStart => exact ⟨0, .slice none 0 0, Nat.zero_le _, rfl, HI4.out⟩
  case round =>
    obtain ⟨k, iv, hk, rfl, hi⟩ := hrel
    by_cases hlt : k < 3
    · obtain ⟨S, hS⟩ : ∃ S, S = sIn k iv base := ⟨_, rfl⟩
      rw [← hS] at hi
      obtain ⟨S', hS'⟩ : ∃ S', S' = S.pushG (gIn k) := ⟨_, rfl⟩
      have hgl : S.gs.length = k := by rw [hS]; exact (sIn_len k iv base).1
      have hil : S'.ins.length = k := by rw [hS', hS]; exact (sIn_len k iv base).2
      have hiv : S'.iv = S.iv := by rw [hS']
      have he6 : ∀ e', { S' with ins := S'.ins ++ [(k : Int)], iv := e' } = sIn (k + 1) e' base := fun e' => by rw [hS', hS]; exact sIn_succ k iv e' base
      have hu : ∀ wp, InitB wI base b pv S' wp → wp.ownsRow base 3 1 S.iv S'.ins.length (S'.ins.map I) := fun wp h => by rw [← hiv]; exact h.2.ins
      have HI := Lib.hid (show AppI wI base b pv S S' S.iv 0 wr from hi); have HSS := Lib.hid hS; have HS' := Lib.hid hS'; have HGL := Lib.hid hgl; have HIL := Lib.hid hil; have HIV := Lib.hid hiv; have HU := Lib.hid hu; have HE6 := Lib.hid he6
      have HK3 : Hid (k ≤ 3) := hk
      have HL0 : Hid (S.gs.length ≤ 1000) := by unfold Hid; omega
      have C5 := Lib.hid (show ∀ k' w', AppI wI base b pv S S' S.iv k' w' → w'.cell? ⟨b, 5, none⟩ = some S.iv from fun k' w' h => h.cell5 hu hiv)
      clear hi hS hS' hgl hil hiv hu he6
      go_upto_region 9 with fail
      refine wp_flow7 10 3 [7, 9] [9] (RelF b) (AppI wI base b pv S S' S.iv) [isV (.pointer (some ⟨b, 0, none⟩)), isV (.pointer (some ⟨b, 0, none⟩)), isV (.pointer (some ⟨b, 0, none⟩)), isV (.pointer (some ⟨b, 5, none⟩)), isV (S.iv), isV (.pointer (some ⟨b, 0, none⟩)), isV (I (k : Int)), isV (I (k : Int)), fun v w => ∃ gz, v = .slice (some ⟨gz, 0, none⟩) 1 1 ∧ Box w gz 3 [I (k : Int)] ∧ ¬ FootW b w gz, GrownI wI base b pv S' k (k : Int)] (by kernel_rfl) rfl rfl (by kernel_rfl) (by kernel_rfl) (by kernel_rfl) (RelF.refl b _) (fun _ _ _ h k => RelF.trans h k) (fun k w' w'' h hx => AppI.ext HU.out h hx) HI.out ⟨.inr (fun _ _ _ h _ => h), .inr (fun _ _ _ h _ => h), .inr (fun _ _ _ h _ => h), .inr (fun _ _ _ h _ => h), .inr (fun _ _ _ h _ => h), .inr (fun _ _ _ h _ => h), .inr (fun _ _ _ h _ => h), .inr (fun _ _ _ h _ => h), .inr (fun v w w' ⟨g, e, h, hn⟩ hr => ⟨g, e, hr.box h hn⟩), .inl ⟨rfl, fun v w w' h hx => GrownI.ext h hx⟩, trivial⟩ ?each ?rest
      case each =>
        refine .light rfl ?_ (.light rfl ?_ (.light rfl ?_ (.light rfl ?_ (.light rfl ?_ (.light rfl ?_ (.light rfl ?_ (.heavy 0 rfl ?_ (.light rfl ?_ (.heavy 1 rfl ?_ (.nil))))))))))
        · intro fa fw fk hr hinv hs hb
          have s5 : fa.tmps[(5 : Nat)]? = some (.pointer (some ⟨b, 0, none⟩)) := (hb 5 (by kernel_rfl)).trans (by rfl)
          refine .inl ⟨wanted_free rfl, fun K hK => ?_⟩
          clear hs hb hr hinv
          go_simp
          exact hK _ _ rfl (Ext.refl _)
        · intro fa fw fk hr hinv hs hb
          have s5 : fa.tmps[(5 : Nat)]? = some (.pointer (some ⟨b, 0, none⟩)) := (hb 5 (by kernel_rfl)).trans (by rfl)
          refine .inl ⟨wanted_free rfl, fun K hK => ?_⟩
          clear hs hb hr hinv
          go_simp
          exact hK _ _ rfl (Ext.refl _)
        · intro fa fw fk hr hinv hs hb
          obtain ⟨_, s33, rfl⟩ := hs 1 33 (by kernel_rfl) (by kernel_rfl)
          refine .inl ⟨wanted_free rfl, fun K hK => ?_⟩
          clear hs hb hr hinv
          go_simp
          exact hK _ _ rfl (Ext.refl _)
        · intro fa fw fk hr hinv hs hb
          obtain ⟨_, s34, rfl⟩ := hs 2 34 (by kernel_rfl) (by kernel_rfl)
          refine .inl ⟨wanted_free rfl, fun K hK => ?_⟩
          clear hs hb hr hinv
          go_simp
          exact hK _ _ rfl (Ext.refl _)
        · intro fa fw fk hr hinv hs hb
          obtain ⟨_, s35, rfl⟩ := hs 3 35 (by kernel_rfl) (by kernel_rfl)
          have c0 := C5.out fk fw hinv
          refine .inl ⟨wanted_free rfl, fun K hK => ?_⟩
          clear hs hb hr hinv
          go_simp
          exact hK _ _ rfl (Ext.refl _)
        · intro fa fw fk hr hinv hs hb
          have s5 : fa.tmps[(5 : Nat)]? = some (.pointer (some ⟨b, 0, none⟩)) := (hb 5 (by kernel_rfl)).trans (by rfl)
          refine .inl ⟨wanted_free rfl, fun K hK => ?_⟩
          clear hs hb hr hinv
          go_simp
          exact hK _ _ rfl (Ext.refl _)
        · intro fa fw fk hr hinv hs hb
          have s6 : fa.tmps[(6 : Nat)]? = some (I (k : Int)) := (hb 6 (by kernel_rfl)).trans (by rfl)
          refine .inl ⟨wanted_free rfl, fun K hK => ?_⟩
          clear hs hb hr hinv
          go_simp
          exact hK _ _ rfl (Ext.refl _)
        · intro fa fw hr hinv hs hb
          obtain ⟨_, s37, rfl⟩ := hs 5 37 (by kernel_rfl) (by kernel_rfl)
          obtain ⟨_, s38, rfl⟩ := hs 6 38 (by kernel_rfl) (by kernel_rfl)
          refine ⟨wanted_free rfl, fun K hK => ?_⟩
          clear hs hb
          go_simp
          have hb0 : InitB wI base b pv S fw := hinv
          refine (igate_any hb0.2 2 (k : Int) HL0.out).mono ?_
          rintro e w' ⟨rfl, hm⟩
          rw [show S.gs.length = k from HGL.out]
          have hq := hb0.made hm
          exact hK _ _ rfl hm.rel (by show InitB wI base b pv S' w'; rw [HS'.out]; exact hq)
        · intro fa fw fk hr hinv hs hb
          obtain ⟨_, s39, rfl⟩ := hs 7 39 (by kernel_rfl) (by kernel_rfl)
          refine .inl ⟨wanted_free rfl, fun K hK => ?_⟩
          clear hs hb
          go_simp
          have hx := (Ext.refl fw).alloc (.cells #[I (k : Int)] 3)
          exact hK _ _ ⟨fw.heap.size, rfl, Box.new fw _ _, AppI.fresh HU.out hinv hx (Nat.le_refl _)⟩ hx
        · intro fa fw hr hinv hs hb
          obtain ⟨_, s36, rfl⟩ := hs 4 36 (by kernel_rfl) (by kernel_rfl)
          obtain ⟨_, s40, b40, rfl, k40, n40⟩ := hs 8 40 (by kernel_rfl) (by kernel_rfl)
          refine ⟨wanted_free rfl, fun K hK => ?_⟩
          clear hs hb
          have hi0 : InitB wI base b pv S' fw := hinv
          have hrow := HU.out fw hi0
          refine wp_append_lies fw (.tmp 36) (.tmp 40) 23 rfl base 3 inf _ 1 8 Try.underlying23 HTI.out HTZ.out HT1.out HT2.out rfl (by omega) S.iv k (S'.ins.map I) (by go_simp) (by have := hrow; rw [HIL.out] at this; exact this) ⟨b40, 0, none⟩ 1 1 [I (k : Int)] (by go_simp) rfl (fun j u hu => by rw [add_zero, k40.cell]; exact hu) (by simp [Value.oneCell']) (by omega) (by unfold maxLen; have := HK3.out; omega) (by have := HK3.out; omega) hi0.2.size.1 _ rfl ?_
          intro g6 cap6 w6 hown6 hgr6 hat6 hlt6
          obtain ⟨-, V0, hv0, hv1⟩ := id hi0
          have hrel : RelF b fw w6 := hv0.rel_grown hrow (fun g hg => (hv0.foot g).2 (.inr (.inr (.inr (.inr (.inl (by rw [hv1.e2, HIV.out]; exact hg))))))) hgr6
          exact hK _ _ ⟨g6, cap6, fw, rfl, hi0, (by rw [HIV.out]; exact hgr6), hown6, (by rw [HIV.out]; exact hat6.imp id (fun e => by rw [e]; exact Nat.le_refl _))⟩ hrel ⟨fw, hi0, hgr6⟩
      case rest =>
        intro w9 hrw9 hiw9
        rintro _ rfl
        rintro _ rfl
        rintro _ rfl
        rintro _ rfl
        rintro _ rfl
        rintro _ rfl
        rintro _ rfl
        rintro _ rfl
        rintro _ ⟨b40, rfl, k40, n40⟩
        rintro _ ⟨g6, cap6, wp, rfl, hp6, hg6, ho6, hf6⟩
        simp only [putAll, List.take, Act.put, List.setIfInBounds_toArray, List.set_cons_zero, List.set_cons_succ]
        have hmk := hp6.2.pushI (x := (k : Int)) hg6 (by rw [HIL.out]; exact ho6) (fun g hg => by simp only [Value.ownBlock, Option.some.injEq] at hg; subst hg; exact hf6)
        have hi7 := hp6.made hmk
        rw [HE6.out] at hi7
        obtain ⟨V5, b5, -⟩ := AppI.boxes (k := 2) (S := S) (S' := S') (u := S.iv) ⟨wp, hp6, by rw [← HIV.out]; exact hg6⟩ HU.out
        have f5 := b5.free 5
        have z5 := b5.cell 5
        simp only [List.getElem?_cons_zero, List.getElem?_cons_succ] at z5
        have HI7 := Lib.hid hi7
        clear hmk hi7 hp6 hg6 ho6 hf6 hrw9 hiw9 b5
        refine wpAny_ready (rs := [10]) (by kernel_rfl) (by simp) (AllReady.cons rfl (fun KK hKK => ?_) AllReady.nil)
        go_simp
        refine hKK _ _ ?_
        clear hKK KK
        refine wpAny_ready (rs := [11]) (by kernel_rfl) (by simp) (AllReady.cons rfl (fun KK hKK => ?_) AllReady.nil)
        go_simp
        refine hKK _ _ ?_
        clear hKK KK
        refine wpAny_ready (rs := [12]) (by kernel_rfl) (by simp) (AllReady.cons rfl (fun KK hKK => ?_) AllReady.nil)
        go_simp
        refine hKK _ _ ?_
        clear hKK KK z5 f5
        refine wpAny_done (by kernel_rfl) ?_ _
        go_wp2_with fail
        go_roundw
        · exact ⟨k + 1, .slice (some ⟨g6, 0, none⟩) (k + 1) cap6, by omega, by simp, HI7.out⟩
        · simp [intOf]; omega
    · obtain rfl : k = 3 := by omega
      have HI5 := Lib.hid hi
      clear hi
      go_wp2_with fail
      refine (istore_any HI5.out.2 true (by rw [(sIn_len 3 iv base).1]; omega) (by simp [sIn])).mono ?_
      rintro e w4 ⟨rv', rfl, hm4⟩
      rw [(sIn_len 3 iv base).1]
      obtain ⟨SA, hSA⟩ : ∃ S, S = ((sIn 3 iv base).pushR ⟨true, 0⟩ rv').pushG (gReg 0) := ⟨_, rfl⟩
      have hi6 : InitB wI base b pv SA w4 := by rw [hSA]; exact HI5.out.made hm4
      have hA : SA.gs.length = 4 := by rw [hSA]; simp [sIn]
      obtain ⟨rb, rc, erv⟩ := own_form hi6.2.regs (by rw [hSA]; simp [sIn])
      have erl : SA.rs.length = 1 := by rw [hSA]; simp [sIn]
      rw [erl] at erv
      obtain ⟨SB, hSB⟩ : ∃ S, S = SA.pushG gNever := ⟨_, rfl⟩
      have hBv : SB.rv = .slice (some ⟨rb, 0, none⟩) 1 rc := by rw [hSB]; exact erv
      have CR := Lib.hid (show ∀ k w', InitB wI base b pv (nthS [SA, SB] k) w' → w'.cell? ⟨b, 2, none⟩ = some (.slice (some ⟨rb, 0, none⟩) 1 rc) from fun k w' h => by
        rw [h.2.cellR]
        rcases k with _ | k
        · exact congrArg some erv
        · exact congrArg some (by rw [← hBv]; rfl))
      have HI6 := Lib.hid hi6; have HSA := Lib.hid hSA; have HSB := Lib.hid hSB; have HLA := Lib.hid hA; have HBV := Lib.hid hBv
      clear hi6 hSA hSB hA erv erl hBv hm4 HI5
      go_upto_region 12 with fail
      refine wp_flow7 8 3 [7] [] (RelF b) (fun k => InitB wI base b pv (nthS [SA, SB] k)) [isV (.pointer (some ⟨b, 0, none⟩)), isV (.pointer (some ⟨b, 0, none⟩)), isV (.pointer (some ⟨b, 0, none⟩)), isV (.pointer (some ⟨b, 2, none⟩)), isV (.slice (some ⟨rb, 0, none⟩) 1 rc), isV (.int .i64 0), isV (.pointer (some ⟨b, 0, none⟩)), isV (I ((4 : Nat) : Int))] (by kernel_rfl) rfl rfl (by kernel_rfl) (by kernel_rfl) (by kernel_rfl) (RelF.refl b _) (fun _ _ _ h k => RelF.trans h k) (fun k w' w'' h hx => InitB.ext h hx) HI6.out ⟨.inr (fun _ _ _ h _ => h), .inr (fun _ _ _ h _ => h), .inr (fun _ _ _ h _ => h), .inr (fun _ _ _ h _ => h), .inr (fun _ _ _ h _ => h), .inr (fun _ _ _ h _ => h), .inr (fun _ _ _ h _ => h), .inr (fun _ _ _ h _ => h), trivial⟩ ?each ?rest
      case each =>
        refine .light rfl ?_ (.light rfl ?_ (.light rfl ?_ (.light rfl ?_ (.light rfl ?_ (.light rfl ?_ (.light rfl ?_ (.heavy 0 rfl ?_ (.nil))))))))
        · intro fa fw fk hr hinv hs hb
          have s5 : fa.tmps[(5 : Nat)]? = some (.pointer (some ⟨b, 0, none⟩)) := (hb 5 (by kernel_rfl)).trans (by rfl)
          refine .inl ⟨wanted_free rfl, fun K hK => ?_⟩
          clear hs hb hr hinv
          go_simp
          exact hK _ _ rfl (Ext.refl _)
        · intro fa fw fk hr hinv hs hb
          obtain ⟨_, s50, rfl⟩ := hs 0 50 (by kernel_rfl) (by kernel_rfl)
          refine .inl ⟨wanted_free rfl, fun K hK => ?_⟩
          clear hs hb hr hinv
          go_simp
          exact hK _ _ rfl (Ext.refl _)
        · intro fa fw fk hr hinv hs hb
          obtain ⟨_, s51, rfl⟩ := hs 1 51 (by kernel_rfl) (by kernel_rfl)
          refine .inl ⟨wanted_free rfl, fun K hK => ?_⟩
          clear hs hb hr hinv
          go_simp
          exact hK _ _ rfl (Ext.refl _)
        · intro fa fw fk hr hinv hs hb
          obtain ⟨_, s52, rfl⟩ := hs 2 52 (by kernel_rfl) (by kernel_rfl)
          refine .inl ⟨wanted_free rfl, fun K hK => ?_⟩
          clear hs hb hr hinv
          go_simp
          exact hK _ _ rfl (Ext.refl _)
        · intro fa fw fk hr hinv hs hb
          obtain ⟨_, s53, rfl⟩ := hs 3 53 (by kernel_rfl) (by kernel_rfl)
          have c0 := CR.out fk fw hinv
          refine .inl ⟨wanted_free rfl, fun K hK => ?_⟩
          clear hs hb hr hinv
          go_simp
          exact hK _ _ rfl (Ext.refl _)
        · intro fa fw fk hr hinv hs hb
          have s8 : fa.tmps[(8 : Nat)]? = some (.int .i64 0) := (hb 8 (by kernel_rfl)).trans (by rfl)
          refine .inl ⟨wanted_free rfl, fun K hK => ?_⟩
          clear hs hb hr hinv
          go_simp
          exact hK _ _ rfl (Ext.refl _)
        · intro fa fw fk hr hinv hs hb
          have s5 : fa.tmps[(5 : Nat)]? = some (.pointer (some ⟨b, 0, none⟩)) := (hb 5 (by kernel_rfl)).trans (by rfl)
          refine .inl ⟨wanted_free rfl, fun K hK => ?_⟩
          clear hs hb hr hinv
          go_simp
          exact hK _ _ rfl (Ext.refl _)
        · intro fa fw hr hinv hs hb
          obtain ⟨_, s56, rfl⟩ := hs 6 56 (by kernel_rfl) (by kernel_rfl)
          refine ⟨wanted_free rfl, fun K hK => ?_⟩
          clear hs hb
          go_simp
          have hb0 : InitB wI base b pv SA fw := hinv
          refine (igate_any hb0.2 0 0 (by rw [HLA.out]; omega)).mono ?_
          rintro e w' ⟨rfl, hm⟩
          rw [HLA.out]
          have hq := hb0.made hm
          exact hK _ _ rfl hm.rel (by show InitB wI base b pv SB w'; rw [HSB.out]; exact hq)
      case rest =>
        intro w9 hrw9 hiw9
        rintro _ rfl
        rintro _ rfl
        rintro _ rfl
        rintro _ rfl
        rintro _ rfl
        rintro _ rfl
        rintro _ rfl
        rintro _ rfl
        simp only [putAll, List.take, Act.put, List.setIfInBounds_toArray, List.set_cons_zero, List.set_cons_succ]
        have hi9 : InitB wI base b pv SB w9 := hiw9
        have hrow := hi9.2.regs
        have hr0 : SB.rs = [⟨true, 0⟩] := by rw [HSB.out, HSA.out]; rfl
        rw [HBV.out, hr0] at hrow
        have c0 : w9.cell? ⟨rb, 1, none⟩ = some (I 0) := (hrow.cellAt 1 (by decide)).trans rfl
        have fz := hrow.frozenAt
        have hi10 := hi9.made (hi9.2.setNext HBV.out (m := 0) (r := ⟨true, 0⟩) (by rw [hr0]; rfl) ((4 : Nat) : Int))
        have hSC : { SB with rs := SB.rs.set 0 ⟨true, ((4 : Nat) : Int)⟩ } = sWa 0 rv' iv (.slice none 0 0) base := by rw [HSB.out, HSA.out]; rfl
        rw [hSC] at hi10
        have HI10 := Lib.hid hi10
        clear hrow hi10 hSC hr0 hi9 hiw9 hrw9
        refine wpAny_ready (rs := [8]) (by kernel_rfl) (by simp) (AllReady.cons rfl (fun KK hKK => ?_) AllReady.nil)
        go_simp
        refine hKK _ _ ?_
        clear hKK KK
        refine wpAny_ready (rs := [9]) (by kernel_rfl) (by simp) (AllReady.cons rfl (fun KK hKK => ?_) AllReady.nil)
        go_simp
        refine hKK _ _ ?_
        clear hKK KK
        refine wpAny_ready (rs := [10]) (by kernel_rfl) (by simp) (AllReady.cons rfl (fun KK hKK => ?_) AllReady.nil)
        go_simp
        refine hKK _ _ ?_
        clear hKK KK c0 fz
        refine wpAny_done (by kernel_rfl) ?_ _
        obtain ⟨w10, hw10⟩ : ∃ q, q = w9.setCell ⟨rb, 1, none⟩ (I ((4 : Nat) : Int)) := ⟨_, rfl⟩
        have hi11 : InitB wI base b pv (sWa 0 rv' iv (.slice none 0 0) base) w10 := by rw [hw10]; exact HI10.out
        have HI11 := Lib.hid hi11; have HW10 := Lib.hid hw10
        have hw11 : w9.setCell ⟨rb, 1, none⟩ (.int .i64 4) = w10 := HW10.out.symm
        rw [hw11]
        clear HI10 hi11 hw10 hw11
        go_wp2_with fail
        clear HW10
        go_loopw [60, 9] (fun j v9 wr => ∃ (k : Nat) (rv wv : Value) (A9 : Option Addr) (c9 : Nat), k ≤ 3 ∧ j = .int .i64 k ∧ v9 = .slice A9 k c9 ∧ InitB wI base b pv (sWa k rv iv wv base) wr ∧ wr.ownsRow base 3 1 (.slice A9 k c9) k ((List.range k).map fun j => I (Int.ofNat j + 1)) ∧ ∀ g, (Value.slice A9 k c9).ownBlock = some g → ¬ FootW b wr g) (fun j _ _ => 3 - (intOf j).toNat)
        case atStart => exact ⟨0, rv', .slice none 0 0, none, 0, Nat.zero_le _, rfl, rfl, HI11.out, World.ownsRow_nil _ _ _ _, fun g e => by simp [Value.ownBlock] at e⟩
        case round =>
          obtain ⟨k, rv, wv, A9, c9, hk, rfl, rfl, hi, ho9, hf9⟩ := hrel
          by_cases hlt : k < 3
          · have HI := Lib.hid hi; have HO9 := Lib.hid ho9; have HF9 := Lib.hid hf9; have HK := Lib.hid hk
            clear hi ho9 hf9
            go_wp2_with fail
            obtain ⟨gl, rl, wl⟩ := sWa_len HK.out rv iv wv base
            refine (istore_any HI.out.2 false (by rw [gl]; omega) (by rw [rl]; omega)).mono ?_
            rintro e w4 ⟨rv4, rfl, hm4⟩
            rw [gl, rl]
            obtain ⟨S1, hS1⟩ : ∃ S, S = ((sWa k rv iv wv base).pushR ⟨false, 0⟩ rv4).pushG (gReg (k + 1)) := ⟨_, rfl⟩
            have hi4 : InitB wI base b pv S1 w4 := by have := HI.out.made hm4; rw [rl] at this; rw [hS1]; exact this
            have he6 : ∀ e', { S1 with was := S1.was ++ [((5 + k : Nat) : Int)], wv := e' } = sWa (k + 1) rv4 iv e' base := fun e' => by rw [hS1]; exact sWa_lt hlt rv iv wv rv4 e' base
            have hwl : S1.was.length = k := by rw [hS1]; exact wl
            obtain ⟨o9, f9⟩ := hm4.rel.own HO9.out HF9.out
            obtain ⟨wA, wc, ewv, -, -, -⟩ := own_slice hi4.2.was
            rw [hwl] at ewv
            have hs4 : base ≤ w4.heap.size := hi4.2.size.1
            have m6 := hi4.2.cellW
            rw [ewv] at m6
            have HI4' := Lib.hid hi4; have HS1 := Lib.hid hS1; have HE6 := Lib.hid he6; have HWL := Lib.hid hwl; have HO := Lib.hid o9; have HF := Lib.hid f9; have HEW := Lib.hid ewv; have HS4 := Lib.hid hs4
            clear gl rl wl hm4 hi4 hS1 he6 hwl o9 f9 ewv hs4 HI HO9 HF9
            have m6 := (Keeps.alloc w4 (.cells #[I ((5 + k : Nat) : Int)] 3)) _ _ m6
            go_upto_region 18 with (at_builtin; refine wpList_append_lies _ rfl (.tmp 71) (.tmp 73) 23 rfl base 3 inf _ 1 8 Try.underlying23 HTI.out HTZ.out HT1.out HT2.out rfl (by omega) (.slice wA k wc) k (S1.was.map I) rfl (by have := (own_ext HI4'.out.2.was ((Ext.refl w4).alloc (.cells #[I ((5 + k : Nat) : Int)] 3))); rw [HWL.out, HEW.out] at this; exact this) ⟨w4.heap.size, 0, none⟩ 1 1 [I ((5 + k : Nat) : Int)] rfl rfl (fun j u hu => by rw [add_zero, World.cell?_alloc_new]; simpa using hu) (by simp [Value.oneCell']) (by omega) (by unfold maxLen; omega) (by omega) (Nat.le_trans HS4.out (by simp)) _ rfl ?_; intro g6 cap6 w6 hown6 hgr6 hat6 hlt6; obtain ⟨V, hV, hVi⟩ := id HI4'.out.2; have hx := (Ext.refl w4).alloc (.cells #[I ((5 + k : Nat) : Int)] 3); have kb : Box w6 b 74 (V.cells 3 pv) := (hV.box.ext hx).kept hgr6 (by rw [← HEW.out, ← hVi.e3]; exact hV.box.apart hV.was (by decide)); have f6 := kb.free; have m7 : w6.cell? ⟨b, 6, none⟩ = some V.wv := kb.cell 6; have HO6 := Lib.hid hown6; have HG6 := Lib.hid hgr6; have HAT := Lib.hid hat6; clear hown6 hgr6 hat6 hlt6 hx kb hV hVi m6)
            have hx4 := (Ext.refl w4).alloc (.cells #[I (5 + (k : Int))] 3)
            have hgr : w4.grownBy w6 S1.wv.ownBlock := by
              have hg := HG6.out
              rw [HEW.out]
              exact ⟨hg.os, hg.tape, hg.output, Nat.le_trans hx4.size hg.size, fun i hi hne => (hg.block i (Nat.lt_of_lt_of_le hi hx4.size) hne).trans (hx4.block i hi)⟩
            have hmk := HI4'.out.2.pushW (x := ((5 + k : Nat) : Int)) hgr (by rw [HWL.out]; exact HO6.out) (fun g hg => by
              simp only [Value.ownBlock, Option.some.injEq] at hg
              subst hg
              rcases HAT.out with e | e
              · left; rw [HEW.out]; exact e
              · right; rw [e]; simp)
            have hi7 := HI4'.out.made hmk
            rw [HE6.out] at hi7
            obtain ⟨o9, f9⟩ := hmk.rel.own HO.out HF.out
            obtain ⟨w7, hw7⟩ : ∃ q, q = w6.setCell ⟨b, 6, none⟩ (.slice (some ⟨g6, 0, none⟩) (k + 1) cap6) := ⟨_, rfl⟩
            rw [← hw7] at hi7 o9 f9
            rw [← hw7]
            have hs7 : base ≤ w7.heap.size := hi7.2.size.1
            have HI7 := Lib.hid hi7; have O9 := Lib.hid o9; have F9 := Lib.hid f9; have HS7 := Lib.hid hs7
            clear hx4 hgr hmk hi7 o9 f9 hw7 hs7 f6 m7 HO6 HG6 HAT HI4' HS1 HE6 HWL HO HF HEW HS4
            go_wp2_with (at_builtin; refine wpList_append_lies _ rfl (.tmp 77) (.tmp 79) 23 rfl base 3 inf _ 1 8 Try.underlying23 HTI.out HTZ.out HT1.out HT2.out rfl (by omega) (.slice A9 k c9) k ((List.range k).map fun j => I (Int.ofNat j + 1)) rfl (own_ext O9.out ((Ext.refl w7).alloc (.cells #[I ((k : Int) + 1)] 3))) ⟨w7.heap.size, 0, none⟩ 1 1 [I ((k : Int) + 1)] rfl rfl (fun j u hu => by rw [add_zero, World.cell?_alloc_new]; simpa using hu) (by simp [Value.oneCell']) (by omega) (by unfold maxLen; omega) (by omega) (Nat.le_trans HS7.out (by simp)) _ rfl ?_; intro g8 cap8 w8 hown8 hgr8 hat8 hlt8; have HO8 := Lib.hid hown8; have HG8 := Lib.hid hgr8; have HAT8 := Lib.hid hat8; clear hown8 hgr8 hat8 hlt8)
            have hx7 := (Ext.refl w7).alloc (.cells #[I ((k : Int) + 1)] 3)
            have hgr8 : w7.grownBy w8 (Value.slice A9 k c9).ownBlock := by
              have hg := HG8.out
              exact ⟨hg.os, hg.tape, hg.output, Nat.le_trans hx7.size hg.size, fun i hi hne => (hg.block i (Nat.lt_of_lt_of_le hi hx7.size) hne).trans (hx7.block i hi)⟩
            obtain ⟨k1, k2⟩ := HI7.out.2.other hgr8 F9.out
            have hb8 : InitB wI base b pv (sWa (k + 1) rv4 iv (.slice (some ⟨g6, 0, none⟩) (k + 1) cap6) base) w8 := ⟨Below.grown HI7.out.1 hgr8 HS7.out (fun g e => (O9.out.lt g e).1), k1⟩
            have hf8 : ∀ g, (Value.slice (some ⟨g8, 0, none⟩) (k + 1) cap8).ownBlock = some g → ¬ FootW b w8 g := fun g hg hf => by
              simp only [Value.ownBlock, Option.some.injEq] at hg
              subst hg
              rcases HAT8.out with e | e
              · exact F9.out g8 e ((k2 g8).1 hf)
              · obtain ⟨V, hV, -⟩ := HI7.out.2
                have := (hV.foot_lt ((k2 g8).1 hf)).2
                simp at e
                omega
            have HB8 := Lib.hid hb8; have HF8 := Lib.hid hf8
            clear hx7 hgr8 k1 k2 hb8 hf8
            go_roundw
            case rel => exact ⟨k + 1, rv4, _, _, _, by omega, by simp, rfl, HB8.out, by rw [List.range_succ, List.map_append]; exact HO8.out, HF8.out⟩
            case measure => simp [intOf]; omega
          · obtain rfl : k = 3 := by omega
            have hbe : base = wI.heap.size := by rw [HBA.out, HWI.out]
            have hb := hi.1
            have hxI : Ext wI wr := ⟨hb.os, hb.tape, hb.output, hb.size, fun i hi => hb.block i (by rw [hbe]; exact hi)⟩
            have hsm := hi.2.sm
            have hst : sWa 3 rv iv wv base = stN (sWa 3 rv iv wv base) rv [.slice none 0 0, .slice none 0 0, .slice none 0 0] headG [⟨true, 4⟩, ⟨false, 0⟩, ⟨false, 0⟩, ⟨false, 0⟩] [] := rfl
            obtain ⟨C, hC⟩ : ∃ C, C = sWa 3 rv iv wv base := ⟨_, rfl⟩
            rw [← hC] at hst hsm
            rw [hst, hbe, HPV.out] at hsm
            have hPI : SlN wI PA n p := by rw [HWI.out]; exact P2.out
            have HSM := Lib.hid hsm; have HXI := Lib.hid hxI; have HBE := Lib.hid hbe; have HPI := Lib.hid hPI; have O9 := Lib.hid ho9; have F9 := Lib.hid hf9; have HCC := Lib.hid hC; have HBW := Lib.hid hb
            clear hi hb hxI hsm hst hbe hPI ho9 hf9 hC
            go_wp2_with fail
            refine (node_any wI b PA n pc C p HPI.out HN.out t 0 HT.out HOK.out HG.out wr rv _ headG _ [] 3 HXI.out HSM.out (by have := HSZ.out; simp [headG]; omega) (by have := HSZ.out; simp; omega) (by have := HSZ.out; simp; omega) (by simp [headG]) (by omega) (by simp [headG])).mono ?_
            rintro e w11 ⟨rv5, es5, rfl, hm5⟩
            obtain ⟨o, ho⟩ : ∃ o, o = nodeF t 8 4 3 := ⟨_, rfl⟩
            have hm6 : MadeP wr w11 base b 3 pv (stN C rv5 es5 (headG ++ o.G) ([⟨true, 4⟩, ⟨false, 0⟩, ⟨false, 0⟩, ⟨false, 0⟩] ++ o.R) o.E) := by rw [HBE.out, HPV.out, ho]; exact hm5
            obtain ⟨gq, hq⟩ : ∃ gq, gq = 8 + o.G.length := ⟨_, rfl⟩
            have hgq : gq ≤ 900 := by rw [hq, ho]; have := (nodeF_ok t 8 4 3 HOK.out HG.out (by omega) (by omega) (by omega)).size; have := HSZ.out; omega
            obtain ⟨SE, hSE⟩ : ∃ f : Nat → SmithM, f = sEm C rv5 es5 (headG ++ o.G) ([⟨true, 4⟩, ⟨false, 0⟩, ⟨false, 0⟩, ⟨false, 0⟩] ++ o.R) o.E (gq : Int) := ⟨_, rfl⟩
            have hCo : C.outs = [] := by rw [HCC.out]; rfl
            have hCe : C.eb = base := by rw [HCC.out]; rfl
            have hse0 : SE 0 = stN C rv5 es5 (headG ++ o.G) ([⟨true, 4⟩, ⟨false, 0⟩, ⟨false, 0⟩, ⟨false, 0⟩] ++ o.R) o.E := by rw [hSE]; simp [sEm, stN, rsE, hCo]
            have he0 := hm6.sm.ends
            rw [← hse0] at he0
            have hbel : Below base wI w11 := HBW.out.trans hm6.below
            obtain ⟨o9, f9⟩ := hm6.rel.own O9.out F9.out
            obtain ⟨b9, d9, e9⟩ := own_form o9 (by decide)
            injection e9 with e9 _ e10
            subst e9; subst e10
            have hrg := he0.regs
            have hrl : (SE 0).rs.length = 4 + o.R.length := by rw [hse0]; simp [stN]; omega
            rw [hrl] at hrg
            obtain ⟨rb5, rc5, erv⟩ := own_form hrg (by omega)
            have hrv0 : rv5 = .slice (some ⟨rb5, 0, none⟩) (4 + o.R.length) rc5 := by rw [← erv, hSE]; rfl
            have hel : es5.length = 3 := by
              obtain ⟨V, hV, -, -, -, e5⟩ := he0
              have := hV.el.1
              rw [e5, hSE] at this
              exact this
            have hc7 := he0.cellE
            rw [show (SE 0).eb = base from by rw [hSE]; exact hCe] at hc7
            obtain ⟨nR, hnR⟩ : ∃ nR, nR = 4 + o.R.length := ⟨_, rfl⟩
            rw [← hnR] at hrv0
            have HO := Lib.hid ho; have HQ := Lib.hid hq; have HGQ := Lib.hid hgq; have HSE := Lib.hid hSE; have HCO := Lib.hid hCo; have HCE := Lib.hid hCe; have HE0 := Lib.hid he0; have HBEL := Lib.hid hbel; have O9' := Lib.hid o9; have F9' := Lib.hid f9; have HRV := Lib.hid hrv0; have HEL := Lib.hid hel; have HNR := Lib.hid hnR
            clear ho hm5 hm6 hq hgq hSE hCo hCe hse0 he0 hbel o9 f9 hrg hrl erv hrv0 hel hnR HSM HXI HPI O9 F9 HBW
            go_wp2_with fail
            clear hc7
            go_loopw [90] (fun j wr => ∃ k : Nat, k ≤ 3 ∧ j = .int .i64 k ∧ Below base wI wr ∧ EndP wr base b pv (SE k) ∧ wr.ownsRow base 3 1 (.slice (some ⟨b9, 0, none⟩) 3 c9) 3 ((List.range 3).map fun j => I (Int.ofNat j + 1)) ∧ ∀ g, (Value.slice (some ⟨b9, 0, none⟩) 3 c9).ownBlock = some g → ¬ FootW b wr g) (fun j _ => 3 - (intOf j).toNat)
            case atStart => exact ⟨0, Nat.zero_le _, rfl, HBEL.out, HE0.out, O9'.out, F9'.out⟩
            case round =>
              obtain ⟨k, hk, rfl, hbw, he, ho9, hf9⟩ := hrel
              by_cases hlt : k < 3
              · have hki : (k : Int) < 3 := by omega
                have hee : (SE k).es = es5 ∧ (SE k).eb = base ∧ (SE k).em = emOf o.E ∧ (SE k).rv = .slice (some ⟨rb5, 0, none⟩) nR rc5 ∧ (SE k).gs.length = gq + k := by
                  rw [HSE.out]; refine ⟨rfl, HCE.out, rfl, HRV.out, ?_⟩
                  simp [sEm, headG]; have := HQ.out; omega
                have heb := he.ebox
                rw [hee.1, hee.2.1] at heb
                have hek : es5[k]? = some (ekF es5 k) := ekF_at (by rw [HEL.out]; exact hlt)
                have c7 := heb.cell k
                rw [hek] at c7
                have HEE := Lib.hid hee; have HB := Lib.hid hbw; have HE := Lib.hid he; have HO9 := Lib.hid ho9; have HF9 := Lib.hid hf9; have HEK := Lib.hid hek; have HLT := Lib.hid hlt
                clear hee hbw he ho9 hf9 hek heb
                go_wp2_with fail
                have hem : (SE k).em[k]? = some (emitsF o.E (Int.ofNat k)) := by
                  rw [HEE.out.2.2.1]
                  have := HLT.out
                  have : k = 0 ∨ k = 1 ∨ k = 2 := by omega
                  rcases this with rfl | rfl | rfl <;> rfl
                refine (eany_any HE.out (k := k) (by rw [HEE.out.1]; exact HEK.out) hem (by rw [HEE.out.2.2.2.2]; have := HGQ.out; omega)).mono ?_
                rintro e w13 ⟨rfl, hm4⟩
                rw [HEE.out.2.2.2.2]
                obtain ⟨S1, hS1⟩ : ∃ S, S = (SE k).pushG (gAny (emitsF o.E (Int.ofNat k))) := ⟨_, rfl⟩
                have he4 : EndP w13 base b pv S1 := by rw [hS1]; exact hm4.sm
                have hb4 : Below base wI w13 := HB.out.trans hm4.below
                obtain ⟨p9, g9⟩ := hm4.rel.own HO9.out HF9.out
                have hv1 : S1.rv = .slice (some ⟨rb5, 0, none⟩) nR rc5 := by rw [hS1]; exact HEE.out.2.2.2.1
                have hat : S1.rs[k + 1]? = some ⟨false, 0⟩ := by rw [hS1, HSE.out]; exact rsE_at _ _ _ HLT.out
                have hrl1 : S1.rs.length = nR := by rw [hS1, HSE.out, HNR.out]; show (rsE _ _ k).length = _; rw [rsE_len]; simp; omega
                have hnr4 : 4 ≤ nR := by rw [HNR.out]; omega
                have CR := Lib.hid (show ∀ w', (Below base wI w' ∧ EndP w' base b pv S1) → w'.cell? ⟨b, 2, none⟩ = some (.slice (some ⟨rb5, 0, none⟩) nR rc5) from fun w' h => by rw [h.2.cellR, hv1])
                have C9 := Lib.hid (show ∀ w', RelF b w13 w' → w'.cell? ⟨b9, k, none⟩ = some (I ((k : Int) + 1)) from fun w' h => by
                  have h1 := (h.own p9 g9).1
                  have h2 := h1.cellAt k (by have := HLT.out; omega)
                  refine h2.trans ?_
                  rw [List.getElem?_map, List.getElem?_range HLT.out]; rfl)
                have HI0 := Lib.hid (show Below base wI w13 ∧ EndP w13 base b pv S1 from ⟨hb4, he4⟩)
                have P9 := Lib.hid p9; have G9 := Lib.hid g9; have HV1 := Lib.hid hv1; have HAT := Lib.hid hat; have HRL := Lib.hid hrl1; have HS1 := Lib.hid hS1; have HN4 := Lib.hid hnr4
                clear hem hm4 hS1 he4 hb4 p9 g9 hv1 hat hrl1 hnr4 c7
                go_upto_region 25 with fail
                refine wp_flow7 10 3 [] [] (RelF b) (fun _ w' => Below base wI w' ∧ EndP w' base b pv S1) [isV (.pointer (some ⟨b, 0, none⟩)), isV (.pointer (some ⟨b, 0, none⟩)), isV (.pointer (some ⟨b, 0, none⟩)), isV (.pointer (some ⟨b, 2, none⟩)), isV (.slice (some ⟨rb5, 0, none⟩) nR rc5), isV (.slice (some ⟨b9, 0, none⟩) 3 c9), isV (.int .i64 k), isV (.pointer (some ⟨b9, k, none⟩)), isV (I ((k : Int) + 1)), isV (I ((gq : Int) + k))] (by kernel_rfl) rfl rfl (by kernel_rfl) (by kernel_rfl) (by kernel_rfl) (RelF.refl b _) (fun _ _ _ h k => RelF.trans h k) (fun k w' w'' h hx => ⟨⟨below_ext h.1 h.2.size.1 hx, (h.2.ext hx).1⟩, (h.2.ext hx).2⟩) HI0.out ⟨.inr (fun _ _ _ h _ => h), .inr (fun _ _ _ h _ => h), .inr (fun _ _ _ h _ => h), .inr (fun _ _ _ h _ => h), .inr (fun _ _ _ h _ => h), .inr (fun _ _ _ h _ => h), .inr (fun _ _ _ h _ => h), .inr (fun _ _ _ h _ => h), .inr (fun _ _ _ h _ => h), .inr (fun _ _ _ h _ => h), trivial⟩ ?each ?rest
                case each =>
                  refine .light rfl ?_ (.light rfl ?_ (.light rfl ?_ (.light rfl ?_ (.light rfl ?_ (.light rfl ?_ (.light rfl ?_ (.light rfl ?_ (.light rfl ?_ (.light rfl ?_ (.nil))))))))))
                  · intro fa fw fk hr hinv hs hb
                    have s5 : fa.tmps[(5 : Nat)]? = some (.pointer (some ⟨b, 0, none⟩)) := (hb 5 (by kernel_rfl)).trans (by rfl)
                    refine .inl ⟨wanted_free rfl, fun K hK => ?_⟩
                    clear hs hb hr hinv
                    go_simp
                    exact hK _ _ rfl (Ext.refl _)
                  · intro fa fw fk hr hinv hs hb
                    obtain ⟨_, s98, rfl⟩ := hs 0 98 (by kernel_rfl) (by kernel_rfl)
                    refine .inl ⟨wanted_free rfl, fun K hK => ?_⟩
                    clear hs hb hr hinv
                    go_simp
                    exact hK _ _ rfl (Ext.refl _)
                  · intro fa fw fk hr hinv hs hb
                    obtain ⟨_, s99, rfl⟩ := hs 1 99 (by kernel_rfl) (by kernel_rfl)
                    refine .inl ⟨wanted_free rfl, fun K hK => ?_⟩
                    clear hs hb hr hinv
                    go_simp
                    exact hK _ _ rfl (Ext.refl _)
                  · intro fa fw fk hr hinv hs hb
                    obtain ⟨_, s100, rfl⟩ := hs 2 100 (by kernel_rfl) (by kernel_rfl)
                    refine .inl ⟨wanted_free rfl, fun K hK => ?_⟩
                    clear hs hb hr hinv
                    go_simp
                    exact hK _ _ rfl (Ext.refl _)
                  · intro fa fw fk hr hinv hs hb
                    obtain ⟨_, s101, rfl⟩ := hs 3 101 (by kernel_rfl) (by kernel_rfl)
                    have c0 := CR.out fw hinv
                    refine .inl ⟨wanted_free rfl, fun K hK => ?_⟩
                    clear hs hb hr hinv
                    go_simp
                    exact hK _ _ rfl (Ext.refl _)
                  · intro fa fw fk hr hinv hs hb
                    have s9 : fa.tmps[(9 : Nat)]? = some (.slice (some ⟨b9, 0, none⟩) 3 c9) := (hb 9 (by kernel_rfl)).trans (by rfl)
                    refine .inl ⟨wanted_free rfl, fun K hK => ?_⟩
                    clear hs hb hr hinv
                    go_simp
                    exact hK _ _ rfl (Ext.refl _)
                  · intro fa fw fk hr hinv hs hb
                    have s12 : fa.tmps[(12 : Nat)]? = some (.int .i64 k) := (hb 12 (by kernel_rfl)).trans (by rfl)
                    refine .inl ⟨wanted_free rfl, fun K hK => ?_⟩
                    clear hs hb hr hinv
                    go_simp
                    exact hK _ _ rfl (Ext.refl _)
                  · intro fa fw fk hr hinv hs hb
                    obtain ⟨_, s103, rfl⟩ := hs 5 103 (by kernel_rfl) (by kernel_rfl)
                    obtain ⟨_, s104, rfl⟩ := hs 6 104 (by kernel_rfl) (by kernel_rfl)
                    refine .inl ⟨wanted_free rfl, fun K hK => ?_⟩
                    clear hs hb hr hinv
                    go_simp
                    exact hK _ _ rfl (Ext.refl _)
                  · intro fa fw fk hr hinv hs hb
                    obtain ⟨_, s105, rfl⟩ := hs 7 105 (by kernel_rfl) (by kernel_rfl)
                    have c0 := C9.out fw hr
                    refine .inl ⟨wanted_free rfl, fun K hK => ?_⟩
                    clear hs hb hr hinv
                    go_simp
                    exact hK _ _ rfl (Ext.refl _)
                  · intro fa fw fk hr hinv hs hb
                    have s14 : fa.tmps[(14 : Nat)]? = some (I ((gq : Int) + k)) := (hb 14 (by kernel_rfl)).trans (by rfl)
                    refine .inl ⟨wanted_free rfl, fun K hK => ?_⟩
                    clear hs hb hr hinv
                    go_simp
                    exact hK _ _ rfl (Ext.refl _)
                case rest =>
                  intro w14 hrw14 hiw14
                  rintro _ rfl
                  rintro _ rfl
                  rintro _ rfl
                  rintro _ rfl
                  rintro _ rfl
                  rintro _ rfl
                  rintro _ rfl
                  rintro _ rfl
                  rintro _ rfl
                  rintro _ rfl
                  simp only [putAll, List.take, Act.put, List.setIfInBounds_toArray, List.set_cons_zero, List.set_cons_succ]
                  have hi14 : Below base wI w14 ∧ EndP w14 base b pv S1 := hiw14
                  have hrow := hi14.2.regs
                  rw [HV1.out, HRL.out] at hrow
                  have c0 := hrow.cellAt ((k + 1) * 2 + 1) (by have := HN4.out; have := HLT.out; omega)
                  have e0 := (flat2_get RB RN S1.rs (k + 1)).2
                  rw [HAT.out] at e0
                  unfold storeCs at c0
                  rw [e0] at c0
                  have fz := hrow.frozenAt
                  have hmk := hi14.2.setNext HV1.out HAT.out ((gq : Int) + k)
                  have hri : (k : Int) + 1 < (nR : Int) := by have := HN4.out; have := HLT.out; omega
                  obtain ⟨p9, g9⟩ := hrw14.own P9.out G9.out
                  obtain ⟨p9, g9⟩ := hmk.rel.own p9 g9
                  have hb15 := hi14.1.trans hmk.below
                  have he15 := hmk.sm
                  have P15 := Lib.hid p9; have G15 := Lib.hid g9; have HB15 := Lib.hid hb15; have HE15 := Lib.hid he15
                  clear hrow e0 hi14 hiw14 hrw14 hmk p9 g9 hb15 he15
                  refine wpAny_ready (rs := [10]) (by kernel_rfl) (by simp) (AllReady.cons rfl (fun KK hKK => ?_) AllReady.nil)
                  go_simp
                  refine hKK _ _ ?_
                  clear hKK KK
                  refine wpAny_ready (rs := [11]) (by kernel_rfl) (by simp) (AllReady.cons rfl (fun KK hKK => ?_) AllReady.nil)
                  go_simp
                  refine hKK _ _ ?_
                  clear hKK KK
                  refine wpAny_ready (rs := [12]) (by kernel_rfl) (by simp) (AllReady.cons rfl (fun KK hKK => ?_) AllReady.nil)
                  go_simp
                  refine hKK _ _ ?_
                  clear hKK KK c0 fz hri
                  refine wpAny_done (by kernel_rfl) ?_ _
                  obtain ⟨w15, hw15⟩ : ∃ q, q = w14.setCell ⟨rb5, (k + 1) * 2 + 1, none⟩ (I ((gq : Int) + k)) := ⟨_, rfl⟩
                  obtain ⟨S2, hS2⟩ : ∃ S, S = { S1 with rs := S1.rs.set (k + 1) ⟨false, (gq : Int) + k⟩ } := ⟨_, rfl⟩
                  have he15 : EndP w15 base b pv S2 := by rw [hw15, hS2]; exact HE15.out
                  have hb15 : Below base wI w15 := by rw [hw15]; exact HB15.out
                  have p15 := P15.out; have g15 := G15.out
                  rw [← hw15] at p15 g15
                  rw [← hw15]
                  obtain ⟨ov, c3, oown, ostep⟩ := he15.outs
                  have hol : S2.outs.length = k := by rw [hS2, HS1.out, HSE.out]; show ((List.range k).map fun j => (gq : Int) + Int.ofNat j).length = k; simp
                  rw [hol] at oown ostep
                  have hnx : { S2 with outs := S2.outs ++ [(gq : Int) + k] } = SE (k + 1) := by rw [hS2, HS1.out, HSE.out]; exact sEm_succ _ _ _ _ _ _ _ k
                  obtain ⟨oA, oc, eov, -, -, -⟩ := own_slice oown
                  subst eov
                  have hs15 : base ≤ w15.heap.size := he15.size.1
                  have HOO := Lib.hid oown; have HOS := Lib.hid ostep; have HNX := Lib.hid hnx; have PP := Lib.hid p15; have GG := Lib.hid g15; have HBW := Lib.hid hb15; have HS15 := Lib.hid hs15
                  have hk15 : k < 3 := HLT.out
                  have c3 := (Keeps.alloc w15 (.cells #[I ((gq : Int) + k)] 3)) _ _ c3
                  clear P15 G15 HE15 HB15 hw15 hS2 he15 hb15 p15 g15 oown ostep hol hnx hs15
                  go_wp2_with (at_builtin; refine wpList_append_lies _ rfl (.tmp 115) (.tmp 117) 23 rfl base 3 inf _ 1 8 Try.underlying23 HTI.out HTZ.out HT1.out HT2.out rfl (by omega) (.slice oA k oc) k (S2.outs.map I) rfl (own_ext HOO.out ((Ext.refl w15).alloc (.cells #[I ((gq : Int) + k)] 3))) ⟨w15.heap.size, 0, none⟩ 1 1 [I ((gq : Int) + k)] rfl rfl (fun j u hu => by rw [add_zero, World.cell?_alloc_new]; simpa using hu) (by simp [Value.oneCell']) (by omega) (by unfold maxLen; omega) (by omega) (Nat.le_trans HS15.out (by simp)) _ rfl ?_; intro g6 cap6 w16 hown6 hgr6 hat6 hlt6; have hx := (Ext.refl w15).alloc (.cells #[I ((gq : Int) + k)] 3); have hgr : w15.grownBy w16 (Value.slice oA k oc).ownBlock := ⟨hgr6.os, hgr6.tape, hgr6.output, Nat.le_trans hx.size hgr6.size, fun i hi hne => (hgr6.block i (Nat.lt_of_lt_of_le hi hx.size) hne).trans (hx.block i hi)⟩; obtain ⟨⟨m16, f16⟩, hmk⟩ := HOS.out w16 _ _ hgr hown6 (fun g hg => by simp only [Value.ownBlock, Option.some.injEq] at hg; subst hg; exact hat6.imp id (fun e => by rw [e]; simp)); have HMK := Lib.hid hmk; clear hown6 hgr6 hat6 hlt6 hx hgr hmk c3)
                  go_roundw
                  case rel =>
                    have hm := HMK.out
                    rw [HNX.out] at hm
                    obtain ⟨a1, a2⟩ := hm.rel.own PP.out GG.out
                    exact ⟨k + 1, by omega, by simp, HBW.out.trans hm.below, hm.sm, a1, a2⟩
                  case measure => simp [intOf]; omega
              · obtain rfl : k = 3 := by omega
                have HE := Lib.hid he; have HB := Lib.hid hbw
                clear hbw he ho9 hf9
                obtain ⟨GA, gn, gc, RA, rn, rc, OA, on, oc, gas, m0, m1, m2, m3, hng⟩ := HE.out.net
                have hbs : base = w2.heap.size := HBA.out
                have hbz : Box w2 w.heap.size 39 [I 0, .slice none 0 0, .slice none 0 0, .slice none 0 0] := HZ.out.ext X2.out
                have hlz : w.heap.size < base := by rw [hbs]; exact hbz.lt
                have hbr : Box wr w.heap.size 39 [I 0, .slice none 0 0, .slice none 0 0, .slice none 0 0] := (HB.out.block _ hlz).trans (by rw [HWI.out]; exact hbz)
                have hxr : Ext w wr := (HX1.out.trans X2.out).trans (by
                  have hb := HB.out
                  rw [HWI.out] at hb
                  exact ⟨hb.os, hb.tape, hb.output, hb.size, fun i hi => hb.block i (by rw [hbs]; exact hi)⟩)
                have z0 := hbr.cell 0; have z1 := hbr.cell 1; have z2 := hbr.cell 2; have z3 := hbr.cell 3
                have fz := hbr.free
                simp only [List.getElem?_cons_zero, List.getElem?_cons_succ] at z0 z1 z2 z3
                have HNG := Lib.hid hng; have HXR := Lib.hid hxr; have HBR := Lib.hid hbr; have HLZ := Lib.hid hlz
                clear hng hbs hbz hlz hbr hxr
                go_wp2_with fail
                obtain ⟨wF, hwF⟩ : ∃ q, q = (((wr.setCell ⟨w.heap.size, 0, none⟩ (.int .i64 3)).setCell ⟨w.heap.size, 1, none⟩ (.slice GA gn gc)).setCell ⟨w.heap.size, 2, none⟩ (.slice RA rn rc)).setCell ⟨w.heap.size, 3, none⟩ (.slice OA on oc) := ⟨_, rfl⟩
                have hbF : Box wF w.heap.size 39 [I 3, .slice GA gn gc, .slice RA rn rc, .slice OA on oc] := by rw [hwF]; exact (((HBR.out.set 0 (.int .i64 3)).set 1 (.slice GA gn gc)).set 2 (.slice RA rn rc)).set 3 (.slice OA on oc)
                have hnF : NetG wF base (.slice GA gn gc) (.slice RA rn rc) (.slice OA on oc) (SE 3).gs gas (SE 3).rs (SE 3).outs := by rw [hwF]; exact (((HNG.out.set HLZ.out 0 _).set HLZ.out 1 _).set HLZ.out 2 _).set HLZ.out 3 _
                have hxF : Ext w wF := by rw [hwF]; exact (((HXR.out.setCell (p := ⟨w.heap.size, 0, none⟩) (Nat.le_refl _) _).setCell (p := ⟨w.heap.size, 1, none⟩) (Nat.le_refl _) _).setCell (p := ⟨w.heap.size, 2, none⟩) (Nat.le_refl _) _).setCell (p := ⟨w.heap.size, 3, none⟩) (Nat.le_refl _) _
                rw [← hwF]
                have q0 := hbF.cell 0; have q1 := hbF.cell 1; have q2 := hbF.cell 2; have q3 := hbF.cell 3
                simp only [List.getElem?_cons_zero, List.getElem?_cons_succ] at q0 q1 q2 q3
                clear hwF m0 m1 m2 m3 z0 z1 z2 z3 fz
                refine bodyPost_ret (v := Pr (netV 3 GA gn gc RA rn rc OA on oc) (I 0)) (by simp [results, Try.results14, go_sem, q0, q1, q2, q3]) rfl ⟨3, GA, gn, gc, RA, rn, rc, OA, on, oc, rfl, hnF.netC rfl rfl rfl ?_, hxF⟩
                have h1 := HQ.out; have h2 := HO.out
                rw [HSE.out, h1, h2]
                exact (sEm_end t C rv5 es5).symm
end
end Go.Proofs.Ytlafiddfplhafaa
/- forge.Net: a bad program; a program of whatever kind. -/
namespace Go.Proofs.Ytlafiddfplhafaa
set_option linter.unusedVariables false
set_option linter.unusedSimpArgs false
open Go.RowKit
section
variable (PA : Option Addr) (n pc : Nat) (p : List PNode) (w : World)
set_option maxRecDepth 100000 in
set_option maxHeartbeats 4000000 in
theorem net_bad (hp : SlN w PA n p) (hn : n ≤ maxLen) (hc : checkP p ≠ 0) :
    Calls Try.prog 14 #[.slice PA n pc] w fun e w' => e = .returned (Pr (netV 0 none 0 0 none 0 0 none 0 0) (I (checkP p))) ∧ Ext w w' := by
  obtain ⟨W, hW⟩ : ∃ W, W = w.alloc (.cells #[I 0, .slice none 0 0, .slice none 0 0, .slice none 0 0] 39) := ⟨_, rfl⟩
  have hx1 : Ext w W := by rw [hW]; exact (Ext.refl _).alloc _
  have hz : Box W w.heap.size 39 [I 0, .slice none 0 0, .slice none 0 0, .slice none 0 0] := by rw [hW]; exact Box.new w _ _
  have HP := Lib.hid (hp.keep hx1.keeps); have HX1 := Lib.hid hx1; have HZ := Lib.hid hz; have HNM := Lib.hid hn
  have HW : Hid (W = w.alloc (.cells #[I 0, .slice none 0 0, .slice none 0 0, .slice none 0 0] 39)) := hW
  obtain ⟨x, hx⟩ : ∃ x, x = checkP p := ⟨_, rfl⟩
  rw [← hx] at hc
  rw [← hx]
  have HX := Lib.hid hx
  clear hp hW hx1 hz hn hx
  go_enter Try.func14, Try.ntmps14
  go_wp2_with fail
  rw [← HW.out]
  refine (progCheck_any PA n pc p W HP.out HNM.out).mono ?_; rintro e w2 ⟨rfl, x2⟩; rw [← HX.out]
  have hb := HZ.out.ext x2
  have z0 := hb.cell 0; have z1 := hb.cell 1; have z2 := hb.cell 2; have z3 := hb.cell 3
  have fz := hb.free
  simp only [List.getElem?_cons_zero, List.getElem?_cons_succ] at z0 z1 z2 z3
  have HB := Lib.hid hb; have HXX := Lib.hid (HX1.out.trans x2)
  clear hb x2
  go_wp2_with fail
  obtain ⟨wF, hwF⟩ : ∃ q, q = (((w2.setCell ⟨w.heap.size, 0, none⟩ (.int .i64 0)).setCell ⟨w.heap.size, 1, none⟩ (.slice none 0 0)).setCell ⟨w.heap.size, 2, none⟩ (.slice none 0 0)).setCell ⟨w.heap.size, 3, none⟩ (.slice none 0 0) := ⟨_, rfl⟩
  have hbF : Box wF w.heap.size 39 [I 0, .slice none 0 0, .slice none 0 0, .slice none 0 0] := by rw [hwF]; exact (((HB.out.set 0 (.int .i64 0)).set 1 (.slice none 0 0)).set 2 (.slice none 0 0)).set 3 (.slice none 0 0)
  have hxF : Ext w wF := by rw [hwF]; exact (((HXX.out.setCell (p := ⟨w.heap.size, 0, none⟩) (Nat.le_refl _) _).setCell (p := ⟨w.heap.size, 1, none⟩) (Nat.le_refl _) _).setCell (p := ⟨w.heap.size, 2, none⟩) (Nat.le_refl _) _).setCell (p := ⟨w.heap.size, 3, none⟩) (Nat.le_refl _) _
  rw [← hwF]
  have q0 := hbF.cell 0; have q1 := hbF.cell 1; have q2 := hbF.cell 2; have q3 := hbF.cell 3
  simp only [List.getElem?_cons_zero, List.getElem?_cons_succ] at q0 q1 q2 q3
  clear hwF z0 z1 z2 z3 fz
  exact bodyPost_ret (v := Pr (netV 0 none 0 0 none 0 0 none 0 0) (I x)) (by simp [results, Try.results14, go_sem, q0, q1, q2, q3]) rfl ⟨rfl, hxF⟩
/-- What Net hands back: the zero net beside an error. -/
def netR (p : List PNode) : NetM := if checkP p = 0 then netF (treeOf p) else ⟨0, [], [], []⟩
theorem net_any (hp : SlN w PA n p) (hn : n ≤ maxLen) :
    Calls Try.prog 14 #[.slice PA n pc] w fun e w' => ∃ i GA gn gc RA rn rc OA on oc, e = .returned (Pr (netV i GA gn gc RA rn rc OA on oc) (I (checkP p))) ∧ NetC w' i GA gn gc RA rn rc OA on oc (netR p) ∧ Ext w w' := by
  by_cases hc : checkP p = 0
  · obtain ⟨t1, t2, t3, t4⟩ := tree_of hc
    have hl := (checkP_ok hc).1
    rw [hp.1] at hl
    refine (net_good PA n pc p w hp hl hc (treeOf p) ⟨[], by simpa using t2⟩ t1 t4 t3).mono ?_
    rintro e w' ⟨i, GA, gn, gc, RA, rn, rc, OA, on, oc, h1, h2, h3⟩
    exact ⟨i, GA, gn, gc, RA, rn, rc, OA, on, oc, by rw [h1, hc], by rw [netR, if_pos hc]; exact h2, h3⟩
  · refine (net_bad PA n pc p w hp hn hc).mono ?_
    rintro e w' ⟨h1, h2⟩
    refine ⟨0, none, 0, 0, none, 0, 0, none, 0, 0, h1, ?_, h2⟩
    rw [netR, if_neg hc]
    exact ⟨rfl, (RowG.nil w' 0).slG.elim fun A h => by obtain ⟨c, e, -, -, h⟩ := h; injection e with e1; subst e1; exact h, slR_own (World.ownsRow_nil w' 0 _ _), Sl.nil _ _, ⟨Nat.le_refl _, Nat.zero_le _⟩, ⟨Nat.le_refl _, Nat.zero_le _⟩, ⟨Nat.le_refl _, Nat.zero_le _⟩⟩
end
end Go.Proofs.Ytlafiddfplhafaa
/- forge.Size, by the program. -/
namespace Go.Proofs.Ytlafiddfplhafaa
set_option linter.unusedVariables false
set_option linter.unusedSimpArgs false
open Go.RowKit
/-- How many nodes of a program wait. -/
def waitsN (p : List PNode) : Nat := (p.filter fun x => waitK x.kind).length
set_option maxHeartbeats 4000000 in
set_option maxRecDepth 100000 in
theorem size_any (A : Option Addr) (n c : Nat) (p : List PNode) (w : World) (h : SlN w A n p) (hn : n ≤ maxLen) :
    Calls Try.prog 8 #[.slice A n c] w fun e w' => e = .returned (Pr3 (I (if checkP p = 0 then (waitsN p : Int) else 0)) (I (if checkP p = 0 then (n : Int) else 0)) (I (checkP p))) ∧ Ext w w' := by
  obtain ⟨x0, hx0⟩ : ∃ x0, x0 = checkP p := ⟨_, rfl⟩
  have hle : checkP p = 0 → n ≤ 14 := fun e => by have := (checkP_ok e).1; rw [h.1] at this; exact this
  rw [← hx0] at hle
  rw [← hx0]
  have H := Lib.hid h; have HQ := Lib.hid hx0; have HN := Lib.hid hn
  clear h hx0 hn
  by_cases h0 : x0 = 0
  · rw [if_pos h0, if_pos h0, h0]
    rw [h0] at HQ
    have hn14 := hle h0
    have HL := Lib.hid hn14
    clear hle h0 hn14
    go_enter Try.func8, Try.ntmps8
    go_wp2_with fail
    refine (progCheck_any _ n c p w H.out HN.out).mono ?_; rintro e w1 ⟨rfl, x1⟩; rw [← HQ.out]
    have X1 := Lib.hid x1; clear x1
    go_wp2_with fail
    go_loopw [6, 16] (fun m i wr => ∃ (k q : Nat), k ≤ n ∧ q ≤ k ∧ i = .int .i64 k ∧ m = .int .i64 q ∧ Ext w wr ∧ q + waitsN (p.drop k) = waitsN p) (fun _ i _ => n - (intOf i).toNat)
    case atStart => exact ⟨0, 0, Nat.zero_le _, Nat.zero_le _, rfl, rfl, X1.out, by simp⟩
    case round =>
      obtain ⟨k, q, hk, hqk, rfl, rfl, hext, hM⟩ := hrel
      have hn14 : n ≤ 14 := HL.out
      by_cases hlt : k < n
      · obtain ⟨b, off, x, rfl, hc0, hc0', hd, hx⟩ := H.out.next hlt
        have hc := hext.keeps _ _ hc0
        have hc' := hext.keeps _ _ hc0'
        rw [hd] at hM
        have HM := Lib.hid hM
        have HX := Lib.hid (hext.alloc (.cells #[.int .i64 x.kind, .int .i64 x.sig] 64))
        clear hM hd hx hc0 hc0' hext
        by_cases hw : waitK x.kind = true
        · have HW := Lib.hid hw
          clear hw
          go_wp2_with (go_at_call 27; with_reducible refine (wait_any _ _).mono ?_; rintro e w' ⟨rfl, rfl⟩; rw [HW.out])
          go_roundw
          case rel => exact ⟨k + 1, q + 1, by omega, by omega, by go_num, by go_num, HX.out, by have := HM.out; simp [waitsN, HW.out] at this ⊢; omega⟩
          case measure => simp [intOf]; omega
        · have hw' : waitK x.kind = false := by simpa using hw
          have HW := Lib.hid hw'
          clear hw hw'
          go_wp2_with (go_at_call 27; with_reducible refine (wait_any _ _).mono ?_; rintro e w' ⟨rfl, rfl⟩; rw [HW.out])
          go_roundw
          case rel => exact ⟨k + 1, q, by omega, by omega, by go_num, rfl, HX.out, by have := HM.out; simp [waitsN, HW.out] at this ⊢; omega⟩
          case measure => simp [intOf]; omega
      · rw [H.out.drop_end hlt] at hM
        have hq : q = waitsN p := by simpa [waitsN] using hM
        subst hq
        have HX := Lib.hid hext
        clear hM hext
        go_wp2
        exact bodyPost_ret (v := Pr3 (I (waitsN p : Int)) (I (n : Int)) (I 0)) (by simp [results, Try.results8, go_sem]) rfl ⟨rfl, HX.out⟩
  · rw [if_neg h0, if_neg h0]
    clear hle
    go_enter Try.func8, Try.ntmps8
    go_wp2_with fail
    refine (progCheck_any _ n c p w H.out HN.out).mono ?_; rintro e w1 ⟨rfl, x1⟩; rw [← HQ.out]
    have X1 := Lib.hid x1; clear x1
    go_wp2
    exact bodyPost_ret (v := Pr3 (I 0) (I 0) (I x0)) (by simp [results, Try.results8, go_sem]) rfl ⟨rfl, X1.out⟩
end Go.Proofs.Ytlafiddfplhafaa
/- What is reached, in plain Lean. No Go in sight. -/
namespace Go.Proofs.Ytlafiddfplhafaa
set_option linter.unusedVariables false
set_option linter.unusedSimpArgs false
abbrev Place := List Int × List Int
inductive ReachR
  | bad (way : List Int)
  | many
  | ok (ps : List Place)
def seenM (ps : List Place) (r : List Int) : Bool := ps.any fun p => decide (p.1 = r)
def stepX (N : NetM) (p : Place) : List Int → List Place → ReachR
  | [], ps => .ok ps
  | x :: xs, ps =>
    match turnN N p.1 (bitsM x N.ins.toNat) with
    | none => .bad (p.2 ++ [x])
    | some o => if seenM ps o.2 then stepX N p xs ps else if ps.length = 64 then .many else stepX N p xs (ps ++ [(o.2, p.2 ++ [x])])
def upX : Nat → List Int
  | 0 => []
  | n + 1 => upX n ++ [(n : Int)]
def walkX (N : NetM) : Nat → Nat → List Place → ReachR
  | 0, _, ps => .ok ps
  | f + 1, k, ps =>
    match ps[k]? with
    | none => .ok ps
    | some p =>
      match stepX N p (upX (2 ^ N.ins.toNat)) ps with
      | .ok qs => walkX N f (k + 1) qs
      | .bad w => .bad w
      | .many => .many
def reachM (N : NetM) : ReachR := walkX N 65 0 [(firstM N, [])]
theorem mem_upX (n : Nat) (x : Int) : x ∈ upX n ↔ 0 ≤ x ∧ x < n := by
  induction n with
  | zero => simp [upX] <;> omega
  | succ n ih => simp only [upX, List.mem_append, ih, List.mem_cons, List.not_mem_nil, or_false]; omega
/-- Places that were reached so. -/
structure PlacesOK (N : NetM) (ps : List Place) : Prop where
  ways : ∀ p ∈ ps, (∃ rows, runFrom N (firstM N) p.2 = some (rows, p.1)) ∧ ∀ x ∈ p.2, 0 ≤ x ∧ x < (2 ^ N.ins.toNat : Nat)
  dis : (ps.map (·.1)).Nodup
  few : ps.length ≤ 64
theorem seen_iff {ps : List Place} {r : List Int} : seenM ps r = true ↔ r ∈ ps.map (·.1) := by
  unfold seenM
  rw [List.any_eq_true, List.mem_map]
  constructor
  · rintro ⟨p, hp, h⟩; exact ⟨p, hp, by simpa using h⟩
  · rintro ⟨p, hp, h⟩; exact ⟨p, hp, by simpa using h⟩
theorem way_next {N : NetM} {p : Place} {x : Int} {o : List Int × List Int} (h : ∃ rows, runFrom N (firstM N) p.2 = some (rows, p.1)) (ht : turnN N p.1 (bitsM x N.ins.toNat) = some o) :
    ∃ rows, runFrom N (firstM N) (p.2 ++ [x]) = some (rows, o.2) := by
  obtain ⟨rows, h⟩ := h
  rw [runFrom_snoc, h]; simp [ht]
theorem way_none {N : NetM} {p : Place} {x : Int} (h : ∃ rows, runFrom N (firstM N) p.2 = some (rows, p.1)) (ht : turnN N p.1 (bitsM x N.ins.toNat) = none) : runFrom N (firstM N) (p.2 ++ [x]) = none := by
  obtain ⟨rows, h⟩ := h
  rw [runFrom_snoc, h]; simp [ht]
theorem PlacesOK.add {N : NetM} {ps : List Place} (h : PlacesOK N ps) {p : Place} (hp : p ∈ ps) {x : Int} (hx : 0 ≤ x ∧ x < (2 ^ N.ins.toNat : Nat)) {o : List Int × List Int} (ht : turnN N p.1 (bitsM x N.ins.toNat) = some o)
    (hs : seenM ps o.2 = false) (hl : ps.length ≠ 64) : PlacesOK N (ps ++ [(o.2, p.2 ++ [x])]) := by
  refine ⟨fun q hq => ?_, ?_, by have := h.few; simp; omega⟩
  · rcases List.mem_append.1 hq with e | e
    · exact h.ways q e
    · simp at e; subst e
      refine ⟨way_next (h.ways p hp).1 ht, fun y hy => ?_⟩
      rcases List.mem_append.1 hy with e | e
      · exact (h.ways p hp).2 y e
      · simp at e; subst e; exact hx
  · rw [List.map_append, List.nodup_append]
    refine ⟨h.dis, by simp, fun a ha b hb => ?_⟩
    simp at hb; subst hb
    intro e; subst e
    rw [(seen_iff).2 ha] at hs; cases hs
/-- All that a step finds. -/
theorem stepX_ok {N : NetM} {p : Place} : ∀ (xs : List Int) (ps : List Place), PlacesOK N ps → p ∈ ps → (∀ x ∈ xs, 0 ≤ x ∧ x < (2 ^ N.ins.toNat : Nat)) →
    match stepX N p xs ps with
    | .ok qs => PlacesOK N qs ∧ (∃ r, qs = ps ++ r) ∧ ∀ x ∈ xs, ∃ o, turnN N p.1 (bitsM x N.ins.toNat) = some o ∧ o.2 ∈ qs.map (·.1)
    | .bad w => ∃ w', w = w' ++ [w.getLast?.getD 0] ∧ runFrom N (firstM N) w = none ∧ (runFrom N (firstM N) w' ≠ none) ∧ ∀ x ∈ w, 0 ≤ x ∧ x < (2 ^ N.ins.toNat : Nat)
    | .many => True
  | [], ps, h, _, _ => ⟨h, ⟨[], by simp⟩, by simp⟩
  | x :: xs, ps, h, hp, hx => by
    simp only [stepX]
    cases ht : turnN N p.1 (bitsM x N.ins.toNat) with
    | none =>
      simp only
      obtain ⟨rows, hw⟩ := (h.ways p hp).1
      refine ⟨p.2, by simp, way_none (h.ways p hp).1 ht, by rw [hw]; simp, fun y hy => ?_⟩
      rcases List.mem_append.1 hy with e | e
      · exact (h.ways p hp).2 y e
      · simp at e; subst e; exact hx _ (by simp)
    | some o =>
      simp only
      cases hs : seenM ps o.2 with
      | true =>
        simp only [if_true]
        have ih := stepX_ok xs ps h hp (fun y hy => hx y (by simp [hy]))
        cases hr : stepX N p xs ps with
        | ok qs =>
          rw [hr] at ih
          obtain ⟨h1, ⟨r, h2⟩, h3⟩ := ih
          refine ⟨h1, ⟨r, h2⟩, fun y hy => ?_⟩
          rcases List.mem_cons.1 hy with e | e
          · subst e
            refine ⟨o, ht, ?_⟩
            rw [h2, List.map_append, List.mem_append]; exact .inl (seen_iff.1 hs)
          · exact h3 y e
        | bad w => rw [hr] at ih; exact ih
        | many => trivial
      | false =>
        simp only [Bool.false_eq_true, if_false]
        by_cases hl : ps.length = 64
        · rw [if_pos hl]; trivial
        · rw [if_neg hl]
          have ih := stepX_ok xs (ps ++ [(o.2, p.2 ++ [x])]) (h.add hp (hx x (by simp)) ht hs hl) (List.mem_append.2 (.inl hp)) (fun y hy => hx y (by simp [hy]))
          cases hr : stepX N p xs (ps ++ [(o.2, p.2 ++ [x])]) with
          | ok qs =>
            rw [hr] at ih
            obtain ⟨h1, ⟨r, h2⟩, h3⟩ := ih
            refine ⟨h1, ⟨(o.2, p.2 ++ [x]) :: r, by simp [h2]⟩, fun y hy => ?_⟩
            rcases List.mem_cons.1 hy with e | e
            · subst e
              refine ⟨o, ht, ?_⟩
              rw [h2]; simp
            · exact h3 y e
          | bad w => rw [hr] at ih; exact ih
          | many => trivial
/-- What the walk finds: closed under all inputs. -/
theorem walkX_ok {N : NetM} : ∀ (f k : Nat) (ps : List Place), PlacesOK N ps → ps.length < f + k → k ≤ ps.length → (∀ (i : Nat) (p : Place), i < k → ps[i]? = some p → ∀ x : Int, 0 ≤ x → x < (2 ^ N.ins.toNat : Nat) → ∃ o, turnN N p.1 (bitsM x N.ins.toNat) = some o ∧ o.2 ∈ ps.map (·.1)) → 64 < f + k →
    match walkX N f k ps with
    | .ok qs => PlacesOK N qs ∧ (∃ r, qs = ps ++ r) ∧ ∀ p ∈ qs, ∀ x : Int, 0 ≤ x → x < (2 ^ N.ins.toNat : Nat) → ∃ o, turnN N p.1 (bitsM x N.ins.toNat) = some o ∧ o.2 ∈ qs.map (·.1)
    | .bad w => ∃ w', w = w' ++ [w.getLast?.getD 0] ∧ runFrom N (firstM N) w = none ∧ (runFrom N (firstM N) w' ≠ none) ∧ ∀ x ∈ w, 0 ≤ x ∧ x < (2 ^ N.ins.toNat : Nat)
    | .many => True
  | 0, k, ps, h, hf, hk, _, _ => by omega
  | f + 1, k, ps, h, hf, hk, hc, h64 => by
    simp only [walkX]
    cases hp : ps[k]? with
    | none =>
      simp only
      refine ⟨h, ⟨[], by simp⟩, fun p hpm => ?_⟩
      obtain ⟨i, hi⟩ := List.mem_iff_getElem?.1 hpm
      have h1 := (List.getElem?_eq_some_iff.1 hi).1
      have h2 : ps.length ≤ k := by rwa [List.getElem?_eq_none_iff] at hp
      exact hc i p (by omega) hi
    | some p =>
      simp only
      have hs := stepX_ok (upX (2 ^ N.ins.toNat)) ps h (List.mem_of_getElem? hp) (fun x hx => (mem_upX _ _).1 hx)
      cases hr : stepX N p (upX (2 ^ N.ins.toNat)) ps with
      | bad w => rw [hr] at hs; exact hs
      | many => trivial
      | ok qs =>
        rw [hr] at hs
        obtain ⟨h1, ⟨r, h2⟩, h3⟩ := hs
        simp only
        have hkl := (List.getElem?_eq_some_iff.1 hp).1
        have hql : ps.length ≤ qs.length := by rw [h2]; simp
        have ih := walkX_ok f (k + 1) qs h1 (by have := h1.few; omega) (by omega) (fun i q hi hq x x0 x1 => by
          have hil : i < ps.length := by omega
          have hq' : ps[i]? = some q := by rw [h2, List.getElem?_append_left hil] at hq; exact hq
          by_cases e : i = k
          · subst e; rw [hp] at hq'; injection hq' with hq'; subst hq'
            exact h3 x ((mem_upX _ _).2 ⟨x0, x1⟩)
          · obtain ⟨o, ho, hm⟩ := hc i q (by omega) hq' x x0 x1
            exact ⟨o, ho, by rw [h2, List.map_append, List.mem_append]; exact .inl hm⟩) (by omega)
        cases hw : walkX N f (k + 1) qs with
        | bad w => rw [hw] at ih; exact ih
        | many => trivial
        | ok rs =>
          rw [hw] at ih
          obtain ⟨k1, ⟨r', k2⟩, k3⟩ := ih
          exact ⟨k1, ⟨r ++ r', by rw [k2, h2]; simp⟩, k3⟩
theorem reach_start (N : NetM) : PlacesOK N [(firstM N, [])] := ⟨fun p hp => by simp at hp; subst hp; exact ⟨⟨[], rfl⟩, by simp⟩, by simp, by simp⟩
theorem reach_bad {N : NetM} {w : List Int} (h : reachM N = .bad w) : ∃ w' x, w = w' ++ [x] ∧ runFrom N (firstM N) w = none ∧ (runFrom N (firstM N) w' ≠ none) ∧ ∀ x ∈ w, 0 ≤ x ∧ x < (2 ^ N.ins.toNat : Nat) := by
  have := walkX_ok 65 0 _ (reach_start N) (by simp) (by simp) (fun i p hi => by omega) (by decide)
  unfold reachM at h
  rw [h] at this
  obtain ⟨w', h1, h2⟩ := this
  exact ⟨w', _, h1, h2⟩
end Go.Proofs.Ytlafiddfplhafaa
/- A program's net: what it answers; folded and dropped it has an order. Plain Lean. -/
namespace Go.Proofs.Ytlafiddfplhafaa
set_option linter.unusedVariables false
set_option linter.unusedSimpArgs false
/-- Gates whose args all lie ahead. -/
def aheadN (N : NetM) : Prop := ∀ (k : Nat) (g : GateM), N.gates[k]? = some g → ∀ a ∈ g.args, 0 ≤ a ∧ a < (k : Int)
theorem aheadN.order {N : NetM} (h : aheadN N) : ∃ l, orderM N.gates = some l := order_of_ahead h _ _ _ (by simp) (by simp [cnt])
theorem aheadN.fold {N : NetM} (h : aheadN N) : aheadN (foldN N) := fun k g hk a ha => by
  have hl := foldN_len N
  have hklt : k < N.gates.length := by rw [← hl]; exact (List.getElem?_eq_some_iff.1 hk).1
  have hv : N.gates.length = (foldV N).length := by unfold foldV; rw [settled_len]
  have := foldGs_at N.gates (foldV N) k _ hv (List.getElem?_eq_getElem hklt)
  have e : g = foldG N.gates[k] (valI (foldV N) k) := by
    have h1 : (foldN N).gates[k]? = some (foldG N.gates[k] (valI (foldV N) k)) := this
    rw [hk] at h1; exact Option.some.inj h1
  rw [e] at ha
  unfold foldG at ha
  split at ha
  · simp at ha
  split at ha
  · simp at ha
  · exact h k _ (List.getElem?_eq_getElem hklt) a ha
theorem cnt_take_mono {l : List Bool} {a k : Nat} (h : a < k) (ha : l[a]? = some true) : cnt (l.take a) < cnt (l.take k) := by
  have h1 : (l.take k)[a]? = some true := by rw [List.getElem?_take, if_pos h]; exact ha
  have h2 := cnt_take_lt h1
  rw [List.take_take, Nat.min_eq_left (by omega)] at h2
  exact h2
theorem aheadN.drop {N : NetM} (ok : NetOK N) (h : aheadN N) : aheadN (dropN N) := fun i x hi a ha => by
  obtain ⟨k, g, hg, hon, hcnt, rfl⟩ := drop_from hi
  simp only [renG, List.mem_map] at ha
  obtain ⟨b, hb, rfl⟩ := ha
  have hbon := kept_args ok hg hon b hb
  have hr := h k g hg b hb
  rw [to_at hbon]
  have := cnt_take_mono (l := isM N) (a := b.toNat) (k := k) (by omega) (on_at hbon)
  rw [hcnt] at this
  omega
theorem netF_ahead {t : Tr} (ok : t.ok) (hg : ∀ x ∈ t.flat, goodN x) (hs : t.size ≤ 14) : aheadN (netF t) := fun k g hk a ha => by
  have := ((net_ahead ok hg hs).get k g hk).2.2 a ha
  rwa [Nat.zero_add] at this
section
variable {t : Tr} (ok : t.ok) (hg : ∀ x ∈ t.flat, goodN x) (hs : t.size ≤ 14)
include ok hg hs
theorem fnet_runE (l : List Int) : runE (netF t) l = timesM l 3 := by
  have hr := net_run0 ok hg hs l
  unfold runE
  rw [if_neg (by simp [(net_ok ok hg hs).check]), hr]
  have e : (netF t).ins.toNat = 3 := rfl
  rw [e]
  by_cases h : timesM l 3 = 0
  · rw [if_neg (by simp [h]), h]; rfl
  · rw [if_pos h]
theorem fnet_runV (l : List Int) (h : timesM l 3 = 0) : (runV (netF t) l).1 = runsT t (freshM t.size) l := by
  have hE := fnet_runE ok hg hs l
  unfold runV
  rw [if_pos (by rw [hE, h]), net_run0 ok hg hs l]; rfl
theorem fnet_reach : (∀ w, reachM (netF t) ≠ .bad w) := fun w h => by
  obtain ⟨w', x, -, hn, -⟩ := reach_bad h
  rw [net_run0 ok hg hs w] at hn
  cases hn
theorem fnet_swept : ∃ l, orderM (dropN (foldN (netF t))).gates = some l := ((netF_ahead ok hg hs).fold.drop (foldN_ok (net_ok ok hg hs))).order
end
end Go.Proofs.Ytlafiddfplhafaa
