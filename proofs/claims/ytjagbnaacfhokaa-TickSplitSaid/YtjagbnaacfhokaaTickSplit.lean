/- The body of TickSplit, from the contracts. -/
import Derived.Test.YtjagbnaacfhokaaTickBegun
import Derived.Test.YtjagbnaacfhokaaAppend
namespace Go.Proofs.Ytjagbnaacfhokaa
set_option linter.unusedVariables false
set_option linter.unusedSimpArgs false
open Go.RowKit

/-- append onto a row of no room: what was there stays. -/
theorem step_append0 {P : Program} {ops : Array Oper} {o : Oper} {a : Act} {K : Act → World → Prop} {Q : Exit → Act → World → Prop} {w : World} {E : Prop} (hgd : o.guard = none) (s x : Operand) (t e : TypeId)
    (ho : o.op = .call { callee := .builtin .append, args := #[s, x], argTypes := #[t, t] })
    {z : Value} {bytes : Nat} (tab : (P.info? e).map (fun i => (i.zero, i.size, i.bytes)) = some (some z, 1, bytes)) (ht : P.underlying t = some (.slice e)) (hzs : z.cells.size = 1) (h8 : bytes ≤ 65536)
    (W0 : World) (hext : Ext W0 w) (b : Nat) (hs : a.eval s = .slice (some ⟨b, 0, none⟩) 0 0) (hown : w.ownsRow W0.heap.size e 1 (.slice (some ⟨b, 0, none⟩) 0 0) 0 [])
    (A : Option Addr) (m c : Nat) (news : List Value) (hx : a.eval x = .slice A m c) (hr : Sl w A m news) (h1 : ∀ u ∈ news, u.oneCell' = true)
    (hbytes : m * bytes ≤ 140737489403904) (hm4 : m ≤ 9007199254740992)
    (h : ∀ v' w', w'.ownsRow W0.heap.size e 1 v' m news → Ext W0 w' → Keeps w w' → K (a.put o.dst v') w') :
    if Region.wanted o (yielded ops a.tmps) = true then Oper.wp P o a w K Q else E := by
  refine step_appendBig hgd s x t e ho tab ht hzs h8 W0 hext _ 0 [] hs hown A m c news hx hr h1 (by rw [Nat.zero_add]; exact hbytes) (by omega) fun v' w' k1 k2 k3 _ => ?_
  rw [Nat.zero_add, List.nil_append] at k1
  refine h v' w' k1 k2 fun ad u hu => ?_
  by_cases hb : ad.block = b
  · exfalso
    rcases hown.2 with ⟨e1, _⟩ | ⟨g, cap, cur, e1, _, hg, _, _, hcs, _⟩
    · cases e1
    · injection e1 with e1 _ e3
      injection e1 with e1; injection e1 with e1
      subst e1; subst e3
      have h0 : cur.size = 0 := by simpa using hcs
      have h00 : cur = #[] := Array.eq_empty_of_size_eq_zero h0
      subst h00
      unfold World.cell? at hu
      rw [hb, hg] at hu
      simp at hu
  · exact k3.cell hu (fun e => hb (by first | simpa [Value.ownBlock] using e.symm | simpa [Value.ownBlock] using e))

theorem own_emptyAt (w : World) (e : TypeId) (size base b : Nat) (hb : b = w.heap.size) (h : base ≤ w.heap.size) : (w.alloc (.cells #[] e)).drew.ownsRow base e size (.slice (some ⟨b, 0, none⟩) 0 0) 0 [] := by
  subst hb; exact own_empty w.drew e size base h
theorem SlRows.front {w : World} {A : Option Addr} {n : Nat} {rows : List (List Int)} {r : List Int} (h : SlRows w A (n + 1) (rows ++ [r])) : SlRows w A n rows := by
  have hl : rows.length = n := by have := h.1; simpa using this
  refine ⟨hl, fun k q hq => ?_⟩
  have hk := (List.getElem?_eq_some_iff.1 hq).1
  exact h.2 k q (by rw [List.getElem?_append_left hk]; exact hq)

theorem split_plain {N : NetM} {l : List Int} {x : Int} (h : runE N l = 0) (h' : runE N (l ++ [x]) = 0) : ∃ (m : Nat) (rows : List (List Int)) (r : List Int) (o : List Int × List Int),
    N.ins = m ∧ m ≤ 3 ∧ checkN N = 0 ∧ runV N l = (rows, r) ∧ runV N (l ++ [x]) = (rows ++ [o.1], o.2) ∧ rows.length = l.length ∧ r.length = N.regs.length ∧ o.1.length = N.outs.length ∧ o.2.length = N.regs.length ∧ 0 ≤ x ∧ x < 8 ∧ (∀ y ∈ o.2, y = 0 ∨ y = 1) ∧
    doE N r (bitsM x m) = 0 ∧ doQ N r (bitsM x m) = o := by
  obtain ⟨hc, ht, q, hq⟩ := runE_ok h
  obtain ⟨-, ht', q', hq'⟩ := runE_ok h'
  have ok := checkN_ok hc
  have e1 : runV N l = q := by unfold runV; rw [if_pos h, hq]; rfl
  have e2 : runV N (l ++ [x]) = q' := by unfold runV; rw [if_pos h', hq']; rfl
  obtain ⟨m, hm⟩ : ∃ m : Nat, N.ins = m := ⟨N.ins.toNat, by have := ok.ins0; omega⟩
  have hmt : N.ins.toNat = m := by omega
  have hm3 : m ≤ 3 := by have := ok.ins3; omega
  rw [runFrom_snoc, hq] at hq'
  simp only [Option.bind_some] at hq'
  rw [hmt] at hq' ht'
  obtain ⟨-, hx⟩ := timesM_ok ht' hm3
  obtain ⟨hx0, hx8⟩ := hx x (by simp)
  cases htn : turnN N q.2 (bitsM x m) with
  | none => rw [htn] at hq'; simp at hq'
  | some o =>
    rw [htn] at hq'
    simp only [Option.map_some, Option.some.injEq] at hq'
    have hg := runFrom_good (first_good N) (by simp [firstM]) hq
    have hl := turnN_len htn
    have hrl : q.2.length = N.regs.length := hg.2.1
    have hask : askedM N q.2 (bitsM x m) = 0 := by
      unfold askedM
      rw [if_neg (by simp [hc]), if_neg (by rw [bits_len]; omega), goodL_any (good01 hg.1).1, goodL_any (good01 (bits_good x _)).1]
      simp
    have hE : doE N q.2 (bitsM x m) = 0 := by unfold doE; rw [if_neg (by simp [hask]), htn]; rfl
    have hQ : doQ N q.2 (bitsM x m) = o := by unfold doQ turnQ; rw [if_neg (by simp [hask]), htn]; rfl
    exact ⟨m, q.1, q.2, o, hm, hm3, hc, e1, by rw [e2, ← hq'], runFrom_len hq, hrl, hl.1, hl.2, hx0, hx8, (turnN_good (good01 hg.1).1 (good01 (bits_good _ _)).1 htn).2, hE, hQ⟩
section
variable (i : Int) (GA : Option Addr) (gn gc : Nat) (RA : Option Addr) (rn rc : Nat) (OA : Option Addr) (on oc : Nat) (N : NetM)
set_option maxRecDepth 100000 in
set_option maxHeartbeats 8000000 in
theorem tickSplit_walk (A : Option Addr) (n c : Nat) (l : List Int) (x : Int) (w : World) (h : NetC w i GA gn gc RA rn rc OA on oc N) (hl : Sl w A n (l.map I)) (hn : n ≤ maxLen) :
    Calls Try.prog 17 #[netV i GA gn gc RA rn rc OA on oc, .slice A n c, I x] w fun e w' => e = .returned (.bool true) ∧ Ext w w' := by
  obtain ⟨W, hW⟩ : ∃ W, W = w.alloc (.cells #[I i, .slice GA gn gc, .slice RA rn rc, .slice OA on oc] 26) := ⟨_, rfl⟩
  have hxW : Ext w W := by rw [hW]; exact (Ext.refl _).alloc _
  have hbox : NetBox W w.heap.size i GA gn gc RA rn rc OA on oc := by rw [hW]; exact NetBox.new w i GA gn gc RA rn rc OA on oc _
  have hins := h.ins
  have HN := Lib.hid (h.keep hxW.keeps); have HBox := Lib.hid hbox; have HW := Lib.hid hW; have HX := Lib.hid hxW; have HINS := Lib.hid hins
  have HL := Lib.hid (hl.keep hxW.keeps); have HNM := Lib.hid hn
  have hln : l.length = n := hl.len
  have HLN := Lib.hid hln
  clear h hl hn hW hxW hbox hins hln
  go_enter Try.func17, Try.ntmps17
  go_wp2_with fail
  rw [← HW.out]
  refine (run_any i GA gn gc RA rn rc OA on oc N A n c l W HN.out HL.out HNM.out).mono ?_; rintro e w1 ⟨vo, vn, vs, rfl, ho, hn, x1⟩
  generalize hM : runV N l = M at *
  generalize hE : runE N l = E at *
  obtain ⟨A1', c1, rfl, n1, m1, hs1⟩ := ho.slice
  obtain ⟨B1, d1, rfl, n2, m2, hs2⟩ := own_sl hn
  have S1 := Lib.hid hs1; have S2 := Lib.hid hs2; have X1 := Lib.hid x1; have HM := Lib.hid hM; have HE := Lib.hid hE; have N1 := Lib.hid n1; have M1 := Lib.hid m1; have N2 := Lib.hid n2; have M2 := Lib.hid m2
  clear hs1 hs2 x1 ho hn hM hE n1 m1 n2 m2
  by_cases he : E = 0
  · subst he
    have hn60 : n ≤ 60 := by
      obtain ⟨hc, ht, -⟩ := runE_ok HE.out
      have ok := checkN_ok hc
      have := (timesM_ok ht (by have := ok.ins0; have := ok.ins3; omega)).1
      rw [HLN.out] at this; exact this
    go_upto_region 4 with fail
    go_cut [10, 11, 12] (fun s1 s2 s3 wx => ∃ (bn dn : Nat) (B : Option Addr) (cb : Nat) (D : Option Addr) (cd : Nat), bn = (runV N (l ++ [x])).1.length ∧ dn = (runV N (l ++ [x])).2.length ∧ s1 = .slice B bn cb ∧ s2 = .slice D dn cd ∧ s3 = .int .i64 (runE N (l ++ [x])) ∧ SlRows wx B bn (runV N (l ++ [x])).1 ∧ Sl wx D dn ((runV N (l ++ [x])).2.map I) ∧ bn ≤ cb ∧ cb ≤ maxLen ∧ dn ≤ maxLen ∧ Ext w1 wx)
    case first =>
      have key : ∀ Q, Ext w1 Q → Q.cell? ⟨w.heap.size, 0, none⟩ = some (I i) ∧ Q.cell? ⟨w.heap.size, 1, none⟩ = some (.slice GA gn gc) ∧ Q.cell? ⟨w.heap.size, 2, none⟩ = some (.slice RA rn rc) ∧ Q.cell? ⟨w.heap.size, 3, none⟩ = some (.slice OA on oc) := fun Q hQ => HBox.out.keep (X1.out.trans hQ).keeps
      obtain ⟨q0, q1, q2, q3⟩ := HBox.out.keep X1.out.keeps
      go_region_held3 (fun w' => w'.cell? ⟨w.heap.size, 0, none⟩ = some (I i) ∧ w'.cell? ⟨w.heap.size, 1, none⟩ = some (.slice GA gn gc) ∧ w'.cell? ⟨w.heap.size, 2, none⟩ = some (.slice RA rn rc) ∧ w'.cell? ⟨w.heap.size, 3, none⟩ = some (.slice OA on oc))
        (exact key _ (by first | exact hxB.trans xC | exact hxB | exact hxA | exact hxA.alloc _ | exact (Ext.refl w1).drew | exact ((Ext.refl w1).alloc _).drew | exact (((Ext.refl w1).alloc _).alloc _).drew))
        (first
          | (refine step_append0 (by rfl) (.tmp 32) (.tmp 33) 24 3 (by rfl) tab_int' Try.underlying24 rfl (by omega) w1 (by first | exact ((Ext.refl w1).alloc _).drew | exact (((Ext.refl w1).alloc _).alloc _).drew) w1.heap.size (by rfl) (by first | exact own_empty w1.drew 3 1 w1.heap.size (Nat.le_refl _) | exact (own_empty w1.drew 3 1 w1.heap.size (Nat.le_refl _)).alloc _) A n c (l.map I) (by rfl) ((HL.out.keep X1.out.keeps).keep (by first | exact (((Ext.refl w1).alloc _).drew).keeps | exact ((((Ext.refl w1).alloc _).alloc _).drew).keeps)) (ints_one l) (by omega) (by omega) ?_; intro v1 wA hown1 hxA hkA)
          | (refine step_append0 (by rfl) (.tmp 32) (.tmp 33) 24 3 (by rfl) tab_int' Try.underlying24 rfl (by omega) w1 (by first | exact ((Ext.refl w1).alloc _).drew | exact (((Ext.refl w1).alloc _).alloc _).drew) (w1.heap.size + 1) (by rfl) (own_emptyAt (w1.alloc _) 3 1 w1.heap.size (w1.heap.size + 1) (by simp) (by simp)) A n c (l.map I) (by rfl) ((HL.out.keep X1.out.keeps).keep (by first | exact (((Ext.refl w1).alloc _).drew).keeps | exact ((((Ext.refl w1).alloc _).alloc _).drew).keeps)) (ints_one l) (by omega) (by omega) ?_; intro v1 wA hown1 hxA hkA)
          | (refine step_appendBig (by rfl) (.tmp 34) (.tmp 36) 24 3 (by rfl) tab_int' Try.underlying24 rfl (by omega) w1 (hxA.alloc _) v1 n (l.map I) (by rfl) (hown1.alloc _) (some ⟨wA.heap.size, 0, none⟩) 1 1 [I x] (by rfl) (Sl.newAt wA _ [I x] _ rfl) (by simp [Value.oneCell']) (by omega) (by omega) ?_; intro v2 wB hown2 hxB hgB hfB; obtain ⟨A2, c2, rfl, -, -, hsl2⟩ := own_sl hown2; clear hgB hfB)
          | (refine step_appendBig (by rfl) (.tmp 34) (.tmp 36) 24 3 (by rfl) tab_int' Try.underlying24 rfl (by omega) w1 hxA v1 n (l.map I) (by rfl) hown1 (some ⟨w1.heap.size + 1, 0, none⟩) 1 1 [I x] (by rfl) (Sl.keep (Sl.newAt _ _ [I x] _ (by simp)) hkA) (by simp [Value.oneCell']) (by omega) (by omega) ?_; intro v2 wB hown2 hxB hgB hfB; obtain ⟨A2, c2, rfl, -, -, hsl2⟩ := own_sl hown2; clear hgB hfB)
          | (refine step_appendBig (by rfl) (.tmp 34) (.tmp 36) 24 3 (by rfl) tab_int' Try.underlying24 rfl (by omega) w1 hxA v1 n (l.map I) (by rfl) hown1 (some ⟨w1.heap.size, 0, none⟩) 1 1 [I x] (by rfl) (((Sl.newAt w1 w1.heap.size [I x] _ rfl).keep ((Keeps.alloc _ _).trans (Keeps.drew _))).keep hkA) (by simp [Value.oneCell']) (by omega) (by omega) ?_; intro v2 wB hown2 hxB hgB hfB; obtain ⟨A2, c2, rfl, -, -, hsl2⟩ := own_sl hown2; clear hgB hfB)
          | (go_at_call 57; refine (run_any i GA gn gc RA rn rc OA on oc N A2 (n + 1) c2 (l ++ [x]) wB ((HN.out.keep X1.out.keeps).keep hxB.keeps) (by simpa using hsl2) (by unfold maxLen; omega)).mono ?_; rintro e wC ⟨vb, vs2, vss, rfl, hb, hsv, xC⟩))
      all_goals go_wp2_with fail
      all_goals go_meet
      all_goals
        obtain ⟨B, cb, e1, g1, g2, hsb⟩ := hb.slice
        obtain ⟨D, cd, e2, g3, g4, hsd⟩ := own_sl hsv
        exact ⟨_, _, B, cb, D, cd, rfl, rfl, e1, e2, rfl, hsb, hsd, g1, g2, Nat.le_trans g3 g4, hxB.trans xC⟩
    case rest =>
    obtain ⟨bn, dn, B, cb, D, cd, hbn, hdn, rfl, rfl, rfl, hsb, hsd, hbc, hcm, hdm, xc⟩ := hcut
    have XC := Lib.hid xc; clear xc
    by_cases he' : runE N (l ++ [x]) = 0
    · obtain ⟨m, rows, r, o, him, hm3, hck, hv1, hv2, hrl, hrn, hol, hol2, hx0, hx8, hgd, hdE, hdQ⟩ := split_plain HE.out he'
      obtain rfl : i = m := HINS.out.trans him
      obtain rfl : M = (rows, r) := HM.out.symm.trans hv1
      have hrln : rows.length = n := hrl.trans HLN.out
      rw [hv2] at hbn hdn hsb hsd
      have hbn' : bn = n + 1 := by rw [hbn]; simp [hrln]
      subst hbn'
      have hdn' : dn = o.2.length := hdn
      subst hdn'
      obtain ⟨bb, off, A3, c3, rfl, hcell, hs3, h31, h32⟩ := hsb.2 n o.1 (by simp [← hrln])
      have S1' : Hid (SlRows w1 A1' n rows) := by have := S1.out; unfold Hid; rw [← hrln]; exact this
      have HSB : Hid (SlRows wc (some ⟨bb, off, none⟩) (n + 1) (rows ++ [o.1])) := hsb
      have HSD : Hid (Sl wc D o.2.length (o.2.map I)) := hsd
      have HS3 := Lib.hid hs3; have HC3 := Lib.hid hcell; have HGD := Lib.hid hgd; have HDE := Lib.hid hdE; have HDQ := Lib.hid hdQ; have H3 := Lib.hid (Nat.le_trans h31 h32)
      have S2' : Hid (Sl w1 B1 r.length (r.map I)) := S2.out
      have hrm : r.length ≤ maxLen := Nat.le_trans N2.out M2.out
      have hnc : n ≤ cb := by omega
      have HRM := Lib.hid hrm; have HDM := Lib.hid hdm; have HNC := Lib.hid hnc; have HCM := Lib.hid hcm
      obtain ⟨q0, q1, q2, q3⟩ := HBox.out.keep (X1.out.trans XC.out).keeps
      rw [he']
      have hA1 : (Value.slice A1' (rows, r).1.length c1) = .slice A1' n c1 := by rw [← hrln]
      rw [hA1]
      clear hA1 hsb hsd hs3 hcell hgd hdE hdQ h31 h32 hrm hdm hcm S1 S2 hv1 hv2 hrl hrn hol hol2 hck HM HE he' hrln hbn hdn him HINS N1 N2
      unfold maxLen at HCM
      go_wp2_with fail
      refine (sameRows_any (some ⟨bb, off, none⟩) A1' n n cb c1 rows rows wc HSB.out.front (S1'.out.keep XC.out.keeps) HNM.out HNM.out).mono ?_; rintro e w2 ⟨rfl, x2⟩
      rw [decide_eq_true (rfl : rows = rows)]
      have X2 := Lib.hid (XC.out.trans x2); have X2' := Lib.hid x2; clear x2 q0 q1 q2 q3
      obtain ⟨q0, q1, q2, q3⟩ := HBox.out.keep (X1.out.trans X2.out).keeps
      go_wp2_with fail
      have HX0 := Lib.hid hx0; have HX8 := Lib.hid hx8; have HM3 := Lib.hid hm3
      clear hx0 hx8 hm3
      go_loopw [13, 14, 15] (fun v k' y wr => ∃ (j : Nat) (y' : Int) (zs : List Int), j ≤ m ∧ y = .int .i64 y' ∧ 0 ≤ y' ∧ y' < 1073741824 ∧ k' = .int .i64 j ∧ Ext w2 wr ∧ wr.ownsRow w2.heap.size 3 1 v j (zs.map I) ∧ zs ++ bitsM y' (m - j) = bitsM x m) (fun _ k' _ _ => m - (intOf k').toNat)
      case atStart => exact ⟨0, x, [], Nat.zero_le _, rfl, HX0.out, by have := HX8.out; omega, rfl, Ext.refl _, World.ownsRow_nil _ _ _ _, rfl⟩
      case round =>
        obtain ⟨j, y, zs, hj, rfl, hy0, hy1, rfl, hext, hown, hBM⟩ := hrel
        obtain ⟨q0, q1, q2, q3⟩ := HBox.out.keep ((X1.out.trans X2.out).trans hext).keeps
        have hm3 := HM3.out
        by_cases hlt : j < m
        · rw [show m - j = (m - (j + 1)) + 1 from by omega, bitsM] at hBM
          have HBM := Lib.hid hBM; clear hBM
          have HO := Lib.hid hown; clear hown
          go_wp2_with (at_builtin; refine wpList_push rfl (.tmp 84) (.tmp 87) 24 3 rfl tab_int' Try.underlying24 rfl (by omega) w2 wr hext _ j _ rfl HO.out [I (y % 2)] rfl rfl rfl (by simp [Value.oneCell']) (by unfold maxLen; omega) (by omega) ?_; intro v' w3 hown3 hx3 _)
          go_roundw
          case rel => exact ⟨j + 1, y / 2, zs ++ [y % 2], by omega, by go_num, by omega, by omega, by go_num, hx3, by simpa using hown3, by rw [← HBM.out]; simp⟩
          case measure => simp [intOf]; omega
        · have hjm : j = m := by omega
          subst hjm
          have hz : zs = bitsM x j := by rw [← hBM]; simp [bitsM]
          subst hz
          obtain ⟨IA, ic, rfl, -, -, hsi⟩ := own_sl hown
          have HSI := Lib.hid hsi; have X3 := Lib.hid (X2.out.trans hext)
          clear hBM hown hsi hlt hj hy0 hy1
          go_wp2_with fail
          refine (do_any j GA gn gc RA rn rc OA on oc N B1 r.length d1 IA j ic r (bitsM x j) wr (HN.out.keep (X1.out.trans X3.out).keeps) (S2'.out.keep X3.out.keeps) HSI.out HRM.out (by unfold maxLen; omega)).mono ?_; rintro e w3 ⟨vo, vn, rfl, ho, hn, x3⟩
          rw [HDE.out]; rw [HDQ.out] at ho hn
          obtain ⟨A4, c4, rfl, -, -, hs4⟩ := own_sl ho
          obtain ⟨B4, d4, rfl, -, -, hs5⟩ := own_sl hn
          have HS4 := Lib.hid hs4; have HS5 := Lib.hid hs5; have X4 := Lib.hid (X3.out.trans x3); have X4' := Lib.hid (hext.trans x3)
          clear ho hn hs4 hs5 x3 q0 q1 q2 q3 HSI
          have HSD3 := Lib.hid (HSD.out.keep (X2'.out.trans X4'.out).keeps)
          have HC4 := Lib.hid ((X2'.out.trans X4'.out).keeps _ _ HC3.out); have HS6 := Lib.hid (HS3.out.keep (X2'.out.trans X4'.out).keeps)
          go_wp2_with fail
          go_loopw [19] (fun k' wr' => ∃ q : Nat, q ≤ o.2.length ∧ k' = .int .i64 q ∧ wr' = w3) (fun k' _ => o.2.length - (intOf k').toNat)
          case atStart => exact ⟨0, Nat.zero_le _, rfl, rfl⟩
          case round =>
            obtain ⟨q, hq, rfl, rfl⟩ := hrel
            by_cases hlt : q < o.2.length
            · obtain ⟨b', off', z, rfl, hcz, hz⟩ := HSD3.out.at_ hlt
              have hz01 := HGD.out z (List.mem_of_getElem? hz)
              clear hz
              have hdm3 := HDM.out; unfold maxLen at hdm3
              rcases hz01 with rfl | rfl
              · go_wp2
                go_roundw
                case rel => exact ⟨q + 1, by omega, by go_num, by first | rfl | trivial⟩
                case measure => simp [intOf]; omega
              · go_wp2
                go_roundw
                case rel => exact ⟨q + 1, by omega, by go_num, by first | rfl | trivial⟩
                case measure => simp [intOf]; omega
            · obtain rfl : q = o.2.length := by omega
              clear hlt hq
              go_wp2_with fail
              refine (tickBegun_any _).mono ?_; rintro e w5 ⟨rfl, x5⟩
              have hcc := x5.keeps _ _ HC4.out
              have X5 := Lib.hid x5; clear x5
              go_wp2_with fail
              refine (sameInts_any A3 A4 o.1.length o.1.length c3 c4 o.1 o.1 w5 (HS6.out.keep X5.out.keeps) (HS4.out.keep X5.out.keeps) H3.out H3.out).mono ?_; rintro e w6 ⟨rfl, mm, rfl⟩
              have X6 := Lib.hid (X5.out.drewN mm)
              rw [decide_eq_true (rfl : o.1 = o.1)]
              go_wp2_with fail
              refine (sameInts_any D B4 o.2.length o.2.length cd d4 o.2 o.2 _ (HSD3.out.keep X6.out.keeps) (HS5.out.keep X6.out.keeps) HDM.out HDM.out).mono ?_; rintro e w6 ⟨rfl, mm', rfl⟩
              rw [decide_eq_true (rfl : o.2 = o.2)]
              go_wp2
              go_ret
              exact ⟨by simp, (HX.out.trans (X1.out.trans (X4.out.trans X5.out))).drewN _⟩
    · have hnz : (runE N (l ++ [x]) != 0) = true := by simpa using he'
      generalize runE N (l ++ [x]) = E' at *
      clear he' hsb hsd
      go_wp2_with fail
      refine (tickBegun_any _).mono ?_; rintro e w5 ⟨rfl, x5⟩
      go_wp2
      go_ret
      exact ⟨rfl, HX.out.trans (X1.out.trans (XC.out.trans x5))⟩
  · have hnz : (E != 0) = true := by simpa using he
    clear he
    go_wp2_with fail
    refine (tickBegun_any _).mono ?_; rintro e w5 ⟨rfl, x5⟩
    go_wp2
    go_ret
    exact ⟨rfl, HX.out.trans (X1.out.trans x5)⟩
end
end Go.Proofs.Ytjagbnaacfhokaa
