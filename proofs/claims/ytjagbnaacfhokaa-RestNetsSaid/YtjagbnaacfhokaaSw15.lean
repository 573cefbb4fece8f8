/- append of all of a slice onto an own row: the run, and the step of a region that draws. -/
import Derived.Test.YtjagbnaacfhokaaSw02
import Derived.Deep.RegionHeld3
import Derived.Deep.AppendLies
import Derived.Test.YtjagbnaacfhokaaSw13
import Derived.Test.YtjagbnaacfhokaaSw14
import Derived.Test.YtjagbnaacfhokaaSw10
namespace Go.Proofs.Ytjagbnaacfhokaa
set_option linter.unusedVariables false
set_option linter.unusedSimpArgs false
open Go.RowKit

/-- The run of append of all of a slice of one-cell elements onto a row of the call's own. -/
theorem run_appendBig {P : Program} {w : World} (t e : TypeId) (ty : TypeId)
    {z : Value} {bytes : Nat} (tab : (P.info? e).map (fun i => (i.zero, i.size, i.bytes)) = some (some z, 1, bytes)) (ht : P.underlying t = some (.slice e)) (hzs : z.cells.size = 1) (h8 : bytes ≤ 65536)
    (W0 : World) (hext : Ext W0 w) (v : Value) (n : Nat) (xs : List Value) (hown : w.ownsRow W0.heap.size e 1 v n xs)
    (A : Option Addr) (m c : Nat) (news : List Value) (hr : Sl w A m news) (h1 : ∀ u ∈ news, u.oneCell' = true)
    (hbytes : (n + m) * bytes ≤ 140737489403904) (hm4 : n + m ≤ 9007199254740992) :
    ∃ v' w', (Builtin.append_ #[t, t] ty #[v, .slice A m c]).run P w = .ok v' w' ∧ w'.ownsRow W0.heap.size e 1 v' (n + m) (xs ++ news) ∧ w.grownBy w' v.ownBlock ∧ (∀ k, v'.ownBlock = some k → v.ownBlock = some k ∨ w.heap.size ≤ k) := by
  have h63 : n + m ≤ maxLen := by unfold maxLen; omega
  obtain ⟨i, hi, hz, hs1, hs2⟩ := info_parts tab
  have hb : ∀ k, v.ownBlock = some k → W0.heap.size ≤ k := fun k hk => (hown.lt k hk).1
  rcases Nat.eq_zero_or_pos m with hm0 | hmp
  · subst hm0
    have hn : news = [] := List.eq_nil_of_length_eq_zero hr.1
    subst hn
    have hrun : (Builtin.append_ #[t, t] ty #[v, .slice A 0 c]).run P w = .ok v w := by
      rcases hown.2 with ⟨rfl, rfl⟩ | ⟨g, cap, cur, rfl, _, _, hnc, _⟩
      · simp [Builtin.append_, run_underlying ht, sizeOf, typeInfo, hi, Builtin.lenOf, Builtin.firstCells, loadCells, loadCellsFrom]
        try (cases A <;> simp [Builtin.firstCells, loadCells, loadCellsFrom])
      · simp [Builtin.append_, run_underlying ht, sizeOf, typeInfo, hi, Builtin.lenOf, hnc]
        cases A <;> simp [Builtin.firstCells, loadCells, loadCellsFrom, storeCells]
    exact ⟨v, w, hrun, by simpa using hown, World.grownBy.refl w _, fun k hk => .inl hk⟩
  obtain ⟨b, off, rfl⟩ : ∃ b off, A = some ⟨b, off, none⟩ := by
    have hl : 0 < news.length := by rw [hr.1]; exact hmp
    obtain ⟨b, off, e2, _⟩ := hr.2 0 _ (List.getElem?_eq_getElem hl)
    exact ⟨b, off, e2⟩
  have hcells : ∀ j u, news[j]? = some u → w.cell? ((⟨b, off, none⟩ : Addr).add j) = some u := by
    intro j u hu
    obtain ⟨b', off', e2, hc⟩ := hr.2 j u hu
    injection e2 with e2; injection e2 with e2 e3
    subst e2; subst e3
    rw [add_plain']; exact hc
  have hnl : news.length = m * i.size := by rw [hs1, hr.1]; omega
  have hlen : (xs ++ news).length = (n + m) * 1 := by have := hown.1; have := hr.1; simp; omega
  have grown : ∀ (old : Nat), old < n + m → ∀ (row : Option Nat),
      (w.drew.alloc (.cells (xs.toArray ++ news.toArray ++ Builtin.zeroCells z.cells (grownCap w (n + m) old e - (n + m))) e)).ownsRow W0.heap.size e 1
        (.slice (some ⟨w.heap.size, 0, none⟩) (n + m) (grownCap w (n + m) old e)) (n + m) (xs ++ news) ∧
      w.grownBy (w.drew.alloc (.cells (xs.toArray ++ news.toArray ++ Builtin.zeroCells z.cells (grownCap w (n + m) old e - (n + m))) e)) row := by
    intro old ho' row
    have hge := grownCap_ge w (n + m) old e
    refine ⟨⟨hlen, .inr ⟨w.heap.size, _, _, rfl, hext.size, heap_alloc_new w.drew _, hge, grownCap_le_maxLen w (n + m) old e h63, ?_, ?_⟩⟩, ⟨rfl, rfl, rfl, by simp, fun k hk _ => Below.heap_alloc w.drew _ k hk⟩⟩
    · simp only [Array.size_append, List.size_toArray, size_zeroCells, hzs, hown.1, hr.1, Nat.mul_one]
      omega
    · simp only [Array.toList_append, List.append_assoc]
      rw [← List.append_assoc, ← hlen]
      exact List.take_left
  have hres : ∃ v' w', (Builtin.append_ #[t, t] ty #[v, .slice (some ⟨b, off, none⟩) m c]).run P w = .ok v' w' ∧ w'.ownsRow W0.heap.size e 1 v' (n + m) (xs ++ news) ∧ w.grownBy w' v.ownBlock ∧ (∀ k, v'.ownBlock = some k → v.ownBlock = some k ∨ w.heap.size ≤ k) := by
    rcases hown.2 with ⟨rfl, rfl⟩ | ⟨g, cap, cur, rfl, hbg, hg, hnc, hcm, hcs, htake⟩
    · have hx0 : xs = [] := List.eq_nil_of_length_eq_zero (by simpa using hown.1)
      subst hx0
      have hr0 := run_append_nil (P := P) w t ty e i z ht hi hz ⟨b, off, none⟩ m c news hnl hcells hmp (by omega) (by rw [hs2]; simp only [Nat.zero_add] at hbytes; omega)
      have hgr := grown 0 (by omega) (Value.ownBlock (.slice none 0 0))
      simp only [Nat.zero_add, List.nil_append, Array.empty_append] at hgr ⊢
      exact ⟨_, _, hr0, hgr.1, hgr.2, fun k hk => .inr (by simp [Value.ownBlock] at hk; omega)⟩
    · by_cases hroom : n + m ≤ cap
      · have hfit : n * i.size + news.length ≤ cur.size := by rw [hs1, hr.1, hcs]; omega
        have hr0 := run_append_room (P := P) w t ty e i ht hi g n cap cur hg ⟨b, off, none⟩ m c news hnl hcells h1 hroom hfit
        refine ⟨_, _, hr0, ⟨hlen, .inr ⟨g, cap, _, rfl, hbg, setRow_heap w g cur _ e _ hg, hroom, hcm, ?_, ?_⟩⟩, ⟨rfl, rfl, rfl, by simp, fun k _ hk => setRow_other w g k _ (fun e => hk (by simp [Value.ownBlock, e]))⟩, fun k hk => .inl hk⟩
        · rw [hs1] at *
          simp only [List.size_toArray, List.length_append, List.length_take, List.length_drop, Array.length_toList]
          omega
        · rw [hs1, htake, ← hlen]
          exact List.take_left
      · have holds : ∀ j u, xs[j]? = some u → w.cell? ((⟨g, 0, none⟩ : Addr).add j) = some u := hown.cells (g := g) rfl
        have hr0 := run_append_grow (P := P) w t ty e i z ht hi hz ⟨g, 0, none⟩ n cap xs (by rw [hs1]; exact hown.1) holds ⟨b, off, none⟩ m c news hnl hcells (by omega) (by omega) (by rw [hs2]; exact growslice_big (by omega) hbytes h8)
        have hgr := grown cap (by omega) (Value.ownBlock (.slice (some ⟨g, 0, none⟩) n cap))
        exact ⟨_, _, hr0, hgr.1, hgr.2, fun k hk => .inr (by simp [Value.ownBlock] at hk; omega)⟩
  exact hres

/-- The same at a step of a region that draws its order. -/
theorem step_appendBig {P : Program} {ops : Array Oper} {o : Oper} {a : Act} {K : Act → World → Prop} {Q : Exit → Act → World → Prop} {w : World} {E : Prop} (hgd : o.guard = none) (s x : Operand) (t e : TypeId)
    (ho : o.op = .call { callee := .builtin .append, args := #[s, x], argTypes := #[t, t] })
    {z : Value} {bytes : Nat} (tab : (P.info? e).map (fun i => (i.zero, i.size, i.bytes)) = some (some z, 1, bytes)) (ht : P.underlying t = some (.slice e)) (hzs : z.cells.size = 1) (h8 : bytes ≤ 65536)
    (W0 : World) (hext : Ext W0 w) (v : Value) (n : Nat) (xs : List Value) (hs : a.eval s = v) (hown : w.ownsRow W0.heap.size e 1 v n xs)
    (A : Option Addr) (m c : Nat) (news : List Value) (hx : a.eval x = .slice A m c) (hr : Sl w A m news) (h1 : ∀ u ∈ news, u.oneCell' = true)
    (hbytes : (n + m) * bytes ≤ 140737489403904) (hm4 : n + m ≤ 9007199254740992)
    (h : ∀ v' w', w'.ownsRow W0.heap.size e 1 v' (n + m) (xs ++ news) → Ext W0 w' → w.grownBy w' v.ownBlock → (∀ k, v'.ownBlock = some k → v.ownBlock = some k ∨ w.heap.size ≤ k) → K (a.put o.dst v') w') :
    if Region.wanted o (yielded ops a.tmps) = true then Oper.wp P o a w K Q else E := by
  have hw : Region.wanted o (yielded ops a.tmps) = true := by simp [Region.wanted, hgd]
  rw [if_pos hw]
  obtain ⟨v', w', hrun, k1, k2, k3⟩ := run_appendBig (P := P) t e o.type tab ht hzs h8 W0 hext v n xs hown A m c news hr h1 hbytes hm4
  unfold Oper.wp execOp
  simp only [ho, resolve, invoke, builtin, Sem.run_bind, Sem.run_pure, Result.andThen_ok, List.map_toArray, List.map_cons, List.map_nil, hs, hx, hrun]
  exact h v' w' k1 (Below.grown hext k2 hext.size (fun k hk => (hown.lt k hk).1)) k2 k3
end Go.Proofs.Ytjagbnaacfhokaa
/- append onto an own row of no room, at a step of a region that draws. -/
namespace Go.Proofs.Ytjagbnaacfhokaa
set_option linter.unusedVariables false
set_option linter.unusedSimpArgs false
open Go.RowKit

/-- append onto a row of no room: what was there stays. -/
theorem step_append0 {P : Program} {ops : Array Oper} {o : Oper} {a : Act} {K : Act → World → Prop} {Q : Exit → Act → World → Prop} {w : World} {E : Prop} (hgd : o.guard = none) (s x : Operand) (t e : TypeId)
    (ho : o.op = .call { callee := .builtin .append, args := #[s, x], argTypes := #[t, t] })
    {z : Value} {bytes : Nat} (tab : (P.info? e).map (fun i => (i.zero, i.size, i.bytes)) = some (some z, 1, bytes)) (ht : P.underlying t = some (.slice e)) (hzs : z.cells.size = 1) (h8 : bytes ≤ 65536)
    (W0 : World) (hext : Ext W0 w) (b : Nat) (hs : a.eval s = .slice (some ⟨b, 0, none⟩) 0 0) (hown : w.ownsRow W0.heap.size e 1 (.slice (some ⟨b, 0, none⟩) 0 0) 0 [])
    (A : Option Addr) (m c : Nat) (news : List Value) (hx : a.eval x = .slice A m c) (hr : Sl w A m news) (h1 : ∀ u ∈ news, u.oneCell' = true)
    (hbytes : m * bytes ≤ 140737489403904) (hm4 : m ≤ 9007199254740992)
    (h : ∀ v' w', w'.ownsRow W0.heap.size e 1 v' m news → Ext W0 w' → Keeps w w' → K (a.put o.dst v') w') :
    if Region.wanted o (yielded ops a.tmps) = true then Oper.wp P o a w K Q else E := by
  refine step_appendBig hgd s x t e ho tab ht hzs h8 W0 hext _ 0 [] hs hown A m c news hx hr h1 (by rw [Nat.zero_add]; exact hbytes) (by omega) fun v' w' k1 k2 k3 _ => ?_
  rw [Nat.zero_add, List.nil_append] at k1
  refine h v' w' k1 k2 fun ad u hu => ?_
  by_cases hb : ad.block = b
  · exfalso
    rcases hown.2 with ⟨e1, _⟩ | ⟨g, cap, cur, e1, _, hg, _, _, hcs, _⟩
    · cases e1
    · injection e1 with e1 _ e3
      injection e1 with e1; injection e1 with e1
      subst e1; subst e3
      have h0 : cur.size = 0 := by simpa using hcs
      have h00 : cur = #[] := Array.eq_empty_of_size_eq_zero h0
      subst h00
      unfold World.cell? at hu
      rw [hb, hg] at hu
      simp at hu
  · exact k3.cell hu (fun e => hb (by first | simpa [Value.ownBlock] using e.symm | simpa [Value.ownBlock] using e))

theorem own_emptyAt (w : World) (e : TypeId) (size base b : Nat) (hb : b = w.heap.size) (h : base ≤ w.heap.size) : (w.alloc (.cells #[] e)).drew.ownsRow base e size (.slice (some ⟨b, 0, none⟩) 0 0) 0 [] := by
  subst hb; exact own_empty w.drew e size base h
end Go.Proofs.Ytjagbnaacfhokaa
/- KeptOf, by the reference: where each gate goes. -/
namespace Go.Proofs.Ytjagbnaacfhokaa
set_option linter.unusedVariables false
set_option linter.unusedSimpArgs false
open Go.RowKit

theorem toM_len (N : NetM) : (toM N).length = N.gates.length := by unfold toM; rw [keptFrom_len, is_len]
theorem toM_at {N : NetM} {k : Nat} {b : Bool} (h : (isM N)[k]? = some b) : (toM N)[k]? = some (if b then ((cnt ((isM N).take k) : Nat) : Int) else -1) := by
  unfold toM; rw [keptFrom_at _ _ _ _ h]; simp
theorem cnt_next {l : List Bool} {k : Nat} {b : Bool} (h : l[k]? = some b) : cnt (l.take (k + 1)) = cnt (l.take k) + (if b then 1 else 0) := by
  rw [List.take_add_one, h]
  unfold cnt
  cases b <;> simp
theorem cnt_len (l : List Bool) : cnt l ≤ l.length := List.countP_le_length
theorem map_next {l : List Int} {k : Nat} {x : Int} (h : l[k]? = some x) : (l.take (k + 1)).map I = (l.take k).map I ++ [I x] := by rw [List.take_add_one, h]; simp
section
variable (i : Int) (GA : Option Addr) (gn gc : Nat) (RA : Option Addr) (rn rc : Nat) (OA : Option Addr) (on oc : Nat) (N : NetM) (w : World)
set_option maxRecDepth 100000 in
set_option maxHeartbeats 8000000 in
theorem keptOf_any (h : NetC w i GA gn gc RA rn rc OA on oc N) (ok : NetOK N) :
    Calls Try.prog 67 #[netV i GA gn gc RA rn rc OA on oc] w fun e w' => ∃ v, e = .returned v ∧ w'.ownsRow w.heap.size 3 1 v gn ((toM N).map I) ∧ Ext w w' := by
  have hgl : N.gates.length = gn := h.gates.1
  obtain ⟨W, hW⟩ : ∃ W, W = w.alloc (.cells #[I i, .slice GA gn gc, .slice RA rn rc, .slice OA on oc] 26) := ⟨_, rfl⟩
  have hxW : Ext w W := by rw [hW]; exact (Ext.refl _).alloc _
  have hbox : NetBox W w.heap.size i GA gn gc RA rn rc OA on oc := by rw [hW]; exact NetBox.new w i GA gn gc RA rn rc OA on oc _
  have HN := Lib.hid (h.keep hxW.keeps); have HBox := Lib.hid hbox; have HW := Lib.hid hW; have HX := Lib.hid hxW
  have hr20 : rn ≤ 20 := by have := ok.rl; have := h.regs.1; omega
  have ho3 : on ≤ 3 := by have := ok.ol; have := h.outs.len; omega
  have hg200 : gn ≤ 200 := by have := ok.gl; omega
  have hil : (isM N).length = gn := by rw [is_len, hgl]
  have htl : (toM N).length = gn := by rw [toM_len, hgl]
  have HOK := Lib.hid ok; have HIL := Lib.hid hil; have HTL := Lib.hid htl
  clear h hW hxW hbox ok hgl hil htl
  go_enter Try.func67, Try.ntmps67
  go_upto_region 1 with fail
  rw [← HW.out]
  go_cut [3] (fun s wx => wx.ownsRow W.heap.size 4 1 s gn ((isM N).map Bv) ∧ Ext W wx)
  case first =>
    have key : ∀ Q, Ext W Q → Q.cell? ⟨w.heap.size, 0, none⟩ = some (I i) ∧ Q.cell? ⟨w.heap.size, 1, none⟩ = some (.slice GA gn gc) ∧ Q.cell? ⟨w.heap.size, 2, none⟩ = some (.slice RA rn rc) ∧ Q.cell? ⟨w.heap.size, 3, none⟩ = some (.slice OA on oc) := fun Q hQ => HBox.out.keep hQ.keeps
    obtain ⟨q0, q1, q2, q3⟩ := HBox.out
    go_region_held3 (fun w' => w'.cell? ⟨w.heap.size, 0, none⟩ = some (I i) ∧ w'.cell? ⟨w.heap.size, 1, none⟩ = some (.slice GA gn gc) ∧ w'.cell? ⟨w.heap.size, 2, none⟩ = some (.slice RA rn rc) ∧ w'.cell? ⟨w.heap.size, 3, none⟩ = some (.slice OA on oc))
      (exact key _ (by first | exact hxC.trans xD | exact hxC | exact hxA.trans xB | exact hxA | exact (Ext.refl W).drew | exact ((Ext.refl W).alloc _).drew))
      (first
        | (refine step_append0 (by rfl) (.tmp 8) (.tmp 10) 24 3 (by rfl) tab_int' Try.underlying24 rfl (by omega) W ((Ext.refl W).alloc _).drew W.heap.size (by go_simp) (own_empty W.drew 3 1 W.heap.size (Nat.le_refl _)) OA on oc (N.outs.map I) (by go_simp) (HN.out.outs.keep (((Ext.refl W).alloc _).drew).keeps) (ints_one _) (by omega) (by omega) ?_; intro v1 wA hown1 hxA hkA; clear hkA)
        | (go_at_call 97; refine (rnexts_any i GA gn gc RA rn rc OA on oc N wA (HN.out.keep hxA.keeps) hr20).mono ?_; rintro e wB ⟨v2, rfl, hown2, xB⟩; obtain ⟨A2, c2, rfl, -, -, hs2⟩ := own_sl hown2; clear hown2)
        | (refine step_appendBig (by rfl) (.tmp 11) (.tmp 13) 24 3 (by rfl) tab_int' Try.underlying24 rfl (by omega) W (hxA.trans xB) v1 on (N.outs.map I) (by go_simp) (own_ext hown1 xB) A2 rn c2 ((nextsM N).map I) (by go_simp) hs2 (ints_one _) (by omega) (by omega) ?_; intro v3 wC hown3 hxC hgC hfC; obtain ⟨A3, c3, rfl, -, -, hs3⟩ := own_sl hown3; rw [← List.map_append] at hs3; clear hgC hfC hown3)
        | (go_at_call 115; refine (needsOf_any i GA gn gc RA rn rc OA on oc N A3 (on + rn) c3 (N.outs ++ nextsM N) wC (HN.out.keep hxC.keeps) hs3 HOK.out (wanted_in HOK.out) (by unfold maxLen; omega)).mono ?_; rintro e wD ⟨v4, rfl, hown4, xD⟩))
    all_goals go_wp2_with fail
    all_goals go_meet
    all_goals exact ⟨own_base hown4 hxC.size, hxC.trans xD⟩
  case rest =>
  obtain ⟨hown, hx2⟩ := hcut
  obtain ⟨IA, ic, rfl, -, -, hs⟩ := own_sl hown
  have HS := Lib.hid hs; have X2 := Lib.hid hx2
  clear hown hs hx2
  go_wp2_with fail
  go_loopw [4, 5, 6] (fun s a j wr => ∃ (k : Nat), k ≤ gn ∧ j = .int .i64 k ∧ a = .int .i64 (cnt ((isM N).take k) : Nat) ∧ Ext wc wr ∧ wr.ownsRow wc.heap.size 3 1 s k (((toM N).take k).map I)) (fun _ _ j _ => gn - (intOf j).toNat)
  case atStart => exact ⟨0, Nat.zero_le _, rfl, rfl, Ext.refl _, World.ownsRow_nil _ _ _ _⟩
  case round =>
    obtain ⟨k, hk, rfl, rfl, hext, hown⟩ := hrel
    by_cases hlt : k < gn
    · obtain ⟨b, off, x, rfl, hc0, hx⟩ := HS.out.at_ hlt
      have hc := hext.keeps _ _ hc0
      have hto := toM_at hx
      have hcn := cnt_next hx
      have hcl : cnt ((isM N).take k) ≤ 200 := by have := cnt_len ((isM N).take k); have := List.length_take_le k (isM N); omega
      have HO := Lib.hid hown; have HM := Lib.hid (map_next hto); have HCN := Lib.hid hcn; have HE := Lib.hid hext
      clear hown hto hc0 hx hcn hext
      cases x
      · go_wp2_with (at_builtin; refine wpList_push rfl (.tmp 32) (.tmp 33) 24 3 rfl tab_int' Try.underlying24 rfl (by omega) wc wr HE.out _ k _ rfl HO.out [I (-1)] rfl rfl rfl (by simp [Value.oneCell']) (by unfold maxLen; omega) (by omega) ?_; intro v' w2 hown2 hx3 _)
        go_roundw
        case rel => exact ⟨k + 1, by omega, by go_num, by rw [HCN.out]; simp, hx3, by rw [HM.out]; exact hown2⟩
        case measure => simp [intOf]; omega
      · go_wp2_with (at_builtin; refine wpList_push rfl (.tmp 26) (.tmp 28) 24 3 rfl tab_int' Try.underlying24 rfl (by omega) wc wr HE.out _ k _ rfl HO.out [I (cnt ((isM N).take k) : Nat)] rfl rfl rfl (by simp [Value.oneCell']) (by unfold maxLen; omega) (by omega) ?_; intro v' w2 hown2 hx3 _)
        go_roundw
        case rel => exact ⟨k + 1, by omega, by go_num, by rw [HCN.out]; go_num, hx3, by rw [HM.out]; exact hown2⟩
        case measure => simp [intOf]; omega
    · obtain rfl : gn = k := by omega
      have ht : (toM N).take gn = toM N := List.take_of_length_le (by rw [HTL.out]; exact Nat.le_refl _)
      rw [ht] at hown
      have HO := Lib.hid hown; have HE := Lib.hid hext; clear hown ht hext
      go_wp2
      go_ret
      exact ⟨_, rfl, own_base HO.out (HX.out.trans X2.out).size, (HX.out.trans X2.out).trans HE.out⟩
end
end Go.Proofs.Ytjagbnaacfhokaa
/- What stands in memory while Drop turns the numbers of its new net. -/
namespace Go.Proofs.Ytjagbnaacfhokaa
set_option linter.unusedVariables false
set_option linter.unusedSimpArgs false
open Go.RowKit

structure DropW (w2 : World) (b7 mb mn : Nat) (mf : Int → Int) (i : Int) (A : Option Addr) (dn c : Nat) (R : Option Addr) (rn rd : Nat) (O : Option Addr) (on od : Nat) (VS : List Value) (wr : World) (G : List GateM) (Rg : List StoreM) (Ou : List Int) : Prop where
  ext : Ext w2 wr
  box : Box wr b7 26 [I i, .slice A dn c, .slice R rn rd, .slice O on od]
  gates : OwnG wr w2.heap.size (.slice A dn c) G VS
  regs : wr.ownsRow w2.heap.size 78 2 (.slice R rn rd) rn (storeCs Rg)
  outs : wr.ownsRow w2.heap.size 3 1 (.slice O on od) on (Ou.map I)
  map : MapI wr mb mn mf
  ap : ∀ v ∈ VS, ∀ ob, O = some ⟨ob, 0, none⟩ → v.ownBlock ≠ some ob
section
variable {w2 : World} {b7 mb mn : Nat} {mf : Int → Int} {i : Int} {A : Option Addr} {dn c : Nat} {R : Option Addr} {rn rd : Nat} {O : Option Addr} {on od : Nat} {VS : List Value} {wr wr' : World} {G : List GateM} {Rg : List StoreM} {Ou : List Int}
theorem DropW.more (h : DropW w2 b7 mb mn mf i A dn c R rn rd O on od VS wr G Rg Ou) (hx : Ext wr wr') : DropW w2 b7 mb mn mf i A dn c R rn rd O on od VS wr' G Rg Ou :=
  ⟨h.ext.trans hx, h.box.ext hx, h.gates.ext hx, own_ext h.regs hx, own_ext h.outs hx, h.map.ext hx, h.ap⟩
theorem DropW.arg (h : DropW w2 b7 mb mn mf i A dn c R rn rd O on od VS wr G Rg Ou) {k ab m d : Nat} {g : GateM} (hg : G[k]? = some g) (hv : VS[k]? = some (.slice (some ⟨ab, 0, none⟩) m d)) (j : Nat) (x : Int) :
    DropW w2 b7 mb mn mf i A dn c R rn rd O on od VS (wr.setCell ⟨ab, j, none⟩ (I x)) (G.set k ⟨g.kind, g.num, g.args.set j x⟩) Rg Ou := by
  have h1 := h.gates.own k _ g hv hg
  have hge : w2.heap.size ≤ ab := (h1.lt ab rfl).1
  have hnb : b7 ≠ ab := fun e => h.box.apart h1 (by decide) (by simp [Value.ownBlock, e])
  have hmb : ab ≠ mb := fun e => h.map.ne_row h1 (by simp [Value.ownBlock, e])
  have hr : (Value.slice R rn rd).ownBlock ≠ some ab := by
    rcases own_types h.regs h1 (by decide) with q | q
    · rw [q]; intro hh; cases hh
    · simpa [Value.ownBlock] using q
  have ho : (Value.slice O on od).ownBlock ≠ some ab := by
    intro e
    rcases h.outs.2 with ⟨e1, _⟩ | ⟨g', cap, cur, e1, _⟩
    · rw [e1] at e; cases e
    · have eO : O = some ⟨g', 0, none⟩ := by injection e1
      subst eO
      have e3 : g' = ab := by simpa [Value.ownBlock] using e
      subst e3
      exact h.ap _ (List.mem_of_getElem? hv) g' rfl (by simp [Value.ownBlock])
  exact ⟨h.ext.setCell (p := ⟨ab, j, none⟩) hge _, h.box.kept (grownBy_set wr ab j _) (by simpa using fun e => hnb e.symm), h.gates.setArg hg hv j x, own_set h.regs hr _ _, own_set h.outs ho _ _, h.map.set hmb j _, h.ap⟩
theorem DropW.reg {rb : Nat} (h : DropW w2 b7 mb mn mf i A dn c (some ⟨rb, 0, none⟩) rn rd O on od VS wr G Rg Ou) {k : Nat} {r : StoreM} (hr : Rg[k]? = some r) (x : Int) :
    DropW w2 b7 mb mn mf i A dn c (some ⟨rb, 0, none⟩) rn rd O on od VS (wr.setCell ⟨rb, k * 2 + 1, none⟩ (I x)) G (Rg.set k ⟨r.fst, x⟩) Ou := by
  have hge : w2.heap.size ≤ rb := (h.regs.lt rb rfl).1
  have hnb : b7 ≠ rb := fun e => h.box.apart h.regs (by decide) (by simp [Value.ownBlock, e])
  have hmb : rb ≠ mb := fun e => h.map.ne_row h.regs (by simp [Value.ownBlock, e])
  have ho : (Value.slice O on od).ownBlock ≠ some rb := by
    rcases own_types h.outs h.regs (by decide) with q | q
    · rw [q]; intro hh; cases hh
    · simpa [Value.ownBlock] using q
  refine ⟨h.ext.setCell (p := ⟨rb, _, none⟩) hge _, h.box.kept (grownBy_set wr rb _ _) (by simpa using fun e => hnb e.symm), h.gates.reg h.regs _ _, ?_, own_set h.outs ho _ _, h.map.set hmb _ _, h.ap⟩
  rw [← storeCs_set Rg k r x hr]
  exact (h.regs.stored (k * 2 + 1) (I x)).1
theorem DropW.out {ob : Nat} (h : DropW w2 b7 mb mn mf i A dn c R rn rd (some ⟨ob, 0, none⟩) on od VS wr G Rg Ou) (k : Nat) (x : Int) :
    DropW w2 b7 mb mn mf i A dn c R rn rd (some ⟨ob, 0, none⟩) on od VS (wr.setCell ⟨ob, k, none⟩ (I x)) G Rg (Ou.set k x) := by
  have hge : w2.heap.size ≤ ob := (h.outs.lt ob rfl).1
  have hnb : b7 ≠ ob := fun e => h.box.apart h.outs (by decide) (by simp [Value.ownBlock, e])
  have hmb : ob ≠ mb := fun e => h.map.ne_row h.outs (by simp [Value.ownBlock, e])
  have hr : (Value.slice R rn rd).ownBlock ≠ some ob := by
    rcases own_types h.regs h.outs (by decide) with q | q
    · rw [q]; intro hh; cases hh
    · simpa [Value.ownBlock] using q
  refine ⟨h.ext.setCell (p := ⟨ob, _, none⟩) hge _, h.box.kept (grownBy_set wr ob _ _) (by simpa using fun e => hnb e.symm), h.gates.out h.outs (fun v hv => h.ap v hv ob rfl) _ _, own_set h.regs hr _ _, ?_, h.map.set hmb _ _, h.ap⟩
  rw [List.map_set]
  exact (h.outs.stored k (I x)).1
end
/-- The map that Drop fills: where each gate goes that stays. -/
def MapTo (N : NetM) (k : Nat) (mf : Int → Int) : Prop := ∀ j : Nat, j < k → (isM N)[j]? = some true → mf j = (cnt ((isM N).take j) : Nat)
theorem MapTo.next {N : NetM} {k : Nat} {mf : Int → Int} (h : MapTo N k mf) : MapTo N (k + 1) (fun j => if j = (k : Int) then ((cnt ((isM N).take k) : Nat) : Int) else mf j) := by
  intro j hj ht
  by_cases e : j = k
  · subst e; simp
  · have : ¬ ((j : Int) = (k : Int)) := by omega
    simp only [this, if_false]
    exact h j (by omega) ht
theorem MapTo.skip {N : NetM} {k : Nat} {mf : Int → Int} (h : MapTo N k mf) (hf : (isM N)[k]? = some false) : MapTo N (k + 1) mf := by
  intro j hj ht
  by_cases e : j = k
  · subst e; rw [hf] at ht; cases ht
  · exact h j (by omega) ht
theorem MapTo.to {N : NetM} {mf : Int → Int} (h : MapTo N N.gates.length mf) {a : Int} (ha : onI (isM N) a = true) (h0 : 0 ≤ a) : mf a = valI (toM N) a := by
  have ht := on_at ha
  have hk : a.toNat < N.gates.length := by rw [← is_len]; exact (List.getElem?_eq_some_iff.1 ht).1
  rw [to_at ha, ← h a.toNat hk ht]
  congr 1; omega
def regD (N : NetM) (r : StoreM) : StoreM := ⟨r.fst, valI (toM N) r.next⟩
end Go.Proofs.Ytjagbnaacfhokaa
/- OwnNet and FoldOf, by the reference. -/
namespace Go.Proofs.Ytjagbnaacfhokaa
set_option linter.unusedVariables false
set_option linter.unusedSimpArgs false
open Go.RowKit

theorem opens_next (k : Nat) : (opensM (k + 1)).map I = (opensM k).map I ++ [I 2] := by
  unfold opensM; rw [List.replicate_succ', List.map_append]; rfl
set_option maxHeartbeats 1000000 in
theorem ropens_any (n : Nat) (w : World) (hn : n ≤ 20) :
    Calls Try.prog 111 #[I n] w fun e w' => ∃ v, e = .returned v ∧ w'.ownsRow w.heap.size 3 1 v n ((opensM n).map I) ∧ Ext w w' := by
  go_enter Try.func111, Try.ntmps111
  go_wp2
  go_loopw [3, 4] (fun s j wr => ∃ (k : Nat), k ≤ n ∧ j = .int .i64 k ∧ Ext w wr ∧ wr.ownsRow w.heap.size 3 1 s k ((opensM k).map I)) (fun _ j _ => n - (intOf j).toNat)
  case atStart => exact ⟨0, Nat.zero_le _, rfl, Ext.refl _, World.ownsRow_nil _ _ _ _⟩
  case round =>
    obtain ⟨k, hk, rfl, hext, hown⟩ := hrel
    by_cases hlt : k < n
    · have HN := Lib.hid (opens_next k); have HO := Lib.hid hown
      clear hown
      go_wp2_with (at_builtin; refine wpList_push rfl (.tmp 10) (.tmp 11) 24 3 rfl tab_int' Try.underlying24 rfl (by omega) w wr hext _ k _ rfl HO.out [I 2] rfl rfl rfl (by simp [Value.oneCell']) (by unfold maxLen; omega) (by omega) ?_; intro v' w2 hown2 hx3 _)
      go_roundw
      case rel => exact ⟨k + 1, by omega, by go_num, hx3, by rw [HN.out]; exact hown2⟩
      case measure => simp [intOf]; omega
    · obtain rfl : n = k := by omega
      have HO := Lib.hid hown; clear hown
      go_wp2
      go_ret
      exact ⟨_, rfl, HO.out, hext⟩
/-- A call has handed back a net of its own. -/
def NetRes1 (w w' : World) (base : Nat) (e : Ending) (N : NetM) : Prop :=
  ∃ i GA gn gc RA rn rc OA on oc vs, e = .returned (netV i GA gn gc RA rn rc OA on oc) ∧ NetO w' base i GA gn gc RA rn rc OA on oc N vs ∧ Ext w w'
theorem mixG_set {F G : List GateM} {k : Nat} {y : GateM} (h : F[k]? = some y) (hl : F.length = G.length) : (F.take k ++ G.drop k).set k y = F.take (k + 1) ++ G.drop (k + 1) := by
  have hk : k < F.length := (List.getElem?_eq_some_iff.1 h).1
  have hy : F[k] = y := by rw [List.getElem?_eq_getElem hk] at h; exact Option.some.inj h
  have e : k - (F.take k).length = 0 := by simp; omega
  rw [List.set_append_right _ _ (by simp; omega), e, List.drop_eq_getElem_cons (by omega), List.set_cons_zero, take_snoc h, List.append_assoc]; rfl
theorem mixG_at {F G : List GateM} {k : Nat} {y : GateM} (h : G[k]? = some y) (hl : F.length = G.length) : (F.take k ++ G.drop k)[k]? = some y := by
  have hk : k < G.length := (List.getElem?_eq_some_iff.1 h).1
  rw [List.getElem?_append_right (by simp; omega)]
  have e : k - (F.take k).length = 0 := by simp; omega
  rw [e, List.getElem?_drop, Nat.add_zero]; exact h
theorem slC_of {w : World} {A : Option Addr} {n : Nat} {cs : List Value} (h : Sl w A n cs) : SlC w A cs := fun j u hu => h.2 j u hu
section
variable (i : Int) (GA : Option Addr) (gn gc : Nat) (RA : Option Addr) (rn rc : Nat) (OA : Option Addr) (on oc : Nat) (N : NetM) (w : World)
set_option maxRecDepth 100000 in
set_option maxHeartbeats 8000000 in
theorem ownNet_any (h : NetC w i GA gn gc RA rn rc OA on oc N) (ok : NetOK N) :
    Calls Try.prog 69 #[netV i GA gn gc RA rn rc OA on oc] w fun e w' => NetRes1 w w' w.heap.size e N := by
  have hgl : N.gates.length = gn := h.gates.1
  have hrl : N.regs.length = rn := h.regs.1
  have hol : N.outs.length = on := h.outs.len
  have hin := h.ins
  obtain ⟨W0, hW0⟩ : ∃ W, W = w.alloc (.cells #[I i, .slice GA gn gc, .slice RA rn rc, .slice OA on oc] 26) := ⟨_, rfl⟩
  have hx0 : Ext w W0 := by rw [hW0]; exact (Ext.refl _).alloc _
  obtain ⟨W, hW⟩ : ∃ W, W = W0.alloc (.cells #[I 0, .slice none 0 0, .slice none 0 0, .slice none 0 0] 26) := ⟨_, rfl⟩
  have hx1 : Ext W0 W := by rw [hW]; exact (Ext.refl _).alloc _
  have hs0 : W0.heap.size = w.heap.size + 1 := by rw [hW0]; simp
  have hbox : NetBox W w.heap.size i GA gn gc RA rn rc OA on oc := by
    have : NetBox W0 w.heap.size i GA gn gc RA rn rc OA on oc := by rw [hW0]; exact NetBox.new w i GA gn gc RA rn rc OA on oc _
    exact this.keep hx1.keeps
  have hz : Box W (w.heap.size + 1) 26 [I 0, .slice none 0 0, .slice none 0 0, .slice none 0 0] := by rw [← hs0, hW]; exact Box.new W0 _ _
  have HN := Lib.hid (h.keep (hx0.trans hx1).keeps); have HBox := Lib.hid hbox; have HX := Lib.hid (hx0.trans hx1); have HZ := Lib.hid hz
  have HW : Hid (W = (w.alloc (.cells #[I i, .slice GA gn gc, .slice RA rn rc, .slice OA on oc] 26)).alloc (.cells #[I 0, .slice none 0 0, .slice none 0 0, .slice none 0 0] 26)) := by unfold Hid; rw [hW, hW0]
  have hr20 : rn ≤ 20 := by have := ok.rl; omega
  have ho3 : on ≤ 3 := by have := ok.ol; omega
  have hg200 : gn ≤ 200 := by have := ok.gl; omega
  have HOK := Lib.hid ok; have HGL := Lib.hid hgl; have HIN := Lib.hid hin
  have B0 : Hid (W.cell? ⟨w.heap.size, 0, none⟩ = some (I i)) := hbox.1
  have B1 : Hid (W.cell? ⟨w.heap.size, 1, none⟩ = some (.slice GA gn gc)) := hbox.2.1
  have B2 : Hid (W.cell? ⟨w.heap.size, 2, none⟩ = some (.slice RA rn rc)) := hbox.2.2.1
  have B3 : Hid (W.cell? ⟨w.heap.size, 3, none⟩ = some (.slice OA on oc)) := hbox.2.2.2
  have hrs : rn * 2 = (storeCs N.regs).length := by rw [storeCs_len, hrl]
  have HRS := Lib.hid hrs; have HOL := Lib.hid hol
  clear h hW0 hx0 hW hx1 hs0 hbox hz ok hgl hrl hol hin hrs
  go_enter Try.func69, Try.ntmps69
  go_upto_region 1 with fail
  rw [← HW.out]
  refine wp_flow4 12 1 [isV (.pointer (some ⟨w.heap.size, 0, none⟩)), isV (I i), fun v w => ∃ b, v = .slice (some ⟨b, 0, none⟩) 0 0 ∧ W.heap.size ≤ b ∧ Box w b 78 [], isV (.pointer (some ⟨w.heap.size, 2, none⟩)), isV (.slice RA rn rc), fun v w => ∃ A c, v = .slice A rn c ∧ w.ownsRow W.heap.size 78 2 (.slice A rn c) rn (storeCs N.regs), fun v w => ∃ b, v = .slice (some ⟨b, 0, none⟩) 0 0 ∧ W.heap.size ≤ b ∧ Box w b 3 [], isV (.pointer (some ⟨w.heap.size, 3, none⟩)), isV (.slice OA on oc), fun v w => ∃ A c, v = .slice A on c ∧ w.ownsRow W.heap.size 3 1 (.slice A on c) on (N.outs.map I), fun v w => ∃ A c B d, v = .agg #[I i, .slice none 0 0, .slice A rn c, .slice B on d] ∧ w.ownsRow W.heap.size 78 2 (.slice A rn c) rn (storeCs N.regs) ∧ w.ownsRow W.heap.size 3 1 (.slice B on d) on (N.outs.map I), fun v w => ∃ b, v = .pointer (some ⟨b, 0, none⟩) ∧ W.heap.size ≤ b ∧ Box w b 26 [I 0, .slice none 0 0, .slice none 0 0, .slice none 0 0]] (by kernel_rfl) rfl rfl (by kernel_rfl) (by kernel_rfl) ⟨isV_mono, isV_mono, fun v w w' ⟨b, e, h, k⟩ hx => ⟨b, e, h, k.ext hx⟩, isV_mono, isV_mono, fun v w w' ⟨A, c, e, h⟩ hx => ⟨A, c, e, own_ext h hx⟩, fun v w w' ⟨b, e, h, k⟩ hx => ⟨b, e, h, k.ext hx⟩, isV_mono, isV_mono, fun v w w' ⟨A, c, e, h⟩ hx => ⟨A, c, e, own_ext h hx⟩, fun v w w' ⟨A, c, B, d, e, h, k⟩ hx => ⟨A, c, B, d, e, own_ext h hx, own_ext k hx⟩, fun v w w' ⟨b, e, h, k⟩ hx => ⟨b, e, h, k.ext hx⟩, trivial⟩ ?each ?rest
  case each =>
    refine .cons ?_ (.cons ?_ (.cons ?_ (.cons ?_ (.cons ?_ (.cons ?_ (.cons ?_ (.cons ?_ (.cons ?_ (.cons ?_ (.cons ?_ (.cons ?_ (.nil))))))))))))
    · intro fa fw hx hs hb
      have s1 : fa.tmps[(1 : Nat)]? = some (.pointer (some ⟨w.heap.size, 0, none⟩)) := (hb 1 (by kernel_rfl)).trans (by rfl)
      refine .inl ⟨wanted_free rfl, fun K hK => ?_⟩
      clear hs hb hx
      go_simp
      exact hK _ _ rfl (Ext.refl _)
    · intro fa fw hx hs hb
      obtain ⟨_, s5, rfl⟩ := hs 0 5 (by kernel_rfl) (by kernel_rfl)
      have c0 := hx.keeps _ _ B0.out
      refine .inl ⟨wanted_free rfl, fun K hK => ?_⟩
      clear hs hb hx
      go_simp
      exact hK _ _ rfl (Ext.refl _)
    · intro fa fw hx hs hb
      refine .inl ⟨wanted_free rfl, fun K hK => ?_⟩
      clear hs hb
      go_simp
      exact hK _ _ ⟨fw.heap.size, rfl, hx.size, Box.new fw _ _⟩ ((Ext.refl _).alloc _)
    · intro fa fw hx hs hb
      have s1 : fa.tmps[(1 : Nat)]? = some (.pointer (some ⟨w.heap.size, 0, none⟩)) := (hb 1 (by kernel_rfl)).trans (by rfl)
      refine .inl ⟨wanted_free rfl, fun K hK => ?_⟩
      clear hs hb hx
      go_simp
      exact hK _ _ rfl (Ext.refl _)
    · intro fa fw hx hs hb
      obtain ⟨_, s8, rfl⟩ := hs 3 8 (by kernel_rfl) (by kernel_rfl)
      have c0 := hx.keeps _ _ B2.out
      refine .inl ⟨wanted_free rfl, fun K hK => ?_⟩
      clear hs hb hx
      go_simp
      exact hK _ _ rfl (Ext.refl _)
    · intro fa fw hx hs hb
      obtain ⟨_, s7, b7, rfl, h7, k7⟩ := hs 2 7 (by kernel_rfl) (by kernel_rfl)
      obtain ⟨_, s9, rfl⟩ := hs 4 9 (by kernel_rfl) (by kernel_rfl)
      refine .inl ⟨wanted_free rfl, fun K hK => ?_⟩
      clear hs hb
      refine wp_append0 fw (.tmp 7) (.tmp 9) 23 78 rfl tab_store Try.underlying23 rfl (by omega) W.heap.size b7 h7 k7 (by clear hK; go_simp) RA rn rc (storeCs N.regs) (by clear hK; go_simp) HRS.out.symm (slR_cells (HN.out.regs.keep hx.keeps)) (by unfold maxLen; omega) (by omega) ?_
      intro v' w' hown' hx'
      obtain ⟨Aq, cq, rfl, -, -, -⟩ := own_slice hown'
      exact hK _ _ ⟨Aq, cq, rfl, hown'⟩ hx'
    · intro fa fw hx hs hb
      refine .inl ⟨wanted_free rfl, fun K hK => ?_⟩
      clear hs hb
      go_simp
      exact hK _ _ ⟨fw.heap.size, rfl, hx.size, Box.new fw _ _⟩ ((Ext.refl _).alloc _)
    · intro fa fw hx hs hb
      have s1 : fa.tmps[(1 : Nat)]? = some (.pointer (some ⟨w.heap.size, 0, none⟩)) := (hb 1 (by kernel_rfl)).trans (by rfl)
      refine .inl ⟨wanted_free rfl, fun K hK => ?_⟩
      clear hs hb hx
      go_simp
      exact hK _ _ rfl (Ext.refl _)
    · intro fa fw hx hs hb
      obtain ⟨_, s12, rfl⟩ := hs 7 12 (by kernel_rfl) (by kernel_rfl)
      have c0 := hx.keeps _ _ B3.out
      refine .inl ⟨wanted_free rfl, fun K hK => ?_⟩
      clear hs hb hx
      go_simp
      exact hK _ _ rfl (Ext.refl _)
    · intro fa fw hx hs hb
      obtain ⟨_, s11, b11, rfl, h11, k11⟩ := hs 6 11 (by kernel_rfl) (by kernel_rfl)
      obtain ⟨_, s13, rfl⟩ := hs 8 13 (by kernel_rfl) (by kernel_rfl)
      refine .inl ⟨wanted_free rfl, fun K hK => ?_⟩
      clear hs hb
      refine wp_append0 fw (.tmp 11) (.tmp 13) 24 3 rfl tab_int' Try.underlying24 rfl (by omega) W.heap.size b11 h11 k11 (by clear hK; go_simp) OA on oc (N.outs.map I) (by clear hK; go_simp) (by simp [HOL.out]) (slC_of (HN.out.outs.keep hx.keeps)) (by unfold maxLen; omega) (by omega) ?_
      intro v' w' hown' hx'
      obtain ⟨Aq, cq, rfl, -, -, -⟩ := own_slice hown'
      exact hK _ _ ⟨Aq, cq, rfl, hown'⟩ hx'
    · intro fa fw hx hs hb
      obtain ⟨_, s6, rfl⟩ := hs 1 6 (by kernel_rfl) (by kernel_rfl)
      obtain ⟨_, s10, A10, c10, rfl, q10⟩ := hs 5 10 (by kernel_rfl) (by kernel_rfl)
      obtain ⟨_, s14, A14, c14, rfl, q14⟩ := hs 9 14 (by kernel_rfl) (by kernel_rfl)
      refine .inl ⟨wanted_free rfl, fun K hK => ?_⟩
      clear hs hb
      go_simp
      exact hK _ _ ⟨A10, c10, A14, c14, rfl, q10, q14⟩ (Ext.refl _)
    · intro fa fw hx hs hb
      refine .inl ⟨wanted_free rfl, fun K hK => ?_⟩
      clear hs hb
      go_simp
      exact hK _ _ ⟨fw.heap.size, rfl, hx.size, Box.new fw _ _⟩ ((Ext.refl _).alloc _)
  case rest =>
    intro w3 hxw3
    rintro _ rfl
    rintro _ rfl
    rintro _ ⟨b7, rfl, h7, k7⟩
    rintro _ rfl
    rintro _ rfl
    rintro _ ⟨A10, c10, rfl, q10⟩
    rintro _ ⟨b11, rfl, h11, k11⟩
    rintro _ rfl
    rintro _ rfl
    rintro _ ⟨A14, c14, rfl, q14⟩
    rintro _ ⟨A15, c15, B15, d15, rfl, q15, p15⟩
    rintro _ ⟨b3, rfl, h3, k3⟩
    simp only [putAll, List.take, Act.put, List.setIfInBounds_toArray, List.set_cons_zero, List.set_cons_succ]
    have K7 := Lib.hid k3; have H7 := Lib.hid h3
    have m0 := (k3.cell 0).trans rfl; have m1 := (k3.cell 1).trans rfl; have m2 := (k3.cell 2).trans rfl; have m3 := (k3.cell 3).trans rfl
    simp only [List.getElem?_cons_zero, List.getElem?_cons_succ] at m0 m1 m2 m3
    have f7 := k3.free
    refine wpAny_ready (rs := [12]) (by kernel_rfl) (by simp) (AllReady.cons rfl (fun KK hKK => ?_) AllReady.nil)
    have HRO := Lib.hid q15; have HOO := Lib.hid p15
    have X3 := Lib.hid hxw3
    clear q15 p15 hxw3 k3 h3 q10 q14 k7 h7 k11 h11
    go_simp
    refine hKK _ _ ?_
    clear hKK KK m0 m1 m2 m3 f7
    refine wpAny_done (by kernel_rfl) ?_ _
    obtain ⟨w4, hw4⟩ : ∃ w4, w4 = (((w3.setCell ⟨b3, 0, none⟩ (I i)).setCell ⟨b3, 1, none⟩ (.slice none 0 0)).setCell ⟨b3, 2, none⟩ (.slice A15 rn c15)).setCell ⟨b3, 3, none⟩ (.slice B15 on d15) := ⟨_, rfl⟩
    have hk4 : Box w4 b3 26 [I i, .slice none 0 0, .slice A15 rn c15, .slice B15 on d15] := by rw [hw4]; exact (((K7.out.set 0 (I i)).set 1 (.slice none 0 0)).set 2 (.slice A15 rn c15)).set 3 (.slice B15 on d15)
    have ar := K7.out.apart HRO.out (by decide); have ao := K7.out.apart HOO.out (by decide)
    have hr4 : w4.ownsRow W.heap.size 78 2 (.slice A15 rn c15) rn (storeCs N.regs) := by rw [hw4]; exact own_set (own_set (own_set (own_set HRO.out ar _ _) ar _ _) ar _ _) ar _ _
    have ho4 : w4.ownsRow W.heap.size 3 1 (.slice B15 on d15) on (N.outs.map I) := by rw [hw4]; exact own_set (own_set (own_set (own_set HOO.out ao _ _) ao _ _) ao _ _) ao _ _
    have hx4 : Ext W w4 := by rw [hw4]; exact (((X3.out.setCell (p := ⟨b3, 0, none⟩) H7.out _).setCell (p := ⟨b3, 1, none⟩) H7.out _).setCell (p := ⟨b3, 2, none⟩) H7.out _).setCell (p := ⟨b3, 3, none⟩) H7.out _
    have HW4 := Lib.hid hw4; have HK4 := Lib.hid hk4; have HR4 := Lib.hid hr4; have HO4 := Lib.hid ho4; have HX4 := Lib.hid hx4
    clear hw4 hk4 hr4 ho4 hx4 ar ao HRO HOO K7
    rw [← HW4.out]
    go_wp2_with fail
    clear HW4
    go_loopw [4] (fun j wr => ∃ (k : Nat) (A : Option Addr) (c : Nat) (vs : List Value), k ≤ gn ∧ j = .int .i64 k ∧ Ext W wr ∧ Box wr b3 26 [I i, .slice A k c, .slice A15 rn c15, .slice B15 on d15] ∧ OwnG wr W.heap.size (.slice A k c) (N.gates.take k) vs ∧
      wr.ownsRow W.heap.size 78 2 (.slice A15 rn c15) rn (storeCs N.regs) ∧ wr.ownsRow W.heap.size 3 1 (.slice B15 on d15) on (N.outs.map I)) (fun j _ => gn - (intOf j).toNat)
    case atStart => exact ⟨0, none, 0, [], Nat.zero_le _, rfl, HX4.out, HK4.out, OwnG.nil _ _, HR4.out, HO4.out⟩
    case round =>
      obtain ⟨k, A, c, vs, hk, rfl, hext, hbx, hog, hor, hoo⟩ := hrel
      have hB1 := hext.keeps _ _ B1.out
      by_cases hlt : k < gn
      · obtain ⟨b, off, A', m', c', g, rfl, c0, c1, c2, hsg, hmc, hcm, -, hg⟩ := (HN.out.keep hext.keeps).gates.next hlt
        have hml : m' ≤ 16 := by have := HOK.out.al g (List.mem_of_getElem? hg); have := hsg.len; omega
        have hgl : g.args.length = m' := hsg.len
        have hlen : (N.gates.take k).length = k := by rw [List.length_take, HGL.out]; omega
        have HEQ := Lib.hid hext; have HBXQ := Lib.hid hbx; have HOGQ := Lib.hid hog; have HORQ := Lib.hid hor; have HOOQ := Lib.hid hoo; have HSG := Lib.hid hsg; have HLEN := Lib.hid hlen; have HGLA := Lib.hid hgl; have HGK := Lib.hid hg; have HML := Lib.hid hml
        have M1 : Hid (wr.cell? ⟨b3, 1, none⟩ = some (.slice A k c)) := hbx.cell 1
        have C0 := Lib.hid c0; have C1 := Lib.hid c1; have C2 := Lib.hid c2; have D1 := Lib.hid hB1
        clear hbx hog hor hoo hsg hmc hcm hlen hml hg c0 c1 c2 hext hgl
        go_wp2_with fail
        clear hB1
        refine wp_flow4 24 3 [isV (.pointer (some ⟨b3, 1, none⟩)), isV (.slice A k c), isV (.pointer (some ⟨w.heap.size, 1, none⟩)), isV (.slice (some ⟨b, off, none⟩) gn gc), isV (.int .i64 k), isV (.pointer (some ⟨b, off + k * 3, none⟩)), isV (.pointer (some ⟨b, off + k * 3, none⟩)), isV (I g.kind), isV (.pointer (some ⟨w.heap.size, 1, none⟩)), isV (.slice (some ⟨b, off, none⟩) gn gc), isV (.int .i64 k), isV (.pointer (some ⟨b, off + k * 3, none⟩)), isV (.pointer (some ⟨b, off + k * 3 + 1, none⟩)), isV (I g.num), fun v w => ∃ b, v = .slice (some ⟨b, 0, none⟩) 0 0 ∧ wr.heap.size ≤ b ∧ Box w b 3 [], isV (.pointer (some ⟨w.heap.size, 1, none⟩)), isV (.slice (some ⟨b, off, none⟩) gn gc), isV (.int .i64 k), isV (.pointer (some ⟨b, off + k * 3, none⟩)), isV (.pointer (some ⟨b, off + k * 3 + 2, none⟩)), isV (.slice A' m' c'), fun v w => ∃ A c, v = .slice A m' c ∧ w.ownsRow wr.heap.size 3 1 (.slice A m' c) m' (g.args.map I), fun v w => ∃ A c, v = .agg #[I g.kind, I g.num, .slice A m' c] ∧ w.ownsRow wr.heap.size 3 1 (.slice A m' c) m' (g.args.map I), fun v w => ∃ b A c, v = .slice (some ⟨b, 0, none⟩) 1 1 ∧ Box w b 34 [I g.kind, I g.num, .slice A m' c] ∧ w.ownsRow wr.heap.size 3 1 (.slice A m' c) m' (g.args.map I)] (by kernel_rfl) rfl rfl (by kernel_rfl) (by kernel_rfl) ⟨isV_mono, isV_mono, isV_mono, isV_mono, isV_mono, isV_mono, isV_mono, isV_mono, isV_mono, isV_mono, isV_mono, isV_mono, isV_mono, isV_mono, fun v w w' ⟨b, e, h, k⟩ hx => ⟨b, e, h, k.ext hx⟩, isV_mono, isV_mono, isV_mono, isV_mono, isV_mono, isV_mono, fun v w w' ⟨A, c, e, h⟩ hx => ⟨A, c, e, own_ext h hx⟩, fun v w w' ⟨A, c, e, h⟩ hx => ⟨A, c, e, own_ext h hx⟩, fun v w w' ⟨b, A, c, e, h, k⟩ hx => ⟨b, A, c, e, h.ext hx, own_ext k hx⟩, trivial⟩ ?each ?rest
        case each =>
          refine .cons ?_ (.cons ?_ (.cons ?_ (.cons ?_ (.cons ?_ (.cons ?_ (.cons ?_ (.cons ?_ (.cons ?_ (.cons ?_ (.cons ?_ (.cons ?_ (.cons ?_ (.cons ?_ (.cons ?_ (.cons ?_ (.cons ?_ (.cons ?_ (.cons ?_ (.cons ?_ (.cons ?_ (.cons ?_ (.cons ?_ (.cons ?_ (.nil))))))))))))))))))))))))
          · intro fa fw hx hs hb
            have s3 : fa.tmps[(3 : Nat)]? = some (.pointer (some ⟨b3, 0, none⟩)) := (hb 3 (by kernel_rfl)).trans (by rfl)
            refine .inl ⟨wanted_free rfl, fun K hK => ?_⟩
            clear hs hb hx
            go_simp
            exact hK _ _ rfl (Ext.refl _)
          · intro fa fw hx hs hb
            obtain ⟨_, s23, rfl⟩ := hs 0 23 (by kernel_rfl) (by kernel_rfl)
            have c0 := hx.keeps _ _ M1.out
            refine .inl ⟨wanted_free rfl, fun K hK => ?_⟩
            clear hs hb hx
            go_simp
            exact hK _ _ rfl (Ext.refl _)
          · intro fa fw hx hs hb
            have s1 : fa.tmps[(1 : Nat)]? = some (.pointer (some ⟨w.heap.size, 0, none⟩)) := (hb 1 (by kernel_rfl)).trans (by rfl)
            refine .inl ⟨wanted_free rfl, fun K hK => ?_⟩
            clear hs hb hx
            go_simp
            exact hK _ _ rfl (Ext.refl _)
          · intro fa fw hx hs hb
            obtain ⟨_, s25, rfl⟩ := hs 2 25 (by kernel_rfl) (by kernel_rfl)
            have c0 := hx.keeps _ _ D1.out
            refine .inl ⟨wanted_free rfl, fun K hK => ?_⟩
            clear hs hb hx
            go_simp
            exact hK _ _ rfl (Ext.refl _)
          · intro fa fw hx hs hb
            have s4 : fa.tmps[(4 : Nat)]? = some (.int .i64 k) := (hb 4 (by kernel_rfl)).trans (by rfl)
            refine .inl ⟨wanted_free rfl, fun K hK => ?_⟩
            clear hs hb hx
            go_simp
            exact hK _ _ rfl (Ext.refl _)
          · intro fa fw hx hs hb
            obtain ⟨_, s26, rfl⟩ := hs 3 26 (by kernel_rfl) (by kernel_rfl)
            obtain ⟨_, s27, rfl⟩ := hs 4 27 (by kernel_rfl) (by kernel_rfl)
            refine .inl ⟨wanted_free rfl, fun K hK => ?_⟩
            clear hs hb hx
            go_simp
            exact hK _ _ rfl (Ext.refl _)
          · intro fa fw hx hs hb
            obtain ⟨_, s28, rfl⟩ := hs 5 28 (by kernel_rfl) (by kernel_rfl)
            refine .inl ⟨wanted_free rfl, fun K hK => ?_⟩
            clear hs hb hx
            go_simp
            exact hK _ _ rfl (Ext.refl _)
          · intro fa fw hx hs hb
            obtain ⟨_, s29, rfl⟩ := hs 6 29 (by kernel_rfl) (by kernel_rfl)
            have c0 := hx.keeps _ _ C0.out
            refine .inl ⟨wanted_free rfl, fun K hK => ?_⟩
            clear hs hb hx
            go_simp
            exact hK _ _ rfl (Ext.refl _)
          · intro fa fw hx hs hb
            have s1 : fa.tmps[(1 : Nat)]? = some (.pointer (some ⟨w.heap.size, 0, none⟩)) := (hb 1 (by kernel_rfl)).trans (by rfl)
            refine .inl ⟨wanted_free rfl, fun K hK => ?_⟩
            clear hs hb hx
            go_simp
            exact hK _ _ rfl (Ext.refl _)
          · intro fa fw hx hs hb
            obtain ⟨_, s31, rfl⟩ := hs 8 31 (by kernel_rfl) (by kernel_rfl)
            have c0 := hx.keeps _ _ D1.out
            refine .inl ⟨wanted_free rfl, fun K hK => ?_⟩
            clear hs hb hx
            go_simp
            exact hK _ _ rfl (Ext.refl _)
          · intro fa fw hx hs hb
            have s4 : fa.tmps[(4 : Nat)]? = some (.int .i64 k) := (hb 4 (by kernel_rfl)).trans (by rfl)
            refine .inl ⟨wanted_free rfl, fun K hK => ?_⟩
            clear hs hb hx
            go_simp
            exact hK _ _ rfl (Ext.refl _)
          · intro fa fw hx hs hb
            obtain ⟨_, s32, rfl⟩ := hs 9 32 (by kernel_rfl) (by kernel_rfl)
            obtain ⟨_, s33, rfl⟩ := hs 10 33 (by kernel_rfl) (by kernel_rfl)
            refine .inl ⟨wanted_free rfl, fun K hK => ?_⟩
            clear hs hb hx
            go_simp
            exact hK _ _ rfl (Ext.refl _)
          · intro fa fw hx hs hb
            obtain ⟨_, s34, rfl⟩ := hs 11 34 (by kernel_rfl) (by kernel_rfl)
            refine .inl ⟨wanted_free rfl, fun K hK => ?_⟩
            clear hs hb hx
            go_simp
            exact hK _ _ rfl (Ext.refl _)
          · intro fa fw hx hs hb
            obtain ⟨_, s35, rfl⟩ := hs 12 35 (by kernel_rfl) (by kernel_rfl)
            have c0 := hx.keeps _ _ C1.out
            refine .inl ⟨wanted_free rfl, fun K hK => ?_⟩
            clear hs hb hx
            go_simp
            exact hK _ _ rfl (Ext.refl _)
          · intro fa fw hx hs hb
            refine .inl ⟨wanted_free rfl, fun K hK => ?_⟩
            clear hs hb
            go_simp
            exact hK _ _ ⟨fw.heap.size, rfl, hx.size, Box.new fw _ _⟩ ((Ext.refl _).alloc _)
          · intro fa fw hx hs hb
            have s1 : fa.tmps[(1 : Nat)]? = some (.pointer (some ⟨w.heap.size, 0, none⟩)) := (hb 1 (by kernel_rfl)).trans (by rfl)
            refine .inl ⟨wanted_free rfl, fun K hK => ?_⟩
            clear hs hb hx
            go_simp
            exact hK _ _ rfl (Ext.refl _)
          · intro fa fw hx hs hb
            obtain ⟨_, s38, rfl⟩ := hs 15 38 (by kernel_rfl) (by kernel_rfl)
            have c0 := hx.keeps _ _ D1.out
            refine .inl ⟨wanted_free rfl, fun K hK => ?_⟩
            clear hs hb hx
            go_simp
            exact hK _ _ rfl (Ext.refl _)
          · intro fa fw hx hs hb
            have s4 : fa.tmps[(4 : Nat)]? = some (.int .i64 k) := (hb 4 (by kernel_rfl)).trans (by rfl)
            refine .inl ⟨wanted_free rfl, fun K hK => ?_⟩
            clear hs hb hx
            go_simp
            exact hK _ _ rfl (Ext.refl _)
          · intro fa fw hx hs hb
            obtain ⟨_, s39, rfl⟩ := hs 16 39 (by kernel_rfl) (by kernel_rfl)
            obtain ⟨_, s40, rfl⟩ := hs 17 40 (by kernel_rfl) (by kernel_rfl)
            refine .inl ⟨wanted_free rfl, fun K hK => ?_⟩
            clear hs hb hx
            go_simp
            exact hK _ _ rfl (Ext.refl _)
          · intro fa fw hx hs hb
            obtain ⟨_, s41, rfl⟩ := hs 18 41 (by kernel_rfl) (by kernel_rfl)
            refine .inl ⟨wanted_free rfl, fun K hK => ?_⟩
            clear hs hb hx
            go_simp
            exact hK _ _ rfl (Ext.refl _)
          · intro fa fw hx hs hb
            obtain ⟨_, s42, rfl⟩ := hs 19 42 (by kernel_rfl) (by kernel_rfl)
            have c0 := hx.keeps _ _ C2.out
            refine .inl ⟨wanted_free rfl, fun K hK => ?_⟩
            clear hs hb hx
            go_simp
            exact hK _ _ rfl (Ext.refl _)
          · intro fa fw hx hs hb
            obtain ⟨_, s37, b37, rfl, h37, k37⟩ := hs 14 37 (by kernel_rfl) (by kernel_rfl)
            obtain ⟨_, s43, rfl⟩ := hs 20 43 (by kernel_rfl) (by kernel_rfl)
            refine .inl ⟨wanted_free rfl, fun K hK => ?_⟩
            clear hs hb
            have hml := HML.out
            refine wp_append0 fw (.tmp 37) (.tmp 43) 24 3 rfl tab_int' Try.underlying24 rfl (by omega) wr.heap.size b37 h37 k37 (by clear hK; go_simp) A' m' c' (g.args.map I) (by clear hK; go_simp) (by simp [HGLA.out]) (slC_of (HSG.out.keep hx.keeps)) (by unfold maxLen; omega) (by omega) ?_
            intro v' w' hown' hx'
            obtain ⟨Aq, cq, rfl, -, -, -⟩ := own_slice hown'
            exact hK _ _ ⟨Aq, cq, rfl, hown'⟩ hx'
          · intro fa fw hx hs hb
            obtain ⟨_, s30, rfl⟩ := hs 7 30 (by kernel_rfl) (by kernel_rfl)
            obtain ⟨_, s36, rfl⟩ := hs 13 36 (by kernel_rfl) (by kernel_rfl)
            obtain ⟨_, s44, A44, c44, rfl, q44⟩ := hs 21 44 (by kernel_rfl) (by kernel_rfl)
            refine .inl ⟨wanted_free rfl, fun K hK => ?_⟩
            clear hs hb
            go_simp
            exact hK _ _ ⟨A44, c44, rfl, q44⟩ (Ext.refl _)
          · intro fa fw hx hs hb
            obtain ⟨_, s45, A45, c45, rfl, q45⟩ := hs 22 45 (by kernel_rfl) (by kernel_rfl)
            refine .inl ⟨wanted_free rfl, fun K hK => ?_⟩
            clear hs hb
            go_simp
            exact hK _ _ ⟨fw.heap.size, A45, c45, rfl, Box.new fw _ _, own_ext q45 ((Ext.refl fw).alloc _)⟩ ((Ext.refl _).alloc _)
        case rest =>
          intro w5 hxw5
          rintro _ rfl
          rintro _ rfl
          rintro _ rfl
          rintro _ rfl
          rintro _ rfl
          rintro _ rfl
          rintro _ rfl
          rintro _ rfl
          rintro _ rfl
          rintro _ rfl
          rintro _ rfl
          rintro _ rfl
          rintro _ rfl
          rintro _ rfl
          rintro _ ⟨b37, rfl, h37, k37⟩
          rintro _ rfl
          rintro _ rfl
          rintro _ rfl
          rintro _ rfl
          rintro _ rfl
          rintro _ rfl
          rintro _ ⟨A44, c44, rfl, q44⟩
          rintro _ ⟨A45, c45, rfl, q45⟩
          rintro _ ⟨b46, A46, c46, rfl, k46, q46⟩
          simp only [putAll, List.take, Act.put, List.setIfInBounds_toArray, List.set_cons_zero, List.set_cons_succ]
          obtain ⟨inf, hti, htz, hts1, hts2⟩ := info_parts tab_gate
          have hog5 := HOGQ.out.ext hxw5
          have hbx5 := HBXQ.out.ext hxw5
          refine wpAny_ready (rs := [24]) (by kernel_rfl) (by simp) (AllReady.cons rfl (fun KK hKK => ?_) AllReady.nil)
          refine step_append_lies _ rfl (.tmp 24) (.tmp 46) 22 rfl W.heap.size 34 inf _ 3 40 Try.underlying22 hti htz hts1 hts2 rfl (by omega) (.slice A k c) k _ rfl (by have := hog5.row; rw [HLEN.out] at this; exact this) ⟨b46, 0, none⟩ 1 1 [I g.kind, I g.num, .slice A46 m' c46] rfl rfl (fun j u hu => by rw [add_zero, k46.cell]; exact hu) (by simp [Value.oneCell']) (by omega) (by unfold maxLen; omega) (by omega) (HEQ.out.trans hxw5).size _ rfl ?_
          intro g6 cap6 w6 hown6 hgr6 _ _
          refine hKK _ _ ?_
          clear hKK KK
          have hog6 := HOGQ.out.push hxw5 HEQ.out.size (g := g) (v := .slice A46 m' c46) (by rw [HGLA.out]; exact q46) (by rw [HLEN.out]; exact hown6) hgr6
          have hrow : (Value.slice A k c).ownBlock ≠ some b3 := hbx5.apart hog5.row (by decide)
          have hbx6 := hbx5.kept hgr6 hrow
          have hor6 := (own_ext HORQ.out hxw5).kept hgr6 (own_types (own_ext HORQ.out hxw5) hog5.row (by decide))
          have hoo6 := (own_ext HOOQ.out hxw5).kept hgr6 (own_types (own_ext HOOQ.out hxw5) hog5.row (by decide))
          have hx6 : Ext W w6 := Below.grown (HEQ.out.trans hxw5) hgr6 (HEQ.out.trans hxw5).size (fun b hb => (hog5.row.lt b hb).1)
          have m1 := (hbx6.cell 1).trans rfl
          simp only [List.getElem?_cons_zero, List.getElem?_cons_succ] at m1
          have f6 := hbx6.free
          have HB6 := Lib.hid hbx6; have HG6 := Lib.hid hog6; have HR6 := Lib.hid hor6; have HO6 := Lib.hid hoo6; have HX6 := Lib.hid hx6
          clear hbx6 hog6 hor6 hoo6 hx6 hbx5 hog5 hrow hown6 hgr6 k46 q46 q44 q45 h37 k37
          refine wpAny_ready (rs := [25]) (by kernel_rfl) (by simp) (AllReady.cons rfl (fun KK hKK => ?_) AllReady.nil)
          go_simp
          refine hKK _ _ ?_
          clear hKK KK
          refine wpAny_ready (rs := [26]) (by kernel_rfl) (by simp) (AllReady.cons rfl (fun KK hKK => ?_) AllReady.nil)
          go_simp
          refine hKK _ _ ?_
          clear hKK KK m1 f6
          refine wpAny_done (by kernel_rfl) ?_ _
          have HB7 := Lib.hid (HB6.out.set 1 (.slice (some ⟨g6, 0, none⟩) (k + 1) cap6)); have HG7 := Lib.hid (HG6.out.box HB6.out 1 (.slice (some ⟨g6, 0, none⟩) (k + 1) cap6))
          have HR7 := Lib.hid (own_set HR6.out (HB6.out.apart HR6.out (by decide)) 1 (.slice (some ⟨g6, 0, none⟩) (k + 1) cap6)); have HO7 := Lib.hid (own_set HO6.out (HB6.out.apart HO6.out (by decide)) 1 (.slice (some ⟨g6, 0, none⟩) (k + 1) cap6))
          have HX7 := Lib.hid (HX6.out.setCell (p := ⟨b3, 1, none⟩) H7.out (.slice (some ⟨g6, 0, none⟩) (k + 1) cap6))
          clear HB6 HG6 HR6 HO6 HX6
          go_wp2
          go_roundw
          case rel => exact ⟨k + 1, _, _, _, by omega, by go_num, HX7.out, HB7.out, by rw [take_snoc HGK.out]; exact HG7.out, HR7.out, HO7.out⟩
          case measure => simp [intOf]; omega
      · obtain rfl : gn = k := by omega
        have ht : N.gates.take gn = N.gates := List.take_of_length_le (by rw [HGL.out]; exact Nat.le_refl _)
        rw [ht] at hog
        have hz := HZ.out.ext hext
        have m0 := (hbx.cell 0).trans rfl; have m1 := (hbx.cell 1).trans rfl; have m2 := (hbx.cell 2).trans rfl; have m3 := (hbx.cell 3).trans rfl
        have n0 := (hz.cell 0).trans rfl; have n1 := (hz.cell 1).trans rfl; have n2 := (hz.cell 2).trans rfl; have n3 := (hz.cell 3).trans rfl
        simp only [List.getElem?_cons_zero, List.getElem?_cons_succ] at m0 m1 m2 m3 n0 n1 n2 n3
        have fz := hz.free
        have hzlt : (w.heap.size + 1) < W.heap.size := HZ.out.lt
        have hne : b3 ≠ w.heap.size + 1 := by have := H7.out; omega
        obtain ⟨w9, hw9⟩ : ∃ w9, w9 = (((wr.setCell ⟨w.heap.size + 1, 0, none⟩ (I i)).setCell ⟨w.heap.size + 1, 1, none⟩ (.slice A gn c)).setCell ⟨w.heap.size + 1, 2, none⟩ (.slice A15 rn c15)).setCell ⟨w.heap.size + 1, 3, none⟩ (.slice B15 on d15) := ⟨_, rfl⟩
        have hk9 : Box w9 (w.heap.size + 1) 26 [I i, .slice A gn c, .slice A15 rn c15, .slice B15 on d15] := by rw [hw9]; exact (((hz.set 0 (I i)).set 1 (.slice A gn c)).set 2 (.slice A15 rn c15)).set 3 (.slice B15 on d15)
        have ar := hz.apart hor (by decide); have ao := hz.apart hoo (by decide)
        have hr9 : w9.ownsRow W.heap.size 78 2 (.slice A15 rn c15) rn (storeCs N.regs) := by rw [hw9]; exact own_set (own_set (own_set (own_set hor ar _ _) ar _ _) ar _ _) ar _ _
        have ho9 : w9.ownsRow W.heap.size 3 1 (.slice B15 on d15) on (N.outs.map I) := by rw [hw9]; exact own_set (own_set (own_set (own_set hoo ao _ _) ao _ _) ao _ _) ao _ _
        have hg9 : OwnG w9 W.heap.size (.slice A gn c) N.gates vs := by
          rw [hw9]
          exact (((hog.box hz 0 (I i)).box (hz.set 0 (I i)) 1 (.slice A gn c)).box ((hz.set 0 (I i)).set 1 (.slice A gn c)) 2 (.slice A15 rn c15)).box (((hz.set 0 (I i)).set 1 (.slice A gn c)).set 2 (.slice A15 rn c15)) 3 (.slice B15 on d15)
        have hx9 : Ext w w9 := by
          have h0 : Ext w wr := HX.out.trans hext
          rw [hw9]; exact (((h0.setCell (p := ⟨w.heap.size + 1, 0, none⟩) (Nat.le_succ _) _).setCell (p := ⟨w.heap.size + 1, 1, none⟩) (Nat.le_succ _) _).setCell (p := ⟨w.heap.size + 1, 2, none⟩) (Nat.le_succ _) _).setCell (p := ⟨w.heap.size + 1, 3, none⟩) (Nat.le_succ _) _
        have hno : NetO w9 W.heap.size i A gn c A15 rn c15 B15 on d15 N vs := ⟨HIN.out, HGL.out, hg9, hr9, ho9⟩
        have HNO := Lib.hid hno; have HX9 := Lib.hid hx9; have HK9 := Lib.hid hk9; have HW9 := Lib.hid hw9
        clear hog hbx hor hoo hz ht hw9 hk9 ar ao hr9 ho9 hg9 hx9 hno hext hzlt
        go_wp2
        rw [← HW9.out]
        refine bodyPost_ret (v := netV i A gn c A15 rn c15 B15 on d15) ?_ rfl ⟨i, A, gn, c, A15, rn, c15, B15, on, d15, vs, rfl, HNO.out.base_le HX.out.size, HX9.out⟩
        have q0 := (HK9.out.cell 0).trans rfl; have q1 := (HK9.out.cell 1).trans rfl; have q2 := (HK9.out.cell 2).trans rfl; have q3 := (HK9.out.cell 3).trans rfl
        simp only [List.getElem?_cons_zero, List.getElem?_cons_succ] at q0 q1 q2 q3
        clear HNO HX9 HK9 HW9 m0 m1 m2 m3 n0 n1 n2 n3 fz
        simp [results, Try.results69, go_sem, q0, q1, q2, q3]
end
end Go.Proofs.Ytjagbnaacfhokaa
