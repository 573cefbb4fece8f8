/- Words of a desk: listed, inputs, rest, by the program. -/
import Derived.Test.YtgohhcnmkomafaaDoorDt01
import Derived.Test.YtgohhcnmkomafaaDoorDt02
import Derived.Test.YtgohhcnmkomafaaDoorDt03
import Derived.Test.YtgohhcnmkomafaaDoorDt04
import Derived.Recover
namespace Go.Proofs.YtgohhcnmkomafaaDoor
set_option linter.unusedVariables false
set_option linter.unusedSimpArgs false
set_option linter.unusedVariables false
set_option linter.unusedSimpArgs false
set_option maxRecDepth 100000
open Go.RowKit
theorem tab_str : (Tryd.prog.info? 9).map (fun i => (i.zero, i.size, i.bytes)) = some (some (.string ⟨#[]⟩), 1, 16) := by kernel_rfl
def bytesOf (l : List UInt8) : ByteArray := ⟨l.toArray⟩
theorem bytes_list (ws : List (List UInt8)) : (ws.map bytesOf).map (fun x => x.data.toList) = ws := by
  rw [List.map_map]; conv => rhs; rw [← List.map_id ws]
  exact List.map_congr_left fun a _ => by simp [bytesOf]
theorem itoa_any (k : Nat) (hk : k < 100) (w : World) : Calls Tryd.prog 48 #[.int .i64 k] w fun e w' => e = .returned (S (digD k)) ∧ w = w' :=
  (Tryd.strconv_Itoa_small k hk w).mono fun e w' ⟨h1, h2⟩ => ⟨by rw [h1, dec_dig hk], h2.symm⟩
theorem index_any (s sub : List UInt8) (m : Int) (w : World) (hs : s.length < 4294967281) (hm : w.cell? ⟨0, 0, none⟩ = some (.int .i64 m)) : Calls Tryd.prog 39 #[S s, S sub] w fun e w' => e = .returned (I (Lib.index s sub)) ∧ w = w' :=
  (Tryd.strings_Index ⟨s.toArray⟩ ⟨sub.toArray⟩ m w hs hm).mono fun e w' ⟨h1, h2⟩ => ⟨by rw [h1], h2.symm⟩
theorem count_nl (s : List UInt8) (w : World) : Calls Tryd.prog 17 #[S s, S [10]] w fun e w' => e = .returned (I (s.count 10 : Nat)) ∧ w = w' :=
  (Tryd.strings_Count_one ⟨s.toArray⟩ 10 w).mono fun e w' ⟨h1, h2⟩ => ⟨by rw [h1]; rfl, h2.symm⟩
theorem suffix_any (s p : List UInt8) (w : World) (hs : s.length ≤ 9223372036854775807) : Calls Tryd.prog 18 #[S s, S p] w fun e w' => e = .returned (.bool (p.isSuffixOf s)) ∧ w = w' :=
  (Tryd.strings_HasSuffix ⟨s.toArray⟩ ⟨p.toArray⟩ w hs).mono fun e w' ⟨h1, h2⟩ => ⟨by rw [h1]; rfl, h2.symm⟩
theorem trim_any (s p : List UInt8) (w : World) (hs : s.length ≤ 9223372036854775807) : Calls Tryd.prog 22 #[S s, S p] w fun e w' => e = .returned (S (Lib.trimSuffix s p)) ∧ w = w' :=
  (Tryd.strings_TrimSuffix ⟨s.toArray⟩ ⟨p.toArray⟩ w hs).mono fun e w' ⟨h1, h2⟩ => ⟨by rw [h1], h2.symm⟩
theorem indexByte_nl (s : List UInt8) (w : World) : Calls Tryd.prog 42 #[S s, .int .u8 10] w fun e w' => e = .returned (I (Lib.indexByte s 10)) ∧ w = w' :=
  (Tryd.strings_IndexByte ⟨s.toArray⟩ 10 w).mono fun e w' ⟨h1, h2⟩ => ⟨by rw [h1]; rfl, h2.symm⟩
theorem split_sp (s : List UInt8) (m : Int) (w : World) (hs : s.length < 4294967281) (hm : w.cell? ⟨0, 0, none⟩ = some (.int .i64 m)) :
    Calls Tryd.prog 44 #[S s, S [32]] w fun e w' => ∃ n, e = .returned (.slice (some ⟨w.heap.size, 0, none⟩) n n) ∧ Sl w' (some ⟨w.heap.size, 0, none⟩) n ((Lib.split s [32]).map S) ∧ 1 ≤ n ∧ n ≤ s.length + 1 ∧ Ext w w' := by
  refine (Tryd.strings_Split ⟨s.toArray⟩ ⟨#[32]⟩ m w hs hm (by decide)).mono ?_
  rintro e w' ⟨rfl, rfl⟩
  have hsz : (⟨#[32]⟩ : ByteArray).size = 1 := rfl
  have hlen := Lib.splitB_all ⟨#[32]⟩ (by rw [hsz]; omega) 0 _ ⟨s.toArray⟩ rfl
  have hle := Lib.countB_le ⟨#[32]⟩ (by rw [hsz]; omega) s.length ⟨s.toArray⟩ (Nat.le_refl _)
  have hd := Lib.splitB_data ⟨#[32]⟩ 0 (Lib.countB ⟨s.toArray⟩ ⟨#[32]⟩) ⟨s.toArray⟩
  have hsp : (Lib.splitB ⟨#[32]⟩ 0 (Lib.countB ⟨s.toArray⟩ ⟨#[32]⟩) ⟨s.toArray⟩).map (fun x => x.data.toList) = Lib.split s [32] := hd
  have hcs : (Lib.splitB ⟨#[32]⟩ 0 (Lib.countB ⟨s.toArray⟩ ⟨#[32]⟩) ⟨s.toArray⟩).map Value.string = (Lib.split s [32]).map S := by
    rw [← hsp, List.map_map]
    exact List.map_congr_left fun a _ => by simp [S]
  refine ⟨_, rfl, ?_, Nat.le_add_left _ _, Nat.succ_le_succ hle, (Ext.refl _).alloc _⟩
  rw [hcs]
  have := Sl.new w ((Lib.split s [32]).map S) 9
  have hl2 : ((Lib.split s [32]).map S).length = Lib.countB ⟨s.toArray⟩ ⟨#[32]⟩ + 1 := by rw [← hcs, List.length_map, hlen]
  rw [hl2] at this
  exact this
theorem listed_any (A : Option Addr) (n c : Nat) (ws : List (List UInt8)) (w : World) (h : Sl w A n (ws.map S)) (hn : n ≤ 100) (hc : n ≤ c) (hb : ∀ x ∈ ws, x.length ≤ 4) :
    Calls Tryd.prog 65 #[.slice A n c] w fun e w' => e = .returned (S (listedT ws)) ∧ Ext w w' := by
  have hl : ws.length = n := h.len
  by_cases h0 : n = 0
  · subst h0
    have : ws = [] := List.length_eq_zero_iff.1 hl
    subst this
    clear h hl
    go_enter Tryd.func65, Tryd.ntmps65
    go_wp2
    go_ret
    exact ⟨rfl, Ext.refl _⟩
  · obtain ⟨bk, o, x, rfl, -, -⟩ := h.at_ (k := 0) (by omega)
    have hcells : ∀ (j : Nat) x, (ws.map bytesOf)[j]? = some x → w.cell? ⟨bk, o + j, none⟩ = some (.string x) := fun j x hx => by
      rw [List.getElem?_map] at hx
      cases hy : ws[j]? with
      | none => rw [hy] at hx; cases hx
      | some y =>
        rw [hy] at hx
        obtain ⟨b', o', e, hcl⟩ := h.2 j (S y) (by rw [List.getElem?_map, hy]; rfl)
        injection e with e; injection e with e1 e2; subst e1; subst e2
        rw [hcl, ← Option.some.inj hx]; rfl
    have hbk : bk < w.heap.size := lt_of_cell (hcells 0 _ (by rw [List.getElem?_map, List.getElem?_eq_getElem (by omega)]; rfl))
    have hj := Tryd.strings_Join bk o c (ws.map bytesOf) ⟨#[32]⟩ w hcells hbk (by rw [List.length_map]; omega) (by rw [List.length_map]; omega) (by
      rw [bytes_list]
      have := intercalate_le 32 4 ws hb
      show ([32].intercalate ws).length ≤ _
      omega)
    rw [bytes_list, List.length_map, hl] at hj
    have HJ := Lib.hid hj
    have hz : (n == 0) = false := by simpa using h0
    have hw : listedT ws = [32].intercalate ws := by unfold listedT; rw [if_neg (fun e => h0 (by rw [← hl, e]; rfl))]
    have HW := Lib.hid hw
    clear h hl hcells hbk hj h0 hw
    go_enter Tryd.func65, Tryd.ntmps65
    go_wp2_with fail
    refine HJ.out.mono ?_; rintro e w' ⟨rfl, hx⟩
    go_wp2
    go_ret
    exact ⟨by rw [HW.out]; rfl, hx⟩
set_option maxHeartbeats 4000000 in
theorem drest_any (D : Nat) (WA : Option Addr) (n wc : Nat) (waits : List Bool) (w : World) (hcell : w.cell? ⟨D, 2, none⟩ = some (.slice WA n wc)) (h : Sl w WA n (waits.map Bv)) (hn : n ≤ 14) :
    Calls Tryd.prog 47 #[.pointer (some ⟨D, 0, none⟩)] w fun e w' => e = .returned (S (listedT (waitW waits 0))) ∧ Ext w w' := by
  have hl : waits.length = n := h.len
  have H := Lib.hid h; have HL := Lib.hid hl
  clear h hl
  go_enter Tryd.func47, Tryd.ntmps47
  go_wp2_with fail
  go_loopw [3, 12] (fun v i wr => ∃ (k : Nat) (ws : List (List UInt8)), k ≤ n ∧ i = .int .i64 k ∧ Ext w wr ∧ ws.length ≤ k ∧ (∀ x ∈ ws, x.length ≤ 4) ∧ wr.ownsRow w.heap.size 9 1 v ws.length (ws.map S) ∧ ws ++ waitW (waits.drop k) k = waitW waits 0) (fun _ i _ => n - (intOf i).toNat)
  case atStart => exact ⟨0, [], Nat.zero_le _, rfl, Ext.refl _, Nat.zero_le _, by simp, World.ownsRow_nil _ _ _ _, rfl⟩
  case round =>
    obtain ⟨k, ws, hk, rfl, hext, hwl, hwb, hown, hM⟩ := hrel
    by_cases hlt : k < n
    · obtain ⟨b, off, x, rfl, hc0, hx⟩ := H.out.at_ hlt
      have hc := hext.keeps _ _ hc0
      obtain ⟨hkl, hxe⟩ := List.getElem?_eq_some_iff.1 hx
      have hd : waits.drop k = x :: waits.drop (k + 1) := by rw [List.drop_eq_getElem_cons hkl, hxe]
      rw [hd, waitW] at hM
      have HM := Lib.hid hM; have HO := Lib.hid hown; have HWB := Lib.hid hwb; have HE := Lib.hid hext
      clear hM hown hd hx hc0 hwb hkl hxe hext
      cases x
      · go_wp2_with fail
        go_roundw
        case rel => exact ⟨k + 1, ws, by omega, by go_num, HE.out, by omega, HWB.out, HO.out, by simpa using HM.out⟩
        case measure => simp [intOf]; omega
      · go_wp2_with fail
        refine (itoa_any k (by omega) wr).mono ?_; rintro e w1 ⟨rfl, rfl⟩
        go_wp2_with (at_builtin; refine wpList_push rfl (.tmp 18) (.tmp 21) 90 9 rfl tab_str Tryd.underlying90 rfl (by omega) w wr HE.out _ ws.length _ rfl HO.out [S (digD k)] rfl rfl rfl (by simp [Value.oneCell']) (by unfold maxLen; omega) (by omega) ?_; intro v' w2 hown2 hx3 _)
        go_roundw
        case rel => exact ⟨k + 1, ws ++ [digD k], by omega, by go_num, hx3, by simp; omega, fun x hx => by
          rcases List.mem_append.1 hx with h | h
          · exact HWB.out x h
          · simp at h; subst h; unfold digD; split <;> simp, by simpa using hown2, by simpa using HM.out⟩
        case measure => simp [intOf]; omega
    · have hkn : k = n := by omega
      subst hkn
      have hws : ws = waitW waits 0 := by
        rw [List.drop_eq_nil_of_le (by have := HL.out; omega)] at hM
        simpa [waitW] using hM
      obtain ⟨A, c, rfl, h1, h2, hs⟩ := own_sl hown
      have hlist := listed_any A ws.length c ws wr hs (by omega) h1 hwb
      rw [hws] at hlist ⊢
      have HLI := Lib.hid hlist; have HE := Lib.hid hext
      clear hM hown hlist hs h1 h2 hwb hwl hws hext
      go_wp2_with fail
      refine HLI.out.mono ?_; rintro e w1 ⟨rfl, hx⟩
      go_wp2
      go_ret
      exact ⟨rfl, HE.out.trans hx⟩
end Go.Proofs.YtgohhcnmkomafaaDoor
/- net.Check's deferred closure walked. -/
namespace Go.Proofs.YtgohhcnmkomafaaDoor
set_option linter.unusedVariables false
set_option linter.unusedSimpArgs false
open Go.RowKit
end Go.Proofs.YtgohhcnmkomafaaDoor
/- net.form, slices.Clone at []int. -/
namespace Go.Proofs.YtgohhcnmkomafaaDoor
set_option linter.unusedVariables false
set_option linter.unusedSimpArgs false
open Go.RowKit
theorem tab_int' : (Tryd.prog.info? 3).map (fun i => (i.zero, i.size, i.bytes)) = some (some (.int .i64 0), 1, 8) := by kernel_rfl
end Go.Proofs.YtgohhcnmkomafaaDoor
/- (This seat has no reference.) -/
namespace Go.Proofs.YtgohhcnmkomafaaDoor
set_option linter.unusedVariables false
set_option linter.unusedSimpArgs false
end Go.Proofs.YtgohhcnmkomafaaDoor
