/-
  The way up from a task: (*Tree).Chain.
-/
import Derived.Test.YtoonkidlbnndcaaChain0
namespace Go.Proofs.Ytoonkidlbnndcaa
set_option linter.unusedVariables false
set_option linter.unusedSimpArgs false
open Go.RowKit Go.Shelf

attribute [local go_sem] Oper.semAt_some

section
variable {κ κ' : Kap} {L : Lay} {T : TreeA} {w w' : World}

set_option maxRecDepth 100000 in
set_option maxHeartbeats 4000000 in
theorem chain_ok (R : Rep κ L T w) (U : UpOk T) {n : Int} {i : Nat} {x : TaskA} (h : T.run? n = some i) (hx : T.tasks[i]? = some x) (hopn : ∀ (i : Nat) (x : TaskA), T.tasks[i]? = some x → x.opn.length ≤ 1000 ∧ ∀ n ∈ x.opn, n ≤ T.scopes.length)
    (hlen : (chainN T (i + 1) i x.opn.length).length ≤ 100000) :
    Calls Try.prog 45 #[.pointer (some ⟨L.t, 0, none⟩), .int .i64 n] w fun e w' => ∃ v, e = .returned (.tuple #[v, .int .i64 0]) ∧
      w'.ownsRow 0 37 2 v (chainN T (i + 1) i x.opn.length).length ((chainN T (i + 1) i x.opn.length).flatMap LinkA.cells) ∧ Fresh w v ∧ Below w.heap.size w w' := by
  have C := Lib.hid (runs_some R h)
  have d2 := (R.tcells hx).2.2.1
  obtain ⟨ad, cap, hv, _, _⟩ := owns_len (R.opn i x hx)
  rw [hv] at d2
  have lx := (R.task i x hx).lt
  have HR := Lib.hid R
  have Hx := Lib.hid hx
  have Hh := Lib.hid h
  have HU := Lib.hid U
  have HL := Lib.hid hlen
  have HOP := Lib.hid hopn
  clear R h hx hlen hopn hv U
  refine (callsIn_wide (n := 4)).1 ?_
  refine callsIn_of_wp_marks Try.func45 rfl trivial (wpIn_wide.2 ?_) rfl
  simp only [Try.ntmps45, List.size_toArray, List.length_cons, List.length_nil, Nat.reduceAdd, Nat.reduceSub, Array.replicate_succ, Array.replicate_zero, List.push_toArray, List.append_toArray, List.nil_append, List.cons_append]
  go_wp2_with (go_at_call 74; refine C.out.mono ?_; rintro e w' ⟨rfl, rfl⟩)
  -- LOOP
  refine wp_loop_ghost_k (fun g a' wr => ∃ (u26 u27 u28 u29 u30 u31 u32 u40 u41 u42 u43 u44 u45 u46 u47 u48 u49 u50 u51 u52 u53 u54 u55 u56 u57 u58 u59 u60 u61 u62 u63 u64 u65 u66 u67 u68 u69 u70 u71 u72 u73 u74 u75 u76 u77 u78 u79 u80 u81 u82 u83 : Value) (ds : List Nat) (k : Nat), a' = { tmps := #[.pointer (some ⟨L.t, 0, none⟩), .int .i64 n, undef, undef, .slice none 0 0, .int .i64 0, .pointer (some ⟨L.tb g, 0, none⟩), .int .i64 0, .pointer (some ⟨w.heap.size, 0, none⟩), .int .i64 (k : Int), undef, undef, .tuple #[.pointer (some ⟨L.tb i, 0, none⟩), .int .i64 0], .pointer (some ⟨L.t, 0, none⟩), .int .i64 n, .tuple #[.pointer (some ⟨L.tb i, 0, none⟩), .int .i64 0], .pointer (some ⟨L.tb i, 0, none⟩), .int .i64 0, .int .i64 0, .bool false, undef, .pointer (some ⟨L.tb i, 0, none⟩), .pointer (some ⟨L.tb i, 0, none⟩), .pointer (some ⟨L.tb i, 2, none⟩), .slice ad x.opn.length cap, .int .i64 (x.opn.length : Int), u26, u27, u28, u29, u30, u31, u32, undef, undef, undef, undef, undef, undef, undef, u40, u41, u42, u43, u44, u45, u46, u47, u48, u49, u50, u51, u52, u53, u54, u55, u56, u57, u58, u59, u60, u61, u62, u63, u64, u65, u66, u67, u68, u69, u70, u71, u72, u73, u74, u75, u76, u77, u78, u79, u80, u81, u82, u83], defers := ds.map mark } ∧
      Hid (∃ (f : Nat) (acc : List LinkA) (y : TaskA), T.tasks[g]? = some y ∧ y.ended = false ∧ k ≤ y.opn.length ∧ g < f ∧ acc ++ chainN T f g k = chainN T (i + 1) i x.opn.length ∧ Acc w.heap.size wr acc) ∧
      Below w.heap.size w wr ∧ w.heap.size < wr.heap.size ∧ Hid (Marks w.heap.size ds wr)) i ?_ ?_
  · refine ⟨_, _, _, _, _, _, _, _, _, _, _, _, _, _, _, _, _, _, _, _, _, _, _, _, _, _, _, _, _, _, _, _, _, _, _, _, _, _, _, _, _, _, _, _, _, _, _, _, _, _, _, [], x.opn.length, rfl, ?_, ?_, ?_, ?_⟩
    · obtain ⟨_, z, hz, hze⟩ := TreeA.run?_some Hh.out
      obtain rfl : x = z := Option.some.inj (Hx.out.symm.trans hz)
      exact ⟨i + 1, [], x, Hx.out, hze, Nat.le_refl _, Nat.lt_succ_self _, rfl, ⟨.slice none 0 0, Blk.new _ _ _, World.ownsRow_nil _ _ _ _, fun b hb => by cases hb⟩⟩
    · go_grown
    · simp
    · exact ⟨.nil, (fun D hD => by cases hD), fun D hD => by cases hD⟩
  rintro g a' wr ⟨u26, u27, u28, u29, u30, u31, u32, u40, u41, u42, u43, u44, u45, u46, u47, u48, u49, u50, u51, u52, u53, u54, u55, u56, u57, u58, u59, u60, u61, u62, u63, u64, u65, u66, u67, u68, u69, u70, u71, u72, u73, u74, u75, u76, u77, u78, u79, u80, u81, u82, u83, ds, k, rfl, HF, hB, hsz, HM⟩ J K hJ hK
  obtain ⟨f, acc, y, hy, hye, hky, hgf, hacc, hA⟩ := HF.out
  obtain ⟨d0, d1, d2', _⟩ := HR.out.tcells hy
  have ly := (HR.out.task g y hy).lt
  obtain ⟨ad2, cap2, hov, hcap2, hm2⟩ := owns_len (HR.out.opn g y hy)
  have hrow := Row.of_owns (HR.out.opn g y hy)
  rw [hov] at d2' hrow
  have e0 := (hB.cell (p := ⟨L.tb g, 0, none⟩) ly).trans d0
  have e1 := (hB.cell (p := ⟨L.tb g, 1, none⟩) ly).trans d1
  have e2 := (hB.cell (p := ⟨L.tb g, 2, none⟩) ly).trans d2'
  have hkc : k ≤ cap2 := by omega
  have ly' : L.tb g < wr.heap.size := by omega
  have Hrow := Lib.hid hrow
  have Hy := Lib.hid hy
  have Hye := Lib.hid hye
  have Hky := Lib.hid hky
  have Hgf := Lib.hid hgf
  have Hacc := Lib.hid hacc
  have HA := Lib.hid hA
  have HBw := Lib.hid hB
  clear HF hy hye hky hgf hacc hA hB hrow d0 d1 d2 d2' hov
  go_wp2_with (go_at_call 75; refine (callsIn_wide.1 (back_in 4 _ _ ⟨ad2, k, cap2, rfl⟩)).mono ?_; rintro e w2 ⟨rfl, rfl⟩)
  have bs := Blk.new wr 105 #[.slice ad2 k cap2]
  have hA0 := HA.out.below ((Below.refl wr.heap.size wr).alloc (Nat.le_refl _) (.cells #[.slice ad2 k cap2] 105))
  have hM0 := HM.out.below ((Below.refl wr.heap.size wr).alloc (Nat.le_refl _) (.cells #[.slice ad2 k cap2] 105))
  have hB0 : Below w.heap.size w (wr.alloc (.cells #[.slice ad2 k cap2] 105)) := HBw.out.alloc (by omega) _
  have hsz0 : (wr.alloc (.cells #[.slice ad2 k cap2] 105)).heap.size = wr.heap.size + 1 := by simp
  have hMd : ∀ D ∈ ds, D < wr.heap.size := fun D hD => HM.out.lt hD
  clear HA HM HBw e0 e1 e2
  generalize wr.alloc (.cells #[.slice ad2 k cap2] 105) = W0 at bs hA0 hM0 hB0 hsz0 ⊢
  have HopM : ∀ n ∈ y.opn.take k, n ≤ T.scopes.length := fun n hn => (HOP.out g y Hy.out).2 n (List.mem_of_mem_take hn)
  have hkl : (y.opn.take k).length = k := by rw [List.length_take]; have := Hky.out; omega
  have hk1000 : k ≤ 1000 := by have := Hky.out; have := (HOP.out g y Hy.out).1; omega
  have hacl : acc.length + k ≤ 100000 := by
    have h1 := congrArg List.length Hacc.out
    rw [List.length_append] at h1
    have h2 : k ≤ (chainN T f g k).length := by
      obtain ⟨f', rfl⟩ : ∃ f', f = f' + 1 := ⟨f - 1, by have := Hgf.out; omega⟩
      unfold chainN
      rw [Hy.out]
      simp only [List.length_append, List.length_map, List.length_reverse, hkl]
      omega
    have := HL.out
    omega
  have hrow0 : (∃ ad c, Value.slice ad2 k cap2 = .slice ad 0 c ∧ y.opn.take k = []) ∨ ∃ b o cap, Value.slice ad2 k cap2 = .slice (some ⟨b, o, none⟩) (y.opn.take k).length cap ∧ (y.opn.take k).length ≤ cap ∧ b < w.heap.size ∧ ∀ j, j < (y.opn.take k).length → W0.cell? ⟨b, o + j, none⟩ = ((y.opn.take k).map L.sp)[j]? := by
    rcases Hrow.out with ⟨ad', c, h1, h2, h3⟩ | ⟨b, o, cap', h1, h2, h3, h4, h5⟩
    · have hn : y.opn = [] := by simpa using h3
      have hk0 : k = 0 := by have := Hky.out; rw [hn] at this; simpa using this
      subst hk0
      exact .inl ⟨_, _, rfl, by simp⟩
    · simp only [List.length_map] at h1 h2 h5
      have hky := Hky.out
      injection h1 with h1a h1b h1c
      refine .inr ⟨b, o, cap2, by rw [hkl, h1a], by omega, h4, fun j hj => ?_⟩
      rw [hkl] at hj
      rw [hB0.cell (p := ⟨b, o + j, none⟩) h4, h5 j (by omega), List.getElem?_map, List.getElem?_map, List.getElem?_take_of_lt hj]
  have Hrow0 := Lib.hid hrow0
  have HA0 := Lib.hid hA0
  have HM0 := Lib.hid hM0
  have HB0 := Lib.hid hB0
  have HBS := Lib.hid bs
  have HMd := Lib.hid hMd
  have HopM := Lib.hid HopM
  clear hrow0 hA0 hM0 hB0 bs hMd Hrow
  refine wpIn_wide.1 (wpIn_rangeFunc_ownG (n := 4) rfl (by omega) (gf := 89) (lb := #[.pointer (some ⟨wr.heap.size, 0, none⟩)]) rfl trivial (enters_of Try.func89 (by kernel_rfl) rfl)
    (back_stopsK L (4 - 1) (by omega) wr.heap.size w.heap.size (.slice ad2 k cap2) (y.opn.take k) T.scopes.length HopM.out (by omega) W0 (by omega) (by omega) (HBS.out.cell 0 rfl) Hrow0.out)
    (fun h k => KB.trans h k) (fun W l o o' hl ho hc hw => ⟨belowK_b (w := W0) (by omega) W l o o' hl ho hc hw, World.putObj_heap_other (by omega)⟩) (Below.refl _ _) (fun _ => rfl)
    (fun pre W => Acc w.heap.size W (acc ++ pre.map (fun p => lnk p.1.2)) ∧ Blk W wr.heap.size 105 #[.slice ad2 k cap2] ∧ Below w.heap.size w W ∧ Marks w.heap.size ds W ∧ W0.heap.size ≤ W.heap.size)
    (fun _ _ _ => False)
    ?hI ?hIx ⟨by simpa using HA0.out, HBS.out, HB0.out, HM0.out, Nat.le_refl _⟩
    (fun z => { tmps := #[.pointer (some ⟨L.t, 0, none⟩), .int .i64 n, undef, undef, .slice none 0 0, .int .i64 0, .pointer (some ⟨L.tb g, 0, none⟩), .int .i64 0, .pointer (some ⟨w.heap.size, 0, none⟩), .int .i64 (k : Int), undef, L.sp z.1.2, .tuple #[.pointer (some ⟨L.tb i, 0, none⟩), .int .i64 0], .pointer (some ⟨L.t, 0, none⟩), .int .i64 n, .tuple #[.pointer (some ⟨L.tb i, 0, none⟩), .int .i64 0], .pointer (some ⟨L.tb i, 0, none⟩), .int .i64 0, .int .i64 0, .bool false, undef, .pointer (some ⟨L.tb i, 0, none⟩), .pointer (some ⟨L.tb i, 0, none⟩), .pointer (some ⟨L.tb i, 2, none⟩), .slice ad x.opn.length cap, .int .i64 (x.opn.length : Int), .pointer (some ⟨L.tb g, 0, none⟩), .pointer (some ⟨L.tb g, 0, none⟩), .pointer (some ⟨L.tb g, 2, none⟩), .slice ad2 y.opn.length cap2, .int .i64 (k : Int), .slice ad2 k cap2, .func (.func 89) #[] #[.pointer (some ⟨wr.heap.size, 0, none⟩)], .int .i64 (z.1.1 : Int), L.sp z.1.2, undef, undef, undef, undef, undef, u40, u41, u42, u43, u44, u45, u46, u47, u48, u49, u50, u51, u52, u53, u54, u55, u56, u57, u58, u59, u60, u61, u62, u63, u64, u65, u66, u67, u68, u69, u70, u71, u72, u73, u74, u75, u76, u77, u78, u79, u80, u81, u82, u83], defers := [] }) ?assign ?body ?done ?stop)
  case hI =>
    rintro s A B row ⟨i1, i2, i3, i4, i5⟩ hg hr
    have hr2 : ∀ r, row = some r → ∃ o : Obj, A.heap[r]? = some o ∧ o.isCells = false := fun r e => (hr r e).2
    refine ⟨i1.same (cells_kept hg hr2), i2.of (cells_kept hg hr2 _ _ _ i2), i3.grown hg (by omega) (fun r e => by have := (hr r e).1; omega), ⟨i4.pw, fun D hD => ?_, i4.ge⟩, Nat.le_trans i5 hg.size⟩
    have := HMd.out D hD
    exact (hg.block D (i4.lt hD) (fun e => by have := (hr D e.symm).1; omega)).trans (i4.held D hD)
  case hIx => exact fun _ _ _ _ _ h _ _ => h
  case assign =>
    rintro l ⟨⟨z1, z2⟩, hz⟩ W K' hK'
    unfold encB
    gi_wp2
    exact hK'
  case body =>
    rintro l pre ⟨⟨z1, z2⟩, hz⟩ W ⟨i1, i2, i3, i4, i5⟩ hpl
    simp only [] at hz ⊢
    rw [hkl] at hpl
    obtain ⟨v, hO, hvo, hvb⟩ := i1
    have LK : Hid (∀ W', Below w.heap.size w W' → Calls Try.prog 69 #[L.sp z2] W' _) := fun W' hW => link_any (HR.out.below hW) hz
    have o5 : W.cell? ⟨w.heap.size, 0, none⟩ = some v := hO.cell 0 rfl
    have f5 := hO.frozen 0
    have HO : Hid (Blk W.drew w.heap.size 30 #[v]) := hO
    have Hvo : Hid (W.drew.ownsRow 0 37 2 v (acc ++ pre.map (fun p => lnk p.1.2)).length ((acc ++ pre.map (fun p => lnk p.1.2)).flatMap LinkA.cells)) := hvo
    have Hvb := Lib.hid hvb
    have HBB : Hid (Below w.heap.size w W.drew) := i3.trans ((Below.refl w.heap.size W).drew)
    have hlen5 : (acc ++ pre.map (fun p => lnk p.1.2)).length ≤ 1000000 := by simp; omega
    have Hl5 := Lib.hid hlen5
    have HMk := Lib.hid i4
    have HW0 := Lib.hid i3
    have HBs := Lib.hid i2
    have hp2 : LinkA.cells (lnk z2) = [.int .i64 (lk z2), .int .i64 (z2 : Int)] := rfl
    have Hp2 := Lib.hid hp2
    have Hpc : Hid (acc ++ (pre ++ [(⟨(z1, z2), hz⟩ : BL T.scopes.length)]).map (fun p => lnk p.1.2) = (acc ++ pre.map (fun p => lnk p.1.2)) ++ [lnk z2]) := by simp [Hid]
    have Hsz0 := Lib.hid hsz0
    have hmW : w.heap.size < W.heap.size := hO.lt
    clear hO hvo hvb i3 i4 i2 hlen5 hp2 hsz0
    generalize acc ++ pre.map (fun p => lnk p.1.2) = acc5 at Hvo Hl5 Hpc
    generalize hn5 : acc5.length = n5 at Hvo Hl5
    have Hn5 := Lib.hid hn5
    clear hn5
    generalize L.sp z2 = p at *
    gi_wp2
    refine wpIn_region_round (by kernel_rfl) (by kernel_rfl) ?hq ?_
    case hq =>
      rintro ⟨a0, w0, h0⟩
      exact h0
    refine wpAny_take (i := 1) (v := p) rfl (by kernel_rfl) (by kernel_rfl) (by kernel_rfl) (fun _ _ _ h => h) (Or.inl ⟨by rfl, ?hy⟩) ?_
    case hy => intro w; go_simp
    refine wpAny_ready (rs := [0, 2]) (by kernel_rfl) (by simp) ?_
    refine AllReady.cons rfl (fun K hK => ?_) ?_
    ·
      go_simp
      refine hK _ _ ?_
      clear hK K
      refine wpAny_ready (rs := [2]) (by kernel_rfl) (by simp) ?_
      refine AllReady.cons rfl (fun K hK => ?_) ?_
      ·
        go_simp
        go_at_call 69
        refine (LK.out _ HBB.out).mono ?_
        rintro e w5 ⟨rfl, hb5⟩
        have hown5 := Lib.hid (owns_of Hvo.out (fun b hb => hb5.block b (Hvo.out.lt b hb).2))
        have hO5 := Lib.hid (HO.out.of (hb5.block _ HO.out.lt))
        have o5' : w5.cell? ⟨w.heap.size, 0, none⟩ = some v := hO5.out.cell 0 rfl
        have hs5 : w.heap.size < w5.heap.size := hO5.out.lt
        have hb5 := Lib.hid hb5
        try go_simp
        refine hK _ _ ?_
        clear hK K
        refine wpAny_ready (rs := [3]) (by kernel_rfl) (by simp) ?_
        refine AllReady.cons rfl (fun K hK => ?_) ?_
        ·
          go_simp
          refine hK _ _ ?_
          clear hK K
          refine wpAny_ready (rs := [4]) (by kernel_rfl) (by simp) ?_
          refine AllReady.cons rfl (fun K hK => ?_) ?_
          ·
            refine step_push rfl (.tmp 35) (.tmp 38) 30 rfl 37 2 16 _ Try.infoLink rfl (by omega) (by omega) Try.underlying30 v n5 _ rfl (hown5.out.alloc _) [.int .i64 (lk z2), .int .i64 (z2 : Int)] ⟨w5.heap.size, 0, none⟩ rfl (cells_new_at w5 #[.int .i64 (lk z2), .int .i64 (z2 : Int)] _) rfl (by simp [Value.oneCell']) Hl5.out ?_
            intro g2 cap3 w6 hown6 hgrow6 hat6
            have hO6 := Lib.hid ((hO5.out.alloc (.cells #[.int .i64 (lk z2), .int .i64 (z2 : Int)] 37)).grown hgrow6 (fun h => by have := Hvb.out _ h; omega))
            have o6 : w6.cell? ⟨w.heap.size, 0, none⟩ = some v := hO6.out.cell 0 rfl
            have f6 : w6.frozen? ⟨w.heap.size, 0, none⟩ = false := hO6.out.frozen 0
            have hown6 := Lib.hid hown6
            have hgrow6 := Lib.hid hgrow6
            have hat6 := Lib.hid hat6
            try go_simp
            refine hK _ _ ?_
            clear hK K
            refine wpAny_ready (rs := [5]) (by kernel_rfl) (by simp) ?_
            refine AllReady.cons rfl (fun K hK => ?_) ?_
            ·
              go_simp
              refine hK _ _ ?_
              clear hK K
              refine wpAny_done (by kernel_rfl) ?_ _
              have hg2 : w.heap.size + 1 ≤ g2 := by
                rcases hat6.out with h | h
                · exact Hvb.out _ h
                · simp at h; omega
              have HAcc : Acc w.heap.size (w6.setCell ⟨w.heap.size, 0, none⟩ (.slice (some ⟨g2, 0, none⟩) (n5 + 1) cap3)) (acc5 ++ [lnk z2]) := Acc.pushed hO6.out (by rw [Hp2.out]; exact hown6.out) Hn5.out.symm hg2
              have hsame : ∀ q, q < W.heap.size → q ≠ w.heap.size → v.ownBlock ≠ some q → (w6.setCell ⟨w.heap.size, 0, none⟩ (.slice (some ⟨g2, 0, none⟩) (n5 + 1) cap3)).heap[q]? = W.heap[q]? := fun q hq h1 h2 => push_same (W := W.drew) hb5.out hgrow6.out hq h1 h2
              have hown : ∀ b, v.ownBlock = some b → ∃ c, W.heap[b]? = some (.cells c 37 (0, 0)) := fun b hb => own_block Hvo.out hb
              have hnon : ∀ (q : Nat) (o : Obj), W.heap[q]? = some o → o.isCells = false → (w6.setCell ⟨w.heap.size, 0, none⟩ (.slice (some ⟨g2, 0, none⟩) (n5 + 1) cap3)).heap[q]? = W.heap[q]? := fun q o hq ho => hsame q (Array.getElem?_eq_some_iff.1 hq).1 (noncells_ne hq ho HO.out) (fun e => by obtain ⟨c, hc⟩ := hown q e; exact noncells_ne hq ho hc rfl)
              have hs6 : W.heap.size ≤ (w6.setCell ⟨w.heap.size, 0, none⟩ (.slice (some ⟨g2, 0, none⟩) (n5 + 1) cap3)).heap.size := by
                have q1 := hb5.out.size
                have q2 := hgrow6.out.size
                simp [World.setCell] at q1 q2 ⊢
                omega
              have hB6 : Below w.heap.size W (w6.setCell ⟨w.heap.size, 0, none⟩ (.slice (some ⟨g2, 0, none⟩) (n5 + 1) cap3)) :=
                ((((Below.refl w.heap.size W).drew).trans (hb5.out.mono (Nat.le_of_lt hmW))).trans (((Below.refl w.heap.size w5).alloc (by omega) _).grown hgrow6.out (by simp; omega) (fun b hb => by have := Hvb.out _ hb; omega))).setCell (p := ⟨w.heap.size, 0, none⟩) (Nat.le_refl _) _
              have hbs : (w6.setCell ⟨w.heap.size, 0, none⟩ (.slice (some ⟨g2, 0, none⟩) (n5 + 1) cap3)).heap[wr.heap.size]? = W.heap[wr.heap.size]? := hsame _ (by have := Hsz0.out; omega) (by omega) (fun e => by obtain ⟨c, hc⟩ := hown _ e; rw [show W.heap[wr.heap.size]? = _ from HBs.out] at hc; injection hc with hc; injection hc with _ hc; cases hc)
              have HAcc := Lib.hid HAcc
              have Hnon := Lib.hid hnon
              have hB6 := Lib.hid hB6
              have hbs := Lib.hid hbs
              clear hsame hown hnon
              gi_wp2
              refine ⟨⟨hs6, fun q o hq ho hc => (Hnon.out q o ho hc).trans ho⟩, ⟨hB6.out, hbs.out⟩, ?_, HBs.out.of hbs.out, HW0.out.trans hB6.out, HMk.out.same Hnon.out, Nat.le_trans i5 hs6⟩
              rw [Hpc.out]
              exact HAcc.out
            exact AllReady.nil
          exact AllReady.nil
        exact AllReady.nil
      exact AllReady.nil
    refine AllReady.cons rfl (fun K hK => ?_) ?_
    ·
      go_simp
      go_at_call 69
      refine (LK.out _ HBB.out).mono ?_
      rintro e w5 ⟨rfl, hb5⟩
      have hown5 := Lib.hid (owns_of Hvo.out (fun b hb => hb5.block b (Hvo.out.lt b hb).2))
      have hO5 := Lib.hid (HO.out.of (hb5.block _ HO.out.lt))
      have o5' : w5.cell? ⟨w.heap.size, 0, none⟩ = some v := hO5.out.cell 0 rfl
      have hs5 : w.heap.size < w5.heap.size := hO5.out.lt
      have hb5 := Lib.hid hb5
      try go_simp
      refine hK _ _ ?_
      clear hK K
      refine wpAny_ready (rs := [0, 3]) (by kernel_rfl) (by simp) ?_
      refine AllReady.cons rfl (fun K hK => ?_) ?_
      ·
        go_simp
        refine hK _ _ ?_
        clear hK K
        refine wpAny_ready (rs := [3]) (by kernel_rfl) (by simp) ?_
        refine AllReady.cons rfl (fun K hK => ?_) ?_
        ·
          go_simp
          refine hK _ _ ?_
          clear hK K
          refine wpAny_ready (rs := [4]) (by kernel_rfl) (by simp) ?_
          refine AllReady.cons rfl (fun K hK => ?_) ?_
          ·
            refine step_push rfl (.tmp 35) (.tmp 38) 30 rfl 37 2 16 _ Try.infoLink rfl (by omega) (by omega) Try.underlying30 v n5 _ rfl (hown5.out.alloc _) [.int .i64 (lk z2), .int .i64 (z2 : Int)] ⟨w5.heap.size, 0, none⟩ rfl (cells_new_at w5 #[.int .i64 (lk z2), .int .i64 (z2 : Int)] _) rfl (by simp [Value.oneCell']) Hl5.out ?_
            intro g2 cap3 w6 hown6 hgrow6 hat6
            have hO6 := Lib.hid ((hO5.out.alloc (.cells #[.int .i64 (lk z2), .int .i64 (z2 : Int)] 37)).grown hgrow6 (fun h => by have := Hvb.out _ h; omega))
            have o6 : w6.cell? ⟨w.heap.size, 0, none⟩ = some v := hO6.out.cell 0 rfl
            have f6 : w6.frozen? ⟨w.heap.size, 0, none⟩ = false := hO6.out.frozen 0
            have hown6 := Lib.hid hown6
            have hgrow6 := Lib.hid hgrow6
            have hat6 := Lib.hid hat6
            try go_simp
            refine hK _ _ ?_
            clear hK K
            refine wpAny_ready (rs := [5]) (by kernel_rfl) (by simp) ?_
            refine AllReady.cons rfl (fun K hK => ?_) ?_
            ·
              go_simp
              refine hK _ _ ?_
              clear hK K
              refine wpAny_done (by kernel_rfl) ?_ _
              have hg2 : w.heap.size + 1 ≤ g2 := by
                rcases hat6.out with h | h
                · exact Hvb.out _ h
                · simp at h; omega
              have HAcc : Acc w.heap.size (w6.setCell ⟨w.heap.size, 0, none⟩ (.slice (some ⟨g2, 0, none⟩) (n5 + 1) cap3)) (acc5 ++ [lnk z2]) := Acc.pushed hO6.out (by rw [Hp2.out]; exact hown6.out) Hn5.out.symm hg2
              have hsame : ∀ q, q < W.heap.size → q ≠ w.heap.size → v.ownBlock ≠ some q → (w6.setCell ⟨w.heap.size, 0, none⟩ (.slice (some ⟨g2, 0, none⟩) (n5 + 1) cap3)).heap[q]? = W.heap[q]? := fun q hq h1 h2 => push_same (W := W.drew) hb5.out hgrow6.out hq h1 h2
              have hown : ∀ b, v.ownBlock = some b → ∃ c, W.heap[b]? = some (.cells c 37 (0, 0)) := fun b hb => own_block Hvo.out hb
              have hnon : ∀ (q : Nat) (o : Obj), W.heap[q]? = some o → o.isCells = false → (w6.setCell ⟨w.heap.size, 0, none⟩ (.slice (some ⟨g2, 0, none⟩) (n5 + 1) cap3)).heap[q]? = W.heap[q]? := fun q o hq ho => hsame q (Array.getElem?_eq_some_iff.1 hq).1 (noncells_ne hq ho HO.out) (fun e => by obtain ⟨c, hc⟩ := hown q e; exact noncells_ne hq ho hc rfl)
              have hs6 : W.heap.size ≤ (w6.setCell ⟨w.heap.size, 0, none⟩ (.slice (some ⟨g2, 0, none⟩) (n5 + 1) cap3)).heap.size := by
                have q1 := hb5.out.size
                have q2 := hgrow6.out.size
                simp [World.setCell] at q1 q2 ⊢
                omega
              have hB6 : Below w.heap.size W (w6.setCell ⟨w.heap.size, 0, none⟩ (.slice (some ⟨g2, 0, none⟩) (n5 + 1) cap3)) :=
                ((((Below.refl w.heap.size W).drew).trans (hb5.out.mono (Nat.le_of_lt hmW))).trans (((Below.refl w.heap.size w5).alloc (by omega) _).grown hgrow6.out (by simp; omega) (fun b hb => by have := Hvb.out _ hb; omega))).setCell (p := ⟨w.heap.size, 0, none⟩) (Nat.le_refl _) _
              have hbs : (w6.setCell ⟨w.heap.size, 0, none⟩ (.slice (some ⟨g2, 0, none⟩) (n5 + 1) cap3)).heap[wr.heap.size]? = W.heap[wr.heap.size]? := hsame _ (by have := Hsz0.out; omega) (by omega) (fun e => by obtain ⟨c, hc⟩ := hown _ e; rw [show W.heap[wr.heap.size]? = _ from HBs.out] at hc; injection hc with hc; injection hc with _ hc; cases hc)
              have HAcc := Lib.hid HAcc
              have Hnon := Lib.hid hnon
              have hB6 := Lib.hid hB6
              have hbs := Lib.hid hbs
              clear hsame hown hnon
              gi_wp2
              refine ⟨⟨hs6, fun q o hq ho hc => (Hnon.out q o ho hc).trans ho⟩, ⟨hB6.out, hbs.out⟩, ?_, HBs.out.of hbs.out, HW0.out.trans hB6.out, HMk.out.same Hnon.out, Nat.le_trans i5 hs6⟩
              rw [Hpc.out]
              exact HAcc.out
            exact AllReady.nil
          exact AllReady.nil
        exact AllReady.nil
      refine AllReady.cons rfl (fun K hK => ?_) ?_
      ·
        go_simp
        refine hK _ _ ?_
        clear hK K
        refine wpAny_ready (rs := [0]) (by kernel_rfl) (by simp) ?_
        refine AllReady.cons rfl (fun K hK => ?_) ?_
        ·
          go_simp
          refine hK _ _ ?_
          clear hK K
          refine wpAny_ready (rs := [4]) (by kernel_rfl) (by simp) ?_
          refine AllReady.cons rfl (fun K hK => ?_) ?_
          ·
            refine step_push rfl (.tmp 35) (.tmp 38) 30 rfl 37 2 16 _ Try.infoLink rfl (by omega) (by omega) Try.underlying30 v n5 _ rfl (hown5.out.alloc _) [.int .i64 (lk z2), .int .i64 (z2 : Int)] ⟨w5.heap.size, 0, none⟩ rfl (cells_new_at w5 #[.int .i64 (lk z2), .int .i64 (z2 : Int)] _) rfl (by simp [Value.oneCell']) Hl5.out ?_
            intro g2 cap3 w6 hown6 hgrow6 hat6
            have hO6 := Lib.hid ((hO5.out.alloc (.cells #[.int .i64 (lk z2), .int .i64 (z2 : Int)] 37)).grown hgrow6 (fun h => by have := Hvb.out _ h; omega))
            have o6 : w6.cell? ⟨w.heap.size, 0, none⟩ = some v := hO6.out.cell 0 rfl
            have f6 : w6.frozen? ⟨w.heap.size, 0, none⟩ = false := hO6.out.frozen 0
            have hown6 := Lib.hid hown6
            have hgrow6 := Lib.hid hgrow6
            have hat6 := Lib.hid hat6
            try go_simp
            refine hK _ _ ?_
            clear hK K
            refine wpAny_ready (rs := [5]) (by kernel_rfl) (by simp) ?_
            refine AllReady.cons rfl (fun K hK => ?_) ?_
            ·
              go_simp
              refine hK _ _ ?_
              clear hK K
              refine wpAny_done (by kernel_rfl) ?_ _
              have hg2 : w.heap.size + 1 ≤ g2 := by
                rcases hat6.out with h | h
                · exact Hvb.out _ h
                · simp at h; omega
              have HAcc : Acc w.heap.size (w6.setCell ⟨w.heap.size, 0, none⟩ (.slice (some ⟨g2, 0, none⟩) (n5 + 1) cap3)) (acc5 ++ [lnk z2]) := Acc.pushed hO6.out (by rw [Hp2.out]; exact hown6.out) Hn5.out.symm hg2
              have hsame : ∀ q, q < W.heap.size → q ≠ w.heap.size → v.ownBlock ≠ some q → (w6.setCell ⟨w.heap.size, 0, none⟩ (.slice (some ⟨g2, 0, none⟩) (n5 + 1) cap3)).heap[q]? = W.heap[q]? := fun q hq h1 h2 => push_same (W := W.drew) hb5.out hgrow6.out hq h1 h2
              have hown : ∀ b, v.ownBlock = some b → ∃ c, W.heap[b]? = some (.cells c 37 (0, 0)) := fun b hb => own_block Hvo.out hb
              have hnon : ∀ (q : Nat) (o : Obj), W.heap[q]? = some o → o.isCells = false → (w6.setCell ⟨w.heap.size, 0, none⟩ (.slice (some ⟨g2, 0, none⟩) (n5 + 1) cap3)).heap[q]? = W.heap[q]? := fun q o hq ho => hsame q (Array.getElem?_eq_some_iff.1 hq).1 (noncells_ne hq ho HO.out) (fun e => by obtain ⟨c, hc⟩ := hown q e; exact noncells_ne hq ho hc rfl)
              have hs6 : W.heap.size ≤ (w6.setCell ⟨w.heap.size, 0, none⟩ (.slice (some ⟨g2, 0, none⟩) (n5 + 1) cap3)).heap.size := by
                have q1 := hb5.out.size
                have q2 := hgrow6.out.size
                simp [World.setCell] at q1 q2 ⊢
                omega
              have hB6 : Below w.heap.size W (w6.setCell ⟨w.heap.size, 0, none⟩ (.slice (some ⟨g2, 0, none⟩) (n5 + 1) cap3)) :=
                ((((Below.refl w.heap.size W).drew).trans (hb5.out.mono (Nat.le_of_lt hmW))).trans (((Below.refl w.heap.size w5).alloc (by omega) _).grown hgrow6.out (by simp; omega) (fun b hb => by have := Hvb.out _ hb; omega))).setCell (p := ⟨w.heap.size, 0, none⟩) (Nat.le_refl _) _
              have hbs : (w6.setCell ⟨w.heap.size, 0, none⟩ (.slice (some ⟨g2, 0, none⟩) (n5 + 1) cap3)).heap[wr.heap.size]? = W.heap[wr.heap.size]? := hsame _ (by have := Hsz0.out; omega) (by omega) (fun e => by obtain ⟨c, hc⟩ := hown _ e; rw [show W.heap[wr.heap.size]? = _ from HBs.out] at hc; injection hc with hc; injection hc with _ hc; cases hc)
              have HAcc := Lib.hid HAcc
              have Hnon := Lib.hid hnon
              have hB6 := Lib.hid hB6
              have hbs := Lib.hid hbs
              clear hsame hown hnon
              gi_wp2
              refine ⟨⟨hs6, fun q o hq ho hc => (Hnon.out q o ho hc).trans ho⟩, ⟨hB6.out, hbs.out⟩, ?_, HBs.out.of hbs.out, HW0.out.trans hB6.out, HMk.out.same Hnon.out, Nat.le_trans i5 hs6⟩
              rw [Hpc.out]
              exact HAcc.out
            exact AllReady.nil
          exact AllReady.nil
        exact AllReady.nil
      exact AllReady.nil
    exact AllReady.nil
  case done =>
    rintro D ys W hD rfl ⟨i1, i2, i3, i4, i5⟩ hKd
    have hacc2 : acc ++ (backS HopM.out (y.opn.take k).length).map (fun p => lnk p.1.2) = acc ++ (y.opn.take k).reverse.map lnk := by rw [backS_rev]
    rw [hacc2] at i1
    have i4' : Marks w.heap.size (D :: ds) W := ⟨List.pairwise_cons.2 ⟨fun D' h => by have := HMd.out D' h; omega, i4.pw⟩, fun D' h => by
      rcases List.mem_cons.1 h with rfl | h
      · exact hKd
      · exact i4.held D' h, fun D' h => by
      rcases List.mem_cons.1 h with rfl | h
      · omega
      · exact i4.ge D' h⟩
    obtain ⟨acc2, hacc3⟩ : ∃ a, a = acc ++ (y.opn.take k).reverse.map lnk := ⟨_, rfl⟩
    rw [← hacc3] at i1
    have hl6 : acc2.length ≤ 1000000 := by rw [hacc3]; simp; omega
    have Hacc3 := Lib.hid hacc3
    obtain ⟨v, hO, hvo, hvb⟩ := i1
    obtain ⟨d0, d1, _⟩ := HR.out.tcells Hy.out
    have e0 := (i3.cell (p := ⟨L.tb g, 0, none⟩) ly).trans d0
    have o5 : W.cell? ⟨w.heap.size, 0, none⟩ = some v := hO.cell 0 rfl
    have f5 := hO.frozen 0
    have hmW : w.heap.size < W.heap.size := hO.lt
    have lyW : L.tb g < W.heap.size := by omega
    have HO : Hid (Blk W.drew w.heap.size 30 #[v]) := hO
    have Hvo : Hid (W.drew.ownsRow 0 37 2 v acc2.length (acc2.flatMap LinkA.cells)) := hvo
    have Hvb := Lib.hid hvb
    have HBB : Hid (Below w.heap.size w W) := i3
    have HMk := Lib.hid i4'
    have Hl6 := Lib.hid hl6
    generalize hn6 : acc2.length = n6 at Hvo Hl6
    have Hn6 := Lib.hid hn6
    clear hn6 hl6 hacc3 hacc2 hO hvo hvb i2 i3 i4 i4' d0 d1 hKd i5 hD hsz0
    go_wp2
    refine wp_mono (Q := Exit.then (fun a' w' => ∃ (x40 x41 x42 x43 x44 x45 x46 x47 : Value), a' = { tmps := #[.pointer (some ⟨L.t, 0, none⟩), .int .i64 n, undef, undef, .slice none 0 0, .int .i64 0, .pointer (some ⟨L.tb g, 0, none⟩), .int .i64 0, .pointer (some ⟨w.heap.size, 0, none⟩), .int .i64 (k : Int), undef, undef, .tuple #[.pointer (some ⟨L.tb i, 0, none⟩), .int .i64 0], .pointer (some ⟨L.t, 0, none⟩), .int .i64 n, .tuple #[.pointer (some ⟨L.tb i, 0, none⟩), .int .i64 0], .pointer (some ⟨L.tb i, 0, none⟩), .int .i64 0, .int .i64 0, .bool false, undef, .pointer (some ⟨L.tb i, 0, none⟩), .pointer (some ⟨L.tb i, 0, none⟩), .pointer (some ⟨L.tb i, 2, none⟩), .slice ad x.opn.length cap, .int .i64 (x.opn.length : Int), .pointer (some ⟨L.tb g, 0, none⟩), .pointer (some ⟨L.tb g, 0, none⟩), .pointer (some ⟨L.tb g, 2, none⟩), .slice ad2 y.opn.length cap2, .int .i64 (k : Int), .slice ad2 k cap2, .func (.func 89) #[] #[.pointer (some ⟨wr.heap.size, 0, none⟩)], undef, undef, undef, undef, undef, undef, undef, x40, x41, x42, x43, x44, x45, x46, x47, u48, u49, u50, u51, u52, u53, u54, u55, u56, u57, u58, u59, u60, u61, u62, u63, u64, u65, u66, u67, u68, u69, u70, u71, u72, u73, u74, u75, u76, u77, u78, u79, u80, u81, u82, u83], defers := mark D :: ds.map mark } ∧ Hid (Acc w.heap.size w' (acc2 ++ [(1, g + 1)]) ∧ Below w.heap.size w w' ∧ Marks w.heap.size (D :: ds) w')) (fun _ _ _ => False)) ?_ ?_
    · go_region_law (refine step_push rfl (.tmp 40) (.tmp 46) 30 rfl 37 2 16 _ Try.infoLink rfl (by omega) (by omega) Try.underlying30 v n6 _ rfl (Hvo.out.alloc _) [.int .i64 1, .int .i64 ((g : Int) + 1)] ⟨W.heap.size, 0, none⟩ rfl (cells_new_at W.drew #[.int .i64 1, .int .i64 ((g : Int) + 1)] _) rfl (by simp [Value.oneCell']) Hl6.out ?_; intro g2 cap3 w6 hown6 hgrow6 hat6; have hO6 := Lib.hid ((HO.out.alloc (.cells #[.int .i64 1, .int .i64 ((g : Int) + 1)] 37)).grown hgrow6 (fun h => by have := Hvb.out _ h; omega)); have o6 : w6.cell? ⟨w.heap.size, 0, none⟩ = some v := hO6.out.cell 0 rfl; have f6 : w6.frozen? ⟨w.heap.size, 0, none⟩ = false := hO6.out.frozen 0; have hown6 := Lib.hid hown6; have hgrow6 := Lib.hid hgrow6; have hat6 := Lib.hid hat6)
      all_goals
        refine ⟨_, _, _, _, _, _, _, _, rfl, ?_, ?_, ?_⟩
        · exact Acc.pushed hO6.out hown6.out Hn6.out.symm (by
            rcases hat6.out with h | h
            · exact Hvb.out _ h
            · simp at h; omega)
        · exact (HBB.out.trans ((Below.refl w.heap.size W).drew)).trans ((((Below.refl w.heap.size W.drew).alloc (Nat.le_of_lt hmW) _).grown hgrow6.out (by simp; omega) (fun b hb => by have := Hvb.out _ hb; omega)).setCell (p := ⟨w.heap.size, 0, none⟩) (Nat.le_refl _) _)
        · refine HMk.out.same fun q o hq ho => push_same (W := W) ((Below.refl W.heap.size W).drew) hgrow6.out (Array.getElem?_eq_some_iff.1 hq).1 (noncells_ne hq ho HO.out) (fun e => ?_)
          obtain ⟨c, hc⟩ := own_block Hvo.out e
          exact noncells_ne hq ho hc rfl
    · intro e a' W2 hq
      cases e <;> try exact hq.elim
      obtain ⟨x40, x41, x42, x43, x44, x45, x46, x47, rfl, HMID⟩ := hq
      obtain ⟨j1, j2, j3⟩ := HMID.out
      obtain ⟨v2, hO2, hvo2, hvb2⟩ := j1
      have hstep : chainN T f g k = (y.opn.take k).reverse.map lnk ++ (1, g + 1) :: (if y.inn = 0 then [] else lnk y.inn :: match T.scopes[y.inn - 1]? with
          | none => []
          | some s => match T.tasks[s.owner - 1]? with
            | none => []
            | some z => chainN T (f - 1) (s.owner - 1) ((placeOf y.inn z.opn).getD 0)) := by
        obtain ⟨f', rfl⟩ : ∃ f', f = f' + 1 := ⟨f - 1, by have := Hgf.out; omega⟩
        conv => lhs; unfold chainN
        rw [Hy.out]
        rfl
      obtain ⟨_, d1, _⟩ := HR.out.tcells Hy.out
      have e1 := (j2.cell (p := ⟨L.tb g, 1, none⟩) ly).trans d1
      have o5' : W2.cell? ⟨w.heap.size, 0, none⟩ = some v2 := hO2.cell 0 rfl
      have hmW2 : w.heap.size < W2.heap.size := hO2.lt
      have lyW2 : L.tb g < W2.heap.size := by omega
      simp only [Exit.then]
      by_cases h0 : y.inn = 0
      · rw [h0, Lay.sp_zero] at e1
        rw [if_pos h0] at hstep
        have hfull : acc2 ++ [(1, g + 1)] = chainN T (i + 1) i x.opn.length := by rw [← Hacc.out, hstep, Hacc3.out, List.append_assoc]
        rw [hfull] at hvo2
        have Hvo2 := Lib.hid hvo2
        have Hvb2 := Lib.hid hvb2
        have Hj2 := Lib.hid j2
        have Hj3 := Lib.hid j3
        clear hO2 hvo2 hvb2 j2 j3 hstep hfull d1 h0 HMID
        go_wp2
        refine leaves_marks (D :: ds) W2 Hj3.out fun W3 _ h1 h2 h3 h4 h5 h6 => ⟨_, results_tmp2 rfl _ _ _, v2, rfl, ?_, ?_, ?_⟩
        · exact owns_of Hvo2.out (fun b hb => by obtain ⟨c, hc⟩ := own_block Hvo2.out hb; exact h1 _ _ _ hc)
        · exact fun b hb => by have := Hvb2.out b hb; omega
        · refine Hj2.out.trans ⟨h4, h5, h6, by omega, fun b hb => h2 b (fun hm => ?_)⟩
          have := Hj3.out.ge b hm
          omega
      · obtain ⟨j, hj⟩ : ∃ j, y.inn = j + 1 := ⟨y.inn - 1, by omega⟩
        obtain ⟨s, o, kk, z, hs, ho, hog, hz, hze, hpl, hkz⟩ := HU.out g j y Hy.out Hye.out hj
        rw [hj, Lay.sp_succ] at e1 d1
        rw [if_neg h0, hj] at hstep
        simp only [Nat.add_sub_cancel, hs, ho, hz, hpl, Option.getD_some] at hstep
        have hstep' : (acc2 ++ [(1, g + 1)] ++ [lnk (j + 1)]) ++ chainN T (f - 1) o kk = chainN T (i + 1) i x.opn.length := by
          rw [← Hacc.out, hstep, Hacc3.out]
          simp
        have Hstep := Lib.hid hstep'
        have hjs : j < T.scopes.length := (List.getElem?_eq_some_iff.1 hs).1
        have LK : Hid (∀ W', Below w.heap.size w W' → Calls Try.prog 69 #[.pointer (some ⟨L.sb j, 0, none⟩)] W' fun e w' => e = .returned (.agg #[.int .i64 (lk (j + 1)), .int .i64 ((j + 1 : Nat) : Int)]) ∧ Below W'.heap.size W' w') := fun W' hW => by
          have := link_any (HR.out.below hW) (n := j + 1) (by omega)
          rw [Lay.sp_succ] at this
          exact this
        have IX : Hid (∀ W', Below w.heap.size w W' → Calls Try.prog 73 #[L.ov o, .pointer (some ⟨L.sb j, 0, none⟩)] W' fun e w' => e = .returned (.int .i64 (kk : Int)) ∧ W' = w') := fun W' hW => by
          have := index_sc (HR.out.below hW) (Row.of_owns ((HR.out.below hW).opn o z hz)) hjs (HOP.out o z hz).2
          rw [hpl] at this
          exact this
        obtain ⟨_, s1, _⟩ := HR.out.scells hs
        rw [ho, Lay.tp_succ] at s1
        obtain ⟨_, _, t2, _⟩ := HR.out.tcells hz
        have lsj := (HR.out.scope j s hs).lt
        have lto := (HR.out.task o z hz).lt
        have f5' := hO2.frozen 0
        have HO2 : Hid (Blk W2.drew w.heap.size 30 #[v2]) := hO2
        have Hvo2 : Hid (W2.drew.ownsRow 0 37 2 v2 (acc2 ++ [(1, g + 1)]).length ((acc2 ++ [(1, g + 1)]).flatMap LinkA.cells)) := hvo2
        have Hvb2 := Lib.hid hvb2
        have HBB2 : Hid (Below w.heap.size w W2.drew) := j2.trans ((Below.refl w.heap.size W2).drew)
        have HMk2 := Lib.hid j3
        have hl7 : (acc2 ++ [(1, g + 1)]).length ≤ 1000000 := by
          have h1 := congrArg List.length Hstep.out
          simp only [List.length_append] at h1
          have := HL.out
          simp only [List.length_append]
          omega
        have Hd1 := Lib.hid d1
        have Hs1 := Lib.hid s1
        have Ht2 := Lib.hid t2
        have Hz := Lib.hid hz
        have Hze := Lib.hid hze
        have Hkz := Lib.hid hkz
        have Hog := Lib.hid hog
        have Hl7 := Lib.hid hl7
        generalize acc2 ++ [(1, g + 1)] = acc3 at Hstep Hvo2 Hl7
        generalize hn7 : acc3.length = n7 at Hvo2 Hl7
        have Hn7 := Lib.hid hn7
        clear hO2 hvo2 hvb2 j2 j3 hstep hstep' d1 h0 HMID hs ho hog hz hze hpl hkz s1 t2 hl7 hn7 hj
        go_wp2
        refine wp_mono (Q := Exit.then (fun a' w' => ∃ (x54 x55 x56 x57 x58 x59 x60 x61 : Value), a' = { tmps := #[.pointer (some ⟨L.t, 0, none⟩), .int .i64 n, undef, undef, .slice none 0 0, .int .i64 0, .pointer (some ⟨L.tb g, 0, none⟩), .int .i64 0, .pointer (some ⟨w.heap.size, 0, none⟩), .int .i64 (k : Int), undef, undef, .tuple #[.pointer (some ⟨L.tb i, 0, none⟩), .int .i64 0], .pointer (some ⟨L.t, 0, none⟩), .int .i64 n, .tuple #[.pointer (some ⟨L.tb i, 0, none⟩), .int .i64 0], .pointer (some ⟨L.tb i, 0, none⟩), .int .i64 0, .int .i64 0, .bool false, undef, .pointer (some ⟨L.tb i, 0, none⟩), .pointer (some ⟨L.tb i, 0, none⟩), .pointer (some ⟨L.tb i, 2, none⟩), .slice ad x.opn.length cap, .int .i64 (x.opn.length : Int), .pointer (some ⟨L.tb g, 0, none⟩), .pointer (some ⟨L.tb g, 0, none⟩), .pointer (some ⟨L.tb g, 2, none⟩), .slice ad2 y.opn.length cap2, .int .i64 (k : Int), .slice ad2 k cap2, .func (.func 89) #[] #[.pointer (some ⟨wr.heap.size, 0, none⟩)], undef, undef, undef, undef, undef, undef, undef, x40, x41, x42, x43, x44, x45, x46, x47, .pointer (some ⟨L.tb g, 0, none⟩), .pointer (some ⟨L.tb g, 0, none⟩), .pointer (some ⟨L.tb g, 1, none⟩), .pointer (some ⟨L.sb j, 0, none⟩), .bool false, u53, x54, x55, x56, x57, x58, x59, x60, x61, u62, u63, u64, u65, u66, u67, u68, u69, u70, u71, u72, u73, u74, u75, u76, u77, u78, u79, u80, u81, u82, u83], defers := mark D :: ds.map mark } ∧ Hid (Acc w.heap.size w' (acc3 ++ [lnk (j + 1)]) ∧ Below w.heap.size w w' ∧ Marks w.heap.size (D :: ds) w')) (fun _ _ _ => False)) ?_ ?_
        · go_region_law (first | (refine step_push rfl (.tmp 54) (.tmp 60) 30 rfl 37 2 16 _ Try.infoLink rfl (by omega) (by omega) Try.underlying30 v2 n7 _ rfl (hown5.out.alloc _) [.int .i64 (lk (j + 1)), .int .i64 ((j + 1 : Nat) : Int)] ⟨w5.heap.size, 0, none⟩ rfl (cells_new_at w5 #[.int .i64 (lk (j + 1)), .int .i64 ((j + 1 : Nat) : Int)] _) rfl (by simp [Value.oneCell']) Hl7.out ?_; intro g2 cap3 w6 hown6 hgrow6 hat6; have hO6 := Lib.hid ((hO5.out.alloc (.cells #[.int .i64 (lk (j + 1)), .int .i64 ((j + 1 : Nat) : Int)] 37)).grown hgrow6 (fun h => by have := Hvb2.out _ h; omega)); have o6 : w6.cell? ⟨w.heap.size, 0, none⟩ = some v2 := hO6.out.cell 0 rfl; have f6 : w6.frozen? ⟨w.heap.size, 0, none⟩ = false := hO6.out.frozen 0; have hown6 := Lib.hid hown6; have hgrow6 := Lib.hid hgrow6; have hat6 := Lib.hid hat6) | (go_simp; go_at_call 69; refine (LK.out _ HBB2.out).mono ?_; rintro e w5 ⟨rfl, hb5⟩; have hown5 := Lib.hid (owns_of Hvo2.out (fun b hb => hb5.block b (Hvo2.out.lt b hb).2)); have hO5 := Lib.hid (HO2.out.of (hb5.block _ HO2.out.lt)); have o5'' : w5.cell? ⟨w.heap.size, 0, none⟩ = some v2 := hO5.out.cell 0 rfl; have hs5 : w.heap.size < w5.heap.size := hO5.out.lt; have hb5 := Lib.hid hb5))
          all_goals
            refine ⟨_, _, _, _, _, _, _, _, rfl, ?_, ?_, ?_⟩
            · exact Acc.pushed hO6.out hown6.out Hn7.out.symm (by
                rcases hat6.out with h | h
                · exact Hvb2.out _ h
                · simp at h; omega)
            · exact (HBB2.out.trans (hb5.out.mono (Nat.le_of_lt hmW2))).trans ((((Below.refl w.heap.size w5).alloc (Nat.le_of_lt hs5) _).grown hgrow6.out (by simp; omega) (fun b hb => by have := Hvb2.out _ hb; omega)).setCell (p := ⟨w.heap.size, 0, none⟩) (Nat.le_refl _) _)
            · refine HMk2.out.same fun q o hq ho => push_same (W := W2.drew) hb5.out hgrow6.out (Array.getElem?_eq_some_iff.1 hq).1 (noncells_ne hq ho HO2.out) (fun e => ?_)
              obtain ⟨c, hc⟩ := own_block Hvo2.out e
              exact noncells_ne hq ho hc rfl
        · intro e a' W4 hq
          cases e <;> try exact hq.elim
          obtain ⟨x54, x55, x56, x57, x58, x59, x60, x61, rfl, HMID⟩ := hq
          obtain ⟨l1, l2, l3⟩ := HMID.out
          have e1'' := (l2.cell (p := ⟨L.tb g, 1, none⟩) ly).trans Hd1.out
          have s1'' := (l2.cell (p := ⟨L.sb j, 1, none⟩) lsj).trans Hs1.out
          have t2'' := (l2.cell (p := ⟨L.tb o, 2, none⟩) lto).trans Ht2.out
          have HB4 : Hid (Below w.heap.size w W4.drew) := l2.trans ((Below.refl w.heap.size W4).drew)
          have HA4 : Hid (Acc w.heap.size W4.drew (acc3 ++ [lnk (j + 1)])) := l1
          have HM4 : Hid (Marks w.heap.size (D :: ds) W4.drew) := ⟨l3.pw, l3.held, l3.ge⟩
          have hs4 : w.heap.size < W4.heap.size := by obtain ⟨v4, h, _⟩ := l1; exact h.lt
          clear l1 l2 l3 HMID
          simp only [Exit.then]
          go_wp2
          go_still_tail 14, (by kernel_rfl)
          change wpList _ _ _ _ _ W4.drew
          go_wp2_with (go_at_call 73; refine (IX.out _ HB4.out).mono ?_; rintro e w' ⟨rfl, rfl⟩)
          refine Handed.intro o Hog.out (hJ _ _ _ ⟨_, _, _, _, _, _, _, _, _, _, _, _, _, _, _, _, _, _, _, _, _, _, _, _, _, _, _, _, _, _, _, _, _, _, _, _, _, _, _, _, _, _, _, _, _, _, _, _, _, _, _, D :: ds, kk, rfl, ?_, HB4.out, hs4, HM4⟩)
          exact ⟨f - 1, acc3 ++ [lnk (j + 1)], z, Hz.out, Hze.out, Nat.le_of_lt Hkz.out, (by have := Hog.out; have := Hgf.out; omega), Hstep.out, HA4.out⟩
  case stop =>
    rintro D c pre W _ _ h _
    exact h.elim

end
end Go.Proofs.Ytoonkidlbnndcaa
