/- A directive is read: parse's directive (the walk, under way; not built). It wants the tables of utf8. -/
import Derived.Test.YtnalppgjbllehaaGreatDoorL07
import Derived.Deep.WholeRow
namespace Go.Proofs.YtnalppgjbllehaaGreatDoor
set_option linter.unusedVariables false
set_option linter.unusedSimpArgs false
open Go.RowKit

theorem Utf8Tabs.below {B : Nat} {w w' : World} (h : Lib.Utf8Tabs 1 2 w) (hB : 2 < B) (hb : Below B w w') : Lib.Utf8Tabs 1 2 w' :=
  ⟨fun c hc => (World.cell?_of_block (a := ⟨1, c, none⟩) (hb.block 1 (by omega))).trans (h.1 c hc),
   fun i hi => ⟨(World.cell?_of_block (a := ⟨2, 2 * i, none⟩) (hb.block 2 hB)).trans (h.2 i hi).1, (World.cell?_of_block (a := ⟨2, 2 * i + 1, none⟩) (hb.block 2 hB)).trans (h.2 i hi).2⟩⟩
theorem Utf8Tabs.two {w : World} (h : Lib.Utf8Tabs 1 2 w) : 2 < w.heap.size := World.block_lt_of_cell? w _ (h.2 0 (by omega)).1
theorem _root_.Go.RowKit.Below.row {B : Nat} {w w' : World} (h : Below B w w') (g : Nat) (cs : Array Value) (hg : B ≤ g) : Below B w (w'.setRow g cs) :=
  ⟨h.os, h.tape, h.output, by rw [setRow_size]; exact h.size, fun k hk => (setRow_other w' g k cs (by omega)).trans (h.block k hk)⟩
theorem piece_size (p : PieceD) : (Tryz.prog.info? 67).map (·.size) = some (pieceCells p).size := by kernel_rfl
theorem pieceCells_one (p : PieceD) : (pieceCells p).all (·.oneCell') = true := by simp [pieceCells, Value.oneCell']
theorem load_piece {W : World} {b : Nat} {p : PieceD} (h : PieceAt W b p) : (loadVar 67 ⟨b, 0, none⟩).run Tryz.prog W = .ok (.agg (pieceCells p)) W :=
  run_loadVar_row W b 67 67 (pieceCells p) (0, 0) _ h Tryz.underlying67 rfl (piece_size p)
theorem drop1_le (t : ByteArray) : (drop1 t).size ≤ t.size := by unfold drop1; rw [ByteArray.size_extract]; omega
theorem digR_le (t : ByteArray) : (digR t).size ≤ t.size := by unfold digR; rw [ByteArray.size_extract]; omega
theorem flagsF_le : ∀ (n : Nat) (t : ByteArray) (f : SpecD), (flagsF n t f).2.size ≤ t.size
  | 0, t, f => Nat.le_refl _
  | n + 1, t, f => by
    unfold flagsF
    have h := drop1_le t
    split
    · exact Nat.le_trans (flagsF_le n _ _) h
    split
    · exact Nat.le_trans (flagsF_le n _ _) h
    split
    · exact Nat.le_trans (flagsF_le n _ _) h
    split
    · exact Nat.le_trans (flagsF_le n _ _) h
    split
    · exact Nat.le_trans (flagsF_le n _ _) h
    · exact Nat.le_refl _
theorem indexR_le (t : ByteArray) : (indexR t).size ≤ t.size := by
  have h1 := drop1_le t
  have h2 := digR_le (drop1 t)
  have h3 := drop1_le (digR (drop1 t))
  unfold indexR
  split
  · split <;> omega
  · exact Nat.le_refl _
theorem numI_le (t : ByteArray) (x : IdxD) (z : Bool) : (numI t x z).rest.size ≤ t.size := by
  have h1 := drop1_le t
  have h2 := digR_le t
  unfold numI
  split
  · exact h1
  · split
    · exact h2
    · split <;> exact Nat.le_refl _
theorem dir1_le (t : ByteArray) : (dir1 t).rest.size ≤ t.size := by
  have hf := flagsF_le t.size t specN
  unfold dir1
  generalize flagsF t.size t specN = y at hf ⊢
  exact Nat.le_trans (numI_le (indexR y.2) (indexI y.2) false) (Nat.le_trans (indexR_le y.2) hf)
theorem dir2_pos (p : PieceD) (u : ByteArray) (h : bt u 0 = 46) : (dir2 ⟨p, u⟩).rest = (numI (indexR (drop1 u)) (indexI (drop1 u)) true).rest := by
  unfold dir2
  rw [if_pos h]
theorem dir2_neg (p : PieceD) (u : ByteArray) (h : ¬ bt u 0 = 46) : (dir2 ⟨p, u⟩).rest = u := by
  unfold dir2
  rw [if_neg h]
theorem dir2_le (d : DirR) : (dir2 d).rest.size ≤ d.rest.size := by
  obtain ⟨p, u⟩ := d
  have h1 := numI_le (indexR (drop1 u)) (indexI (drop1 u)) true
  have h2 := indexR_le (drop1 u)
  have h3 := drop1_le u
  by_cases h : bt u 0 = 46
  · rw [dir2_pos p u h]
    exact Nat.le_trans h1 (Nat.le_trans h2 h3)
  · rw [dir2_neg p u h]
    exact Nat.le_refl _
theorem dir3_le (d : DirR) : (dir3 d).rest.size ≤ d.rest.size := by
  unfold dir3
  exact indexR_le d.rest
theorem dir4_le (d : DirR) : (dir4 d).rest.size ≤ d.rest.size := by
  obtain ⟨p, u⟩ := d
  unfold dir4
  by_cases h : u.size = 0
  · rw [if_pos h]; exact Nat.le_refl _
  · rw [if_neg h]
    show (u.extract (runeD u).2 u.size).size ≤ u.size
    rw [ByteArray.size_extract]
    omega
theorem dir_le (t : ByteArray) : (dir4 (dir3 (dir2 (dir1 t)))).rest.size ≤ t.size :=
  Nat.le_trans (dir4_le _) (Nat.le_trans (dir3_le _) (Nat.le_trans (dir2_le _) (dir1_le t)))
theorem DirW.wid {w W : World} {r b bx pb : Nat} {p : PieceD} {u : ByteArray} (h : DirW w W r b bx pb p u) (a0 a1 a2 a3 : Int) :
    DirW w ((((W.setCell ⟨pb, 10, none⟩ (.int .i64 a0)).setCell ⟨pb, 11, none⟩ (.int .i64 a1)).setCell ⟨pb, 12, none⟩ (.int .i64 a2)).setCell ⟨pb, 13, none⟩ (.int .i64 a3)) r b bx pb { p with wid := ⟨a0, a1, ⟨a2, a3⟩⟩ } u :=
  (((h.cell 10 _ { p with wid := { p.wid with kind := a0 } } (by simp [pieceCells])).cell 11 _ { p with wid := { p.wid with kind := a0, n := a1 } } (by simp [pieceCells])).cell 12 _ { p with wid := ⟨a0, a1, { p.wid.arg with kind := a2 }⟩ } (by simp [pieceCells])).cell 13 _ { p with wid := ⟨a0, a1, ⟨a2, a3⟩⟩ } (by simp [pieceCells])
theorem DirW.prec {w W : World} {r b bx pb : Nat} {p : PieceD} {u : ByteArray} (h : DirW w W r b bx pb p u) (a0 a1 a2 a3 : Int) :
    DirW w ((((W.setCell ⟨pb, 14, none⟩ (.int .i64 a0)).setCell ⟨pb, 15, none⟩ (.int .i64 a1)).setCell ⟨pb, 16, none⟩ (.int .i64 a2)).setCell ⟨pb, 17, none⟩ (.int .i64 a3)) r b bx pb { p with prec := ⟨a0, a1, ⟨a2, a3⟩⟩ } u :=
  (((h.cell 14 _ { p with prec := { p.prec with kind := a0 } } (by simp [pieceCells])).cell 15 _ { p with prec := { p.prec with kind := a0, n := a1 } } (by simp [pieceCells])).cell 16 _ { p with prec := ⟨a0, a1, { p.prec.arg with kind := a2 }⟩ } (by simp [pieceCells])).cell 17 _ { p with prec := ⟨a0, a1, ⟨a2, a3⟩⟩ } (by simp [pieceCells])
theorem DirW.arg {w W : World} {r b bx pb : Nat} {p : PieceD} {u : ByteArray} (h : DirW w W r b bx pb p u) (a0 a1 : Int) :
    DirW w ((W.setCell ⟨pb, 18, none⟩ (.int .i64 a0)).setCell ⟨pb, 19, none⟩ (.int .i64 a1)) r b bx pb { p with arg := ⟨a0, a1⟩ } u :=
  (h.cell 18 _ { p with arg := { p.arg with kind := a0 } } (by simp [pieceCells])).cell 19 _ { p with arg := ⟨a0, a1⟩ } (by simp [pieceCells])
set_option maxHeartbeats 4000000 in
set_option maxRecDepth 1000000 in
theorem directive_any (t : ByteArray) (w : World) (hT : Lib.Utf8Tabs 1 2 w) (hs : t.size ≤ 140737488355328) :
    Calls Tryz.prog 43 #[.string t] w (fun e w' => e = .returned (.tuple #[.agg (pieceCells (dirD t).piece), .string (dirD t).rest]) ∧ Below w.heap.size w w') := by
  have HT := Lib.hid hT
  clear hT
  go_enter Tryz.func43, Tryz.ntmps43
  go_upto_region 1 with fail
  have n1 : (w.alloc (.cells #[.int .i64 0, .string ⟨#[]⟩, .bool false, .bool false, .bool false, .bool false, .bool false, .int .i64 0, .int .i64 0, .int .i32 0, .int .i64 0, .int .i64 0, .int .i64 0, .int .i64 0, .int .i64 0, .int .i64 0, .int .i64 0, .int .i64 0, .int .i64 0, .int .i64 0] 67)).heap.size = w.heap.size + 1 := by simp
  have hz : PieceAt (w.alloc (.cells #[.int .i64 0, .string ⟨#[]⟩, .bool false, .bool false, .bool false, .bool false, .bool false, .int .i64 0, .int .i64 0, .int .i32 0, .int .i64 0, .int .i64 0, .int .i64 0, .int .i64 0, .int .i64 0, .int .i64 0, .int .i64 0, .int .i64 0, .int .i64 0, .int .i64 0] 67)) w.heap.size pieceZ := heap_alloc_new w _
  have hb := Below.new (w := w) (.cells #[.int .i64 0, .string ⟨#[]⟩, .bool false, .bool false, .bool false, .bool false, .bool false, .int .i64 0, .int .i64 0, .int .i32 0, .int .i64 0, .int .i64 0, .int .i64 0, .int .i64 0, .int .i64 0, .int .i64 0, .int .i64 0, .int .i64 0, .int .i64 0, .int .i64 0] 67)
  generalize w.alloc (.cells #[.int .i64 0, .string ⟨#[]⟩, .bool false, .bool false, .bool false, .bool false, .bool false, .int .i64 0, .int .i64 0, .int .i32 0, .int .i64 0, .int .i64 0, .int .i64 0, .int .i64 0, .int .i64 0, .int .i64 0, .int .i64 0, .int .i64 0, .int .i64 0, .int .i64 0] 67) = W0 at n1 hz hb ⊢
  have h1 : (W0.alloc (.cells #[.int .i64 0, .string ⟨#[]⟩, .bool false, .bool false, .bool false, .bool false, .bool false, .int .i64 0, .int .i64 0, .int .i32 0, .int .i64 0, .int .i64 0, .int .i64 0, .int .i64 0, .int .i64 0, .int .i64 0, .int .i64 0, .int .i64 0, .int .i64 0, .int .i64 0] 67)).heap[w.heap.size + 1]? = some (.cells #[.int .i64 0, .string ⟨#[]⟩, .bool false, .bool false, .bool false, .bool false, .bool false, .int .i64 0, .int .i64 0, .int .i32 0, .int .i64 0, .int .i64 0, .int .i64 0, .int .i64 0, .int .i64 0, .int .i64 0, .int .i64 0, .int .i64 0, .int .i64 0, .int .i64 0] 67 (0, 0)) := by
    rw [← n1]; exact heap_alloc_new W0 _
  have H1 := Lib.hid h1
  clear h1
  go_wp2_with (refine wpList_store_row (by rfl) 67 _ _ (by rfl) (w.heap.size + 1) #[.int .i64 2, .string ⟨#[]⟩, .bool false, .bool false, .bool false, .bool false, .bool false, .int .i64 (-1), .int .i64 (-1), .int .i32 0, .int .i64 0, .int .i64 0, .int .i64 0, .int .i64 0, .int .i64 0, .int .i64 0, .int .i64 0, .int .i64 0, .int .i64 0, .int .i64 0] (by rfl) (by rfl) 67 #[.int .i64 0, .string ⟨#[]⟩, .bool false, .bool false, .bool false, .bool false, .bool false, .int .i64 0, .int .i64 0, .int .i32 0, .int .i64 0, .int .i64 0, .int .i64 0, .int .i64 0, .int .i64 0, .int .i64 0, .int .i64 0, .int .i64 0, .int .i64 0, .int .i64 0] H1.out (by kernel_rfl) (by rfl) (by simp [Value.oneCell']) ?_)
  have hset : (W0.alloc (.cells #[.int .i64 0, .string ⟨#[]⟩, .bool false, .bool false, .bool false, .bool false, .bool false, .int .i64 0, .int .i64 0, .int .i32 0, .int .i64 0, .int .i64 0, .int .i64 0, .int .i64 0, .int .i64 0, .int .i64 0, .int .i64 0, .int .i64 0, .int .i64 0, .int .i64 0] 67)).setRow (w.heap.size + 1) #[.int .i64 2, .string ⟨#[]⟩, .bool false, .bool false, .bool false, .bool false, .bool false, .int .i64 (-1), .int .i64 (-1), .int .i32 0, .int .i64 0, .int .i64 0, .int .i64 0, .int .i64 0, .int .i64 0, .int .i64 0, .int .i64 0, .int .i64 0, .int .i64 0, .int .i64 0] = W0.alloc (.cells #[.int .i64 2, .string ⟨#[]⟩, .bool false, .bool false, .bool false, .bool false, .bool false, .int .i64 (-1), .int .i64 (-1), .int .i32 0, .int .i64 0, .int .i64 0, .int .i64 0, .int .i64 0, .int .i64 0, .int .i64 0, .int .i64 0, .int .i64 0, .int .i64 0, .int .i64 0] 67) := by rw [← n1]; exact World.setRow_alloc_new W0 _ _ _
  rw [hset]
  have hp : PieceAt (W0.alloc (.cells #[.int .i64 2, .string ⟨#[]⟩, .bool false, .bool false, .bool false, .bool false, .bool false, .int .i64 (-1), .int .i64 (-1), .int .i32 0, .int .i64 0, .int .i64 0, .int .i64 0, .int .i64 0, .int .i64 0, .int .i64 0, .int .i64 0, .int .i64 0, .int .i64 0, .int .i64 0] 67)) (w.heap.size + 1) pieceN := by rw [← n1]; exact heap_alloc_new W0 _
  have hz2 : PieceAt (W0.alloc (.cells #[.int .i64 2, .string ⟨#[]⟩, .bool false, .bool false, .bool false, .bool false, .bool false, .int .i64 (-1), .int .i64 (-1), .int .i32 0, .int .i64 0, .int .i64 0, .int .i64 0, .int .i64 0, .int .i64 0, .int .i64 0, .int .i64 0, .int .i64 0, .int .i64 0, .int .i64 0] 67)) w.heap.size pieceZ := hz.keep (heap_alloc_old _ _ hz.lt)
  have hb2 := hb.push (.cells #[.int .i64 2, .string ⟨#[]⟩, .bool false, .bool false, .bool false, .bool false, .bool false, .int .i64 (-1), .int .i64 (-1), .int .i32 0, .int .i64 0, .int .i64 0, .int .i64 0, .int .i64 0, .int .i64 0, .int .i64 0, .int .i64 0, .int .i64 0, .int .i64 0, .int .i64 0] 67)
  have hsz : (W0.alloc (.cells #[.int .i64 2, .string ⟨#[]⟩, .bool false, .bool false, .bool false, .bool false, .bool false, .int .i64 (-1), .int .i64 (-1), .int .i32 0, .int .i64 0, .int .i64 0, .int .i64 0, .int .i64 0, .int .i64 0, .int .i64 0, .int .i64 0, .int .i64 0, .int .i64 0, .int .i64 0] 67)).heap.size = w.heap.size + 1 + 1 := by rw [← n1]; simp
  clear hset hz hb H1
  generalize W0.alloc (.cells #[.int .i64 2, .string ⟨#[]⟩, .bool false, .bool false, .bool false, .bool false, .bool false, .int .i64 (-1), .int .i64 (-1), .int .i32 0, .int .i64 0, .int .i64 0, .int .i64 0, .int .i64 0, .int .i64 0, .int .i64 0, .int .i64 0, .int .i64 0, .int .i64 0, .int .i64 0] 67) = W1 at hp hz2 hb2 hsz ⊢
  have HRD := reading_any t W1
  have HBG := fun W' h1 h2 => DirW.begin w t W1 hp hz2 hb2 hsz W' h1 h2
  rw [hsz] at HRD HBG
  refine HRD.mono ?_
  rintro e W2 ⟨rfl, hr2, hb3⟩
  have HD := Lib.hid (HBG W2 hr2 (hsz ▸ hb3))
  clear HRD HBG hr2 hb3 hp hz2 hb2 hsz n1
  go_upto_region 3 with fail
  have hd := HD.out
  go_wp2_with fail
  refine (flags_any (w.heap.size + 1 + 1) (w.heap.size + 1 + 1 + 1) (w.heap.size + 1) t pieceN W2 hd.rdr hd.pc hd.n1 hd.n2 hs).mono ?_
  rintro e W3 ⟨rfl, hr3, hp3, ht3⟩
  have HD3 := Lib.hid (hd.two ht3 hr3 hp3)
  clear hd HD hr3 hp3 ht3 W2
  have hfl := flagsF_le t.size t pieceN.spec
  obtain ⟨⟨f, u⟩, hfe⟩ : ∃ y, flagsF t.size t pieceN.spec = y := ⟨_, rfl⟩
  rw [hfe] at HD3 hfl
  have HFE := Lib.hid hfe
  clear hfe
  have hsu : u.size ≤ 140737488355328 := Nat.le_trans hfl hs
  have hiu := indexR_le u
  go_wp2_with fail
  refine (rindex_any (w.heap.size + 1 + 1) (w.heap.size + 1 + 1 + 1) u W3 HD3.out.rdr hsu).mono ?_
  rintro e W4 ⟨rfl, hr4, ho4⟩
  have HD4 := Lib.hid (HD3.out.one ho4 hr4)
  clear hr4 ho4 HD3
  obtain ⟨u2, hu2⟩ : ∃ y, indexR u = y := ⟨_, rfl⟩
  obtain ⟨x1, hx1⟩ : ∃ y, indexI u = y := ⟨_, rfl⟩
  rw [hu2] at HD4 hiu
  rw [hx1]
  have HU2 := Lib.hid hu2
  have HX1 := Lib.hid hx1
  clear hu2 hx1
  have hnu := numI_le u2 x1 false
  go_wp2_with fail
  refine (num_any (w.heap.size + 1 + 1) (w.heap.size + 1 + 1 + 1) u2 x1 false W4 HD4.out.rdr (by omega)).mono ?_
  rintro e W5 ⟨rfl, hr5, ho5⟩
  have HD5 := Lib.hid (HD4.out.one ho5 hr5)
  clear hr5 ho5 HD4
  obtain ⟨⟨⟨nk, nn, ⟨nak, nan⟩⟩, ⟨ak, an⟩, u3⟩, hn1⟩ : ∃ y, numI u2 x1 false = y := ⟨_, rfl⟩
  rw [hn1] at HD5 hnu ⊢
  have HN1 := Lib.hid hn1
  clear hn1
  have c10 : W5.cell? ⟨w.heap.size + 1, 10, none⟩ = some (.int .i64 0) := cell_of_heap' HD5.out.pc 10
  have z10 : W5.frozen? ⟨w.heap.size + 1, 10, none⟩ = false := frozen_of_heap' HD5.out.pc 10
  have c11 : W5.cell? ⟨w.heap.size + 1, 11, none⟩ = some (.int .i64 0) := cell_of_heap' HD5.out.pc 11
  have z11 : W5.frozen? ⟨w.heap.size + 1, 11, none⟩ = false := frozen_of_heap' HD5.out.pc 11
  have c12 : W5.cell? ⟨w.heap.size + 1, 12, none⟩ = some (.int .i64 0) := cell_of_heap' HD5.out.pc 12
  have z12 : W5.frozen? ⟨w.heap.size + 1, 12, none⟩ = false := frozen_of_heap' HD5.out.pc 12
  have c13 : W5.cell? ⟨w.heap.size + 1, 13, none⟩ = some (.int .i64 0) := cell_of_heap' HD5.out.pc 13
  have z13 : W5.frozen? ⟨w.heap.size + 1, 13, none⟩ = false := frozen_of_heap' HD5.out.pc 13
  have c18 : W5.cell? ⟨w.heap.size + 1, 18, none⟩ = some (.int .i64 0) := cell_of_heap' HD5.out.pc 18
  have z18 : W5.frozen? ⟨w.heap.size + 1, 18, none⟩ = false := frozen_of_heap' HD5.out.pc 18
  have c19 : W5.cell? ⟨w.heap.size + 1, 19, none⟩ = some (.int .i64 0) := cell_of_heap' HD5.out.pc 19
  have z19 : W5.frozen? ⟨w.heap.size + 1, 19, none⟩ = false := frozen_of_heap' HD5.out.pc 19
  have HD6 := Lib.hid ((HD5.out.wid nk nn nak nan).arg ak an)
  have HP1 : Hid (dir1 t = ⟨{ pieceN with spec := f, wid := ⟨nk, nn, ⟨nak, nan⟩⟩, arg := ⟨ak, an⟩ }, u3⟩) := by
    show _ = _
    unfold dir1
    have e := HFE.out
    have e2 : pieceN.spec = specN := rfl
    rw [e2] at e
    simp only [e, HU2.out, HX1.out, HN1.out]
  obtain ⟨p1, hp1⟩ : ∃ y : PieceD, { pieceN with spec := f, wid := ⟨nk, nn, ⟨nak, nan⟩⟩, arg := ⟨ak, an⟩ } = y := ⟨_, rfl⟩
  have HD7 : Hid (DirW w ((((((W5.setCell ⟨w.heap.size + 1, 10, none⟩ (.int .i64 nk)).setCell ⟨w.heap.size + 1, 11, none⟩ (.int .i64 nn)).setCell ⟨w.heap.size + 1, 12, none⟩ (.int .i64 nak)).setCell ⟨w.heap.size + 1, 13, none⟩ (.int .i64 nan)).setCell ⟨w.heap.size + 1, 18, none⟩ (.int .i64 ak)).setCell ⟨w.heap.size + 1, 19, none⟩ (.int .i64 an)) w.heap.size (w.heap.size + 1 + 1) (w.heap.size + 1 + 1 + 1) (w.heap.size + 1) p1 u3) := by
    rw [← hp1]; exact HD6
  rw [hp1] at HP1
  have hsu3 : u3.size ≤ 140737488355328 := by
    have h : u3.size ≤ u2.size := hnu
    omega
  clear hp1 HD6 HFE HU2 HX1 HN1 hnu hiu hfl hsu
  go_upto_region 5 with fail
  generalize (((((W5.setCell ⟨w.heap.size + 1, 10, none⟩ (.int .i64 nk)).setCell ⟨w.heap.size + 1, 11, none⟩ (.int .i64 nn)).setCell ⟨w.heap.size + 1, 12, none⟩ (.int .i64 nak)).setCell ⟨w.heap.size + 1, 13, none⟩ (.int .i64 nan)).setCell ⟨w.heap.size + 1, 18, none⟩ (.int .i64 ak)).setCell ⟨w.heap.size + 1, 19, none⟩ (.int .i64 an) = W6 at HD7 ⊢
  clear c10 c11 c12 c13 c18 c19 z10 z11 z12 z13 z18 z19 HD5
  obtain ⟨r0, r1, rx, rf, rne⟩ := HD7.out.rdr
  obtain ⟨c, hc⟩ : ∃ c, bt u3 0 = c := ⟨_, rfl⟩
  have HC := Lib.hid hc
  have HPK : Hid (Calls Tryz.prog 99 #[.pointer (some ⟨w.heap.size + 1 + 1 + 1, 0, none⟩)] W6 fun e w' => e = .returned (.int .u8 (c : Int)) ∧ W6 = w') := by
    rw [← hc]; exact Lib.hid (peek_any (w.heap.size + 1 + 1) (w.heap.size + 1 + 1 + 1) u3 W6 HD7.out.rdr)
  clear hc
  go_wp2_with fail
  refine HPK.out.mono ?_
  rintro e w7 ⟨rfl, rfl⟩
  clear HPK r0 r1 rx rf rne
  obtain ⟨⟨p2, u4⟩, hp2⟩ : ∃ y, dir2 ⟨p1, u3⟩ = y := ⟨_, rfl⟩
  have HP2 := Lib.hid hp2
  clear hp2
  go_upto_if 31 with fail
  go_cut [31] (fun v31 wx => ∃ bb, v31 = .bool bb ∧ DirW w wx w.heap.size (w.heap.size + 1 + 1) (w.heap.size + 1 + 1 + 1) (w.heap.size + 1) p2 u4)
  case first =>
    by_cases h46 : c = 46
    · subst h46
      have ht3 : 0 < u3.size := by
        have h := HC.out
        unfold bt at h
        split at h
        · assumption
        · omega
      have HQ : Hid (dir2 ⟨p1, u3⟩ = ⟨{ p1 with prec := (numI (indexR (drop1 u3)) (indexI (drop1 u3)) true).num, arg := andI (spoiltI p1.arg) (numI (indexR (drop1 u3)) (indexI (drop1 u3)) true).arg }, (numI (indexR (drop1 u3)) (indexI (drop1 u3)) true).rest⟩) := by
        show _ = _
        unfold dir2
        rw [if_pos (show bt u3 0 = 46 from HC.out)]
      have HD8 := Lib.hid (HD7.out.one ((One.refl (w.heap.size + 1 + 1) W6).put 0 (.string (drop1 u3))) (HD7.out.rdr.put (drop1 u3)))
      obtain ⟨r0, r1, rx, rf, rne⟩ := HD7.out.rdr
      go_upto_region 7 with fail
      change Code.wp _ _ _ _ (W6.setCell ⟨w.heap.size + 1 + 1, 0, none⟩ (.string (drop1 u3)))
      generalize W6.setCell ⟨w.heap.size + 1 + 1, 0, none⟩ (.string (drop1 u3)) = W8 at HD8 ⊢
      clear r0 r1 rx rf rne HD7 ht3
      have hsu4 : (drop1 u3).size ≤ 140737488355328 := Nat.le_trans (drop1_le u3) hsu3
      obtain ⟨v0, hv0⟩ : ∃ y, drop1 u3 = y := ⟨_, rfl⟩
      rw [hv0] at HD8 HQ hsu4
      clear hv0
      obtain ⟨pk, pt, ps, pw, pp, ⟨qk, qn⟩⟩ := p1
      have c18 : W8.cell? ⟨w.heap.size + 1, 18, none⟩ = some (.int .i64 qk) := cell_of_heap' HD8.out.pc 18
      have c19 : W8.cell? ⟨w.heap.size + 1, 19, none⟩ = some (.int .i64 qn) := cell_of_heap' HD8.out.pc 19
      go_wp2_with fail
      refine (spoilt_any ⟨qk, qn⟩ W8).mono ?_
      rintro e W9 ⟨rfl, hB9⟩
      have HD9 := Lib.hid (HD8.out.later hB9)
      clear hB9 HD8 c18 c19
      obtain ⟨⟨sk, sn⟩, hsp⟩ : ∃ y, spoiltI ⟨qk, qn⟩ = y := ⟨_, rfl⟩
      rw [hsp]
      have HSP := Lib.hid hsp
      clear hsp
      have c18 : W9.cell? ⟨w.heap.size + 1, 18, none⟩ = some (.int .i64 qk) := cell_of_heap' HD9.out.pc 18
      have c19 : W9.cell? ⟨w.heap.size + 1, 19, none⟩ = some (.int .i64 qn) := cell_of_heap' HD9.out.pc 19
      have z18 : W9.frozen? ⟨w.heap.size + 1, 18, none⟩ = false := frozen_of_heap' HD9.out.pc 18
      have z19 : W9.frozen? ⟨w.heap.size + 1, 19, none⟩ = false := frozen_of_heap' HD9.out.pc 19
      have HD10 := Lib.hid (HD9.out.arg sk sn)
      go_upto_region 8 with fail
      change Code.wp _ _ _ _ ((W9.setCell ⟨w.heap.size + 1, 18, none⟩ (.int .i64 sk)).setCell ⟨w.heap.size + 1, 19, none⟩ (.int .i64 sn))
      generalize (W9.setCell ⟨w.heap.size + 1, 18, none⟩ (.int .i64 sk)).setCell ⟨w.heap.size + 1, 19, none⟩ (.int .i64 sn) = W10 at HD10 ⊢
      clear c18 c19 z18 z19 HD9
      have hiv := indexR_le v0
      go_wp2_with fail
      refine (rindex_any (w.heap.size + 1 + 1) (w.heap.size + 1 + 1 + 1) v0 W10 HD10.out.rdr hsu4).mono ?_
      rintro e W11 ⟨rfl, hr11, ho11⟩
      have HD11 := Lib.hid (HD10.out.one ho11 hr11)
      clear hr11 ho11 HD10
      obtain ⟨v1, hv1⟩ : ∃ y, indexR v0 = y := ⟨_, rfl⟩
      obtain ⟨x2, hx2⟩ : ∃ y, indexI v0 = y := ⟨_, rfl⟩
      rw [hv1] at HD11 hiv HQ
      rw [hx2] at HQ ⊢
      clear hv1 hx2
      go_wp2_with fail
      refine (num_any (w.heap.size + 1 + 1) (w.heap.size + 1 + 1 + 1) v1 x2 true W11 HD11.out.rdr (by omega)).mono ?_
      rintro e W12 ⟨rfl, hr12, ho12⟩
      have HD12 := Lib.hid (HD11.out.one ho12 hr12)
      clear hr12 ho12 HD11
      obtain ⟨⟨⟨mk, mn, ⟨mak, man⟩⟩, ⟨bk, bn⟩, u5⟩, hn2⟩ : ∃ y, numI v1 x2 true = y := ⟨_, rfl⟩
      rw [hn2] at HD12 HQ ⊢
      clear hn2
      have n1 : (W12.alloc (.cells #[.int .i64 mk, .int .i64 mn, .int .i64 mak, .int .i64 man] 65)).heap.size = W12.heap.size + 1 := by simp
      have hA := heap_alloc_old (w := W12.alloc (.cells #[.int .i64 mk, .int .i64 mn, .int .i64 mak, .int .i64 man] 65)) (.cells #[.int .i64 bk, .int .i64 bn] 63) (r := W12.heap.size) (by omega)
      rw [heap_alloc_new] at hA
      have hB := heap_alloc_new (W12.alloc (.cells #[.int .i64 mk, .int .i64 mn, .int .i64 mak, .int .i64 man] 65)) (.cells #[.int .i64 bk, .int .i64 bn] 63)
      rw [n1] at hB
      have HA := Lib.hid hA
      have HB := Lib.hid hB
      have HD13 := Lib.hid (HD12.out.later ((Below.new (w := W12) (.cells #[.int .i64 mk, .int .i64 mn, .int .i64 mak, .int .i64 man] 65)).push (.cells #[.int .i64 bk, .int .i64 bn] 63)))
      clear n1 hA hB
      obtain ⟨⟨gk, gn⟩, hand⟩ : ∃ y, andI ⟨sk, sn⟩ ⟨bk, bn⟩ = y := ⟨_, rfl⟩
      have HAND : Hid (∀ W, Calls Tryz.prog 76 #[.agg #[.int .i64 sk, .int .i64 sn], .agg #[.int .i64 bk, .int .i64 bn]] W (Ret W (.agg #[.int .i64 gk, .int .i64 gn]))) := by
        have h := and_any ⟨sk, sn⟩ ⟨bk, bn⟩
        rw [hand] at h
        exact Lib.hid h
      have HG := Lib.hid hand
      clear hand
      go_upto_region 9 with fail
      generalize (W12.alloc (.cells #[.int .i64 mk, .int .i64 mn, .int .i64 mak, .int .i64 man] 65)).alloc (.cells #[.int .i64 bk, .int .i64 bn] 63) = W13 at HA HB HD13 ⊢
      have a0 : W13.cell? ⟨W12.heap.size, 0, none⟩ = some (.int .i64 mk) := cell_of_heap' HA.out 0
      have a1 : W13.cell? ⟨W12.heap.size, 1, none⟩ = some (.int .i64 mn) := cell_of_heap' HA.out 1
      have a2 : W13.cell? ⟨W12.heap.size, 2, none⟩ = some (.int .i64 mak) := cell_of_heap' HA.out 2
      have a3 : W13.cell? ⟨W12.heap.size, 3, none⟩ = some (.int .i64 man) := cell_of_heap' HA.out 3
      have b0 : W13.cell? ⟨W12.heap.size + 1, 0, none⟩ = some (.int .i64 bk) := cell_of_heap' HB.out 0
      have b1 : W13.cell? ⟨W12.heap.size + 1, 1, none⟩ = some (.int .i64 bn) := cell_of_heap' HB.out 1
      have c18 : W13.cell? ⟨w.heap.size + 1, 18, none⟩ = some (.int .i64 sk) := cell_of_heap' HD13.out.pc 18
      have c19 : W13.cell? ⟨w.heap.size + 1, 19, none⟩ = some (.int .i64 sn) := cell_of_heap' HD13.out.pc 19
      have HD := Lib.hid (HD13.out.later (Below.refl _ W13).drew)
      have HA := Lib.hid (((Below.refl W13.heap.size W13).drew.block _ (World.block_lt_of_cell? W13 _ a0)).trans HA.out)
      have HB := Lib.hid (((Below.refl W13.heap.size W13).drew.block _ (World.block_lt_of_cell? W13 _ b0)).trans HB.out)
      have HL := Lib.hid (And.intro (World.block_lt_of_cell? W13.drew _ (cell_of_heap' HA.out 0)) (World.block_lt_of_cell? W13.drew _ (cell_of_heap' HB.out 0)))
      go_region_with
        ((with_reducible refine (HAND.out _).mono ?_); rintro e wd ⟨rfl, hwd⟩; have HD := Lib.hid (HD.out.later hwd); have HA := Lib.hid ((hwd.block _ HL.out.1).trans HA.out); have HB := Lib.hid ((hwd.block _ HL.out.2).trans HB.out); clear hwd a0 a1 a2 a3 b0 b1 c18 c19; have a0 : wd.cell? ⟨W12.heap.size, 0, none⟩ = some (.int .i64 mk) := cell_of_heap' HA.out 0; have a1 : wd.cell? ⟨W12.heap.size, 1, none⟩ = some (.int .i64 mn) := cell_of_heap' HA.out 1; have a2 : wd.cell? ⟨W12.heap.size, 2, none⟩ = some (.int .i64 mak) := cell_of_heap' HA.out 2; have a3 : wd.cell? ⟨W12.heap.size, 3, none⟩ = some (.int .i64 man) := cell_of_heap' HA.out 3; have b0 : wd.cell? ⟨W12.heap.size + 1, 0, none⟩ = some (.int .i64 bk) := cell_of_heap' HB.out 0; have b1 : wd.cell? ⟨W12.heap.size + 1, 1, none⟩ = some (.int .i64 bn) := cell_of_heap' HB.out 1; have c18 : wd.cell? ⟨w.heap.size + 1, 18, none⟩ = some (.int .i64 sk) := cell_of_heap' HD.out.pc 18; have c19 : wd.cell? ⟨w.heap.size + 1, 19, none⟩ = some (.int .i64 sn) := cell_of_heap' HD.out.pc 19; have c14 : wd.cell? ⟨w.heap.size + 1, 14, none⟩ = some (.int .i64 pp.kind) := cell_of_heap' HD.out.pc 14; have c15 : wd.cell? ⟨w.heap.size + 1, 15, none⟩ = some (.int .i64 pp.n) := cell_of_heap' HD.out.pc 15; have c16 : wd.cell? ⟨w.heap.size + 1, 16, none⟩ = some (.int .i64 pp.arg.kind) := cell_of_heap' HD.out.pc 16; have c17 : wd.cell? ⟨w.heap.size + 1, 17, none⟩ = some (.int .i64 pp.arg.n) := cell_of_heap' HD.out.pc 17; have z14 : wd.frozen? ⟨w.heap.size + 1, 14, none⟩ = false := frozen_of_heap' HD.out.pc 14; have z15 : wd.frozen? ⟨w.heap.size + 1, 15, none⟩ = false := frozen_of_heap' HD.out.pc 15; have z16 : wd.frozen? ⟨w.heap.size + 1, 16, none⟩ = false := frozen_of_heap' HD.out.pc 16; have z17 : wd.frozen? ⟨w.heap.size + 1, 17, none⟩ = false := frozen_of_heap' HD.out.pc 17; have z18 : wd.frozen? ⟨w.heap.size + 1, 18, none⟩ = false := frozen_of_heap' HD.out.pc 18; have z19 : wd.frozen? ⟨w.heap.size + 1, 19, none⟩ = false := frozen_of_heap' HD.out.pc 19)
      all_goals
        have HF := Lib.hid ((HD.out.prec mk mn mak man).arg gk gn)
        clear a0 a1 a2 a3 b0 b1 c14 c15 c16 c17 c18 c19 z14 z15 z16 z17 z18 z19
        go_wp2_with fail
        go_meet
        refine ⟨_, rfl, ?_⟩
        obtain ⟨e1, e2⟩ := DirR.mk.inj (HQ.out.symm.trans HP2.out)
        have e3 : andI (spoiltI ⟨qk, qn⟩) ⟨bk, bn⟩ = ⟨gk, gn⟩ := by rw [HSP.out]; exact HG.out
        rw [← e1, ← e2]
        show DirW _ _ _ _ _ _ { kind := pk, text := pt, spec := ps, wid := pw, prec := ⟨mk, mn, ⟨mak, man⟩⟩, arg := andI (spoiltI ⟨qk, qn⟩) ⟨bk, bn⟩ } u5
        rw [e3]
        exact HF.out
    · have e46 : ((c : Int) == 46) = false := by simp; omega
      have hq : dir2 ⟨p1, u3⟩ = ⟨p1, u3⟩ := by unfold dir2; rw [if_neg (by show ¬ bt u3 0 = 46; rw [HC.out]; exact h46)]
      have hq2 := HP2.out
      rw [hq] at hq2
      obtain ⟨rfl, rfl⟩ := DirR.mk.inj hq2
      clear hq hq2 HP2 HC
      go_wp2_with fail
      go_meet
      exact ⟨_, rfl, HD7.out⟩
  case rest =>
  obtain ⟨bb, rfl, hdc⟩ := hcut
  have HD14 := Lib.hid hdc
  clear hdc HD7
  apply_assumption
  have hsu4 : u4.size ≤ 140737488355328 := by
    have h1 := HP2.out
    have h2 : (dir2 ⟨p1, u3⟩).rest.size ≤ u3.size := by
      unfold dir2
      split
      · exact Nat.le_trans (numI_le _ _ _) (Nat.le_trans (indexR_le _) (drop1_le _))
      · exact Nat.le_refl _
    rw [h1] at h2
    exact Nat.le_trans h2 hsu3
  obtain ⟨x3, hx3⟩ : ∃ y, indexI u4 = y := ⟨_, rfl⟩
  obtain ⟨u5, hu5⟩ : ∃ y, indexR u4 = y := ⟨_, rfl⟩
  have hsu5 : u5.size ≤ 140737488355328 := by rw [← hu5]; exact Nat.le_trans (indexR_le u4) hsu4
  have HIX : Hid (∀ W, Rdr W (w.heap.size + 1 + 1) (w.heap.size + 1 + 1 + 1) u4 → Calls Tryz.prog 74 #[.pointer (some ⟨w.heap.size + 1 + 1, 0, none⟩)] W (fun e w' => e = .returned (.agg #[.int .i64 x3.kind, .int .i64 x3.n]) ∧ Rdr w' (w.heap.size + 1 + 1) (w.heap.size + 1 + 1 + 1) u5 ∧ One (w.heap.size + 1 + 1) W w')) := by
    have h := fun W hr => rindex_any (w.heap.size + 1 + 1) (w.heap.size + 1 + 1 + 1) u4 W hr hsu4
    unfold IndexPost at h
    rw [hx3, hu5] at h
    exact Lib.hid h
  obtain ⟨pk, pt, ps, pw, pp, ⟨qk, qn⟩⟩ := p2
  obtain ⟨⟨gk, gn⟩, hand⟩ : ∃ y, andI ⟨qk, qn⟩ x3 = y := ⟨_, rfl⟩
  have HAND : Hid (∀ W, Calls Tryz.prog 76 #[.agg #[.int .i64 qk, .int .i64 qn], .agg #[.int .i64 x3.kind, .int .i64 x3.n]] W (Ret W (.agg #[.int .i64 gk, .int .i64 gn]))) := by
    have h := and_any ⟨qk, qn⟩ x3
    rw [hand] at h
    exact Lib.hid h
  have HP3 : Hid (dir3 ⟨⟨pk, pt, ps, pw, pp, ⟨qk, qn⟩⟩, u4⟩ = ⟨⟨pk, pt, ps, pw, pp, ⟨gk, gn⟩⟩, u5⟩) := by
    show _ = _
    unfold dir3
    simp only [hx3, hu5, hand]
  clear hx3 hu5 hand
  go_upto_region 10 with fail
  go_cut [58] (fun v58 wx => DirW w wx w.heap.size (w.heap.size + 1 + 1) (w.heap.size + 1 + 1 + 1) (w.heap.size + 1) ⟨pk, pt, ps, pw, pp, ⟨gk, gn⟩⟩ u5)
  case first =>
    have HD := HD14
    have c18 : wc.cell? ⟨w.heap.size + 1, 18, none⟩ = some (.int .i64 qk) := cell_of_heap' HD.out.pc 18
    have c19 : wc.cell? ⟨w.heap.size + 1, 19, none⟩ = some (.int .i64 qn) := cell_of_heap' HD.out.pc 19
    have HD := Lib.hid (HD14.out.later (Below.refl _ wc).drew)
    go_region_with (first
      | ((with_reducible refine (HIX.out _ HD.out.rdr).mono ?_); rintro e wa ⟨rfl, hra, hoa⟩; have HD := Lib.hid (HD.out.one hoa hra); clear hra hoa c18 c19; have c18 : wa.cell? ⟨w.heap.size + 1, 18, none⟩ = some (.int .i64 qk) := cell_of_heap' HD.out.pc 18; have c19 : wa.cell? ⟨w.heap.size + 1, 19, none⟩ = some (.int .i64 qn) := cell_of_heap' HD.out.pc 19)
      | ((with_reducible refine (HAND.out _).mono ?_); rintro e wb ⟨rfl, hwb⟩; have HD := Lib.hid (HD.out.later hwb); clear hwb c18 c19; have c18 : wb.cell? ⟨w.heap.size + 1, 18, none⟩ = some (.int .i64 qk) := cell_of_heap' HD.out.pc 18; have c19 : wb.cell? ⟨w.heap.size + 1, 19, none⟩ = some (.int .i64 qn) := cell_of_heap' HD.out.pc 19; have z18 : wb.frozen? ⟨w.heap.size + 1, 18, none⟩ = false := frozen_of_heap' HD.out.pc 18; have z19 : wb.frozen? ⟨w.heap.size + 1, 19, none⟩ = false := frozen_of_heap' HD.out.pc 19))
    all_goals
      have HF := Lib.hid (HD.out.arg gk gn)
      go_wp2_with fail
      go_meet
      exact HF.out
  case rest =>
  have HD15 := Lib.hid hcut
  clear hcut HD14 HAND HIX
  apply_assumption
  obtain ⟨⟨p4, u6⟩, hp4⟩ : ∃ y, dir4 ⟨⟨pk, pt, ps, pw, pp, ⟨gk, gn⟩⟩, u5⟩ = y := ⟨_, rfl⟩
  have HP4 := Lib.hid hp4
  clear hp4
  obtain ⟨r0, r1, rx, rf, rne⟩ := HD15.out.rdr
  obtain ⟨be, hbe⟩ : ∃ be, u5.toList.isEmpty = be := ⟨_, rfl⟩
  have HBE := Lib.hid hbe
  go_upto_if 68 with fail
  go_cut [68] (fun v68 wx => ∃ bb, v68 = .bool bb ∧ DirW w wx w.heap.size (w.heap.size + 1 + 1) (w.heap.size + 1 + 1 + 1) (w.heap.size + 1) p4 u6)
  case first =>
    clear hbe
    by_cases hz : u5.size = 0
    · obtain rfl : be = true := by rw [← HBE.out]; exact isEmpty_size u5 hz
      have hq : dir4 ⟨⟨pk, pt, ps, pw, pp, ⟨gk, gn⟩⟩, u5⟩ = ⟨⟨pk, pt, ps, pw, pp, ⟨gk, gn⟩⟩, u5⟩ := by unfold dir4; rw [if_pos hz]
      obtain ⟨e1, e2⟩ := DirR.mk.inj (hq.symm.trans HP4.out)
      have HF := HD15
      rw [e1, e2] at HF
      clear hq e1 e2 hz
      go_wp2_with fail
      go_meet
      exact ⟨_, rfl, HF.out⟩
    · obtain rfl : be = false := by rw [← HBE.out]; exact isEmpty_size' u5 hz
      have HT2 := Lib.hid (Utf8Tabs.below HT.out (Utf8Tabs.two HT.out) HD15.out.below)
      go_wp2_with fail
      refine (decode_any u5 wc HT2.out).mono ?_
      rintro e w12 ⟨rfl, hB12⟩
      have HD16 := Lib.hid (HD15.out.later hB12)
      have hrl := runeD_le u5
      obtain ⟨⟨vr, vn⟩, hrd⟩ : ∃ y, runeD u5 = y := ⟨_, rfl⟩
      rw [hrd] at hrl ⊢
      have hrl : vn ≤ u5.size := hrl
      have HP5 : Hid (dir4 ⟨⟨pk, pt, ps, pw, pp, ⟨gk, gn⟩⟩, u5⟩ = ⟨⟨1, pt, { ps with verb := (vr : Int) }, pw, pp, ⟨gk, gn⟩⟩, u5.extract vn u5.size⟩) := by
        show _ = _
        unfold dir4
        rw [if_neg hz, hrd]
      clear hrd hz HBE HT2 hB12 r0 r1 rx rf rne
      obtain ⟨r0, r1, rx, rf, rne⟩ := HD16.out.rdr
      have z0 : w12.frozen? ⟨w.heap.size + 1, 0, none⟩ = false := frozen_of_heap' HD16.out.pc 0
      have z9 : w12.frozen? ⟨w.heap.size + 1, 9, none⟩ = false := frozen_of_heap' HD16.out.pc 9
      have c0 : w12.cell? ⟨w.heap.size + 1, 0, none⟩ = some (.int .i64 pk) := cell_of_heap' HD16.out.pc 0
      have c9 : w12.cell? ⟨w.heap.size + 1, 9, none⟩ = some (.int .i32 ps.verb) := cell_of_heap' HD16.out.pc 9
      go_upto_region 13 with fail
      go_region
      have HB5 := Lib.hid ((HD16.out.cell 0 (.int .i64 1) ⟨1, pt, ps, pw, pp, ⟨gk, gn⟩⟩ (by simp [pieceCells])).cell 9 (.int .i32 (vr : Int)) ⟨1, pt, { ps with verb := (vr : Int) }, pw, pp, ⟨gk, gn⟩⟩ (by simp [pieceCells]))
      have HF := Lib.hid ((HB5.out.one ((One.refl (w.heap.size + 1 + 1) _).put 0 (.string (u5.extract vn u5.size))) (HB5.out.rdr.put (u5.extract vn u5.size))).later (Below.refl _ _).drew)
      obtain ⟨e1, e2⟩ := DirR.mk.inj (HP5.out.symm.trans HP4.out)
      clear r0 r1 rx rf rne z0 z9 c0 c9
      go_wp2_with fail
      go_meet
      refine ⟨_, rfl, ?_⟩
      rw [← e1, ← e2]
      exact HF.out
  case rest =>
  obtain ⟨bb, rfl, hd17⟩ := hcut
  have HD17 := Lib.hid hd17
  clear hd17 HD15 r0 r1 rx rf rne
  apply_assumption
  have HDD : Hid (dirD t = ⟨{ p4 with text := ⟨#[37]⟩ ++ t.extract 0 (t.size - u6.size) }, u6⟩) := by
    show _ = _
    unfold dirD
    rw [HP1.out, HP2.out, HP3.out, HP4.out]
  have hle : u6.size ≤ t.size := by
    have h := dir_le t
    rw [HP1.out, HP2.out, HP3.out, HP4.out] at h
    exact h
  clear HP1 HP2 HP3 HP4 hbe
  obtain ⟨r0, r1, rx, rf, rne⟩ := HD17.out.rdr
  have z1 := frozen_of_heap' HD17.out.pc 1
  have c1 := cell_of_heap' HD17.out.pc 1
  obtain ⟨k, hk⟩ : ∃ k, t.size - u6.size = k := ⟨_, rfl⟩
  have hk2 : (t.size : Int) - (u6.size : Int) = (k : Int) := by omega
  have hks : (t.extract 0 k).size = k := by rw [ByteArray.size_extract]; omega
  have hcat : ¬ 9223372036854775807 < (⟨#[37]⟩ : ByteArray).size + (t.extract 0 k).size := by
    rw [hks]
    show ¬ 9223372036854775807 < 1 + k
    omega
  rw [hk] at HDD
  go_upto_region 15 with fail
  obtain ⟨p5, hp5⟩ : ∃ y : PieceD, { p4 with text := ⟨#[37]⟩ ++ t.extract 0 k } = y := ⟨_, rfl⟩
  have HD18 := Lib.hid (HD17.out.cell 1 (.string (⟨#[37]⟩ ++ t.extract 0 k)) { p4 with text := ⟨#[37]⟩ ++ t.extract 0 k } (by simp [pieceCells]))
  generalize wc.setCell ⟨w.heap.size + 1, 1, none⟩ (.string (⟨#[37]⟩ ++ t.extract 0 k)) = W14 at HD18 ⊢
  rw [hp5] at HD18 HDD
  clear hp5 hcat hks hk2 hk r0 r1 rx rf rne z1 c1 HD17
  have HR := Lib.hid (((Below.refl W14.heap.size W14).drew.block _ HD18.out.res.lt).trans HD18.out.res)
  have HT0 : PieceAt W14.drew (w.heap.size + 1) p5 ∧ W14.drew.cell? ⟨w.heap.size + 1 + 1, 0, none⟩ = some (.string u6) :=
    ⟨HD18.out.pc.keep ((Below.refl W14.heap.size W14).drew.block _ HD18.out.pc.lt), cell_below (Below.refl _ W14).drew HD18.out.rdr.s⟩
  have HBW := Lib.hid (HD18.out.below.next (Below.refl _ W14).drew)
  refine late_begin [] (fun _ => True) (fun w' => PieceAt w' (w.heap.size + 1) p5 ∧ w'.cell? ⟨w.heap.size + 1 + 1, 0, none⟩ = some (.string u6)) (by kernel_rfl) ?_
  generalize W14.drew = W15 at HR HT0 HBW ⊢
  refine late_take (i := 0) (.agg (pieceCells p5)) false rfl (by kernel_rfl) (by kernel_rfl) (by kernel_rfl) (by kernel_rfl) (fun h => by cases h) (fun _ _ _ h => h) (by rfl) (fun W hS hT => ?_) (fun _ => trivial) HT0 (fun h => by cases h) ?_
  · have hl := load_piece hT.1
    first
      | (simp [execOp, Act.eval, Instr.loadAt, Instr.sureAddr, hl]; done)
      | (unfold execOp; simp only [Act.eval, Instr.loadAt]; simp [Instr.sureAddr, hl]; done)
      | (unfold execOp; simp only [Act.eval, Instr.loadAt, Instr.sureAddr, Sem.run_bind, Sem.run_pure, Result.andThen_ok]; simp [hl]; done)
  try simp only [Act.put, List.getElem_toArray, List.getElem_cons_zero, List.getElem_cons_succ, List.setIfInBounds_toArray, List.set_cons_zero, List.set_cons_succ]
  refine late_take (i := 1) (.pointer (some ⟨w.heap.size + 1 + 1, 0, none⟩)) false rfl (by kernel_rfl) (by kernel_rfl) (by kernel_rfl) (by kernel_rfl) (fun h => by cases h) (fun _ _ _ h => h) (by rfl) (fun W hS hT => ?_) (fun _ => trivial) HT0 (fun h => by cases h) ?_
  · go_simp
  try simp only [Act.put, List.getElem_toArray, List.getElem_cons_zero, List.getElem_cons_succ, List.setIfInBounds_toArray, List.set_cons_zero, List.set_cons_succ]
  refine late_take (i := 2) (.pointer (some ⟨w.heap.size + 1 + 1, 0, none⟩)) false rfl (by kernel_rfl) (by kernel_rfl) (by kernel_rfl) (by kernel_rfl) (fun h => by cases h) (fun _ _ _ h => h) (by rfl) (fun W hS hT => ?_) (fun _ => trivial) HT0 (fun h => by cases h) ?_
  · go_simp
  try simp only [Act.put, List.getElem_toArray, List.getElem_cons_zero, List.getElem_cons_succ, List.setIfInBounds_toArray, List.set_cons_zero, List.set_cons_succ]
  refine late_take (i := 3) (.pointer (some ⟨w.heap.size + 1 + 1, 0, none⟩)) false rfl (by kernel_rfl) (by kernel_rfl) (by kernel_rfl) (by kernel_rfl) (fun h => by cases h) (fun _ _ _ h => h) (by rfl) (fun W hS hT => ?_) (fun _ => trivial) HT0 (fun h => by cases h) ?_
  · go_simp
  try simp only [Act.put, List.getElem_toArray, List.getElem_cons_zero, List.getElem_cons_succ, List.setIfInBounds_toArray, List.set_cons_zero, List.set_cons_succ]
  refine late_take (i := 4) (.string u6) false rfl (by kernel_rfl) (by kernel_rfl) (by kernel_rfl) (by kernel_rfl) (fun h => by cases h) (fun _ _ _ h => h) (by rfl) (fun W hS hT => ?_) (fun _ => trivial) HT0 (fun h => by cases h) ?_
  · (obtain ⟨q5, q6⟩ := hT; go_simp)
  try simp only [Act.put, List.getElem_toArray, List.getElem_cons_zero, List.getElem_cons_succ, List.setIfInBounds_toArray, List.set_cons_zero, List.set_cons_succ]
  refine late_one 5 rfl (by kernel_rfl) (fun K hK => ?_)
  try simp only [List.getElem_toArray, List.getElem_cons_zero, List.getElem_cons_succ]
  rw [if_pos (by simp [Region.wanted])]
  refine wp_store_row 67 _ _ (by rfl) w.heap.size (pieceCells p5) (by rfl) (by rfl) 67 (pieceCells pieceZ) HR.out (piece_size p5) (by rfl) (pieceCells_one p5) ?_
  have HR2 := Lib.hid (setRow_heap W15 w.heap.size (pieceCells pieceZ) (pieceCells p5) 67 (0, 0) HR.out)
  have HT1 : PieceAt (W15.setRow w.heap.size (pieceCells p5)) (w.heap.size + 1) p5 ∧ (W15.setRow w.heap.size (pieceCells p5)).cell? ⟨w.heap.size + 1 + 1, 0, none⟩ = some (.string u6) :=
    ⟨(setRow_other W15 w.heap.size (w.heap.size + 1) _ (by omega)).trans HT0.1, (World.cell?_of_block (a := ⟨w.heap.size + 1 + 1, 0, none⟩) (setRow_other W15 w.heap.size (w.heap.size + 1 + 1) _ (by omega))).trans HT0.2⟩
  have HB2 := Lib.hid (HBW.out.row w.heap.size (pieceCells p5) (Nat.le_refl _))
  generalize W15.setRow w.heap.size (pieceCells p5) = W16 at HR2 HT1 HB2 ⊢
  refine hK _ _ (fun _ => trivial) HT1 ?_
  clear hK K HT0 HR
  try simp only [Act.put, List.getElem_toArray, List.getElem_cons_zero, List.getElem_cons_succ, List.setIfInBounds_toArray, List.set_cons_zero, List.set_cons_succ]
  refine late_take (i := 6) (.string u6) false rfl (by kernel_rfl) (by kernel_rfl) (by kernel_rfl) (by kernel_rfl) (fun h => by cases h) (fun _ _ _ h => h) (by rfl) (fun W hS hT => ?_) (fun _ => trivial) HT1 (fun h => by cases h) ?_
  · go_simp
  try simp only [Act.put, List.getElem_toArray, List.getElem_cons_zero, List.getElem_cons_succ, List.setIfInBounds_toArray, List.set_cons_zero, List.set_cons_succ]
  refine late_done (by kernel_rfl) ?_ _
  clear HT1 HD18
  go_wp2_with fail
  refine bodyPost_ret (v := .tuple #[.agg (pieceCells p5), .string u6]) ?_ rfl ?_
  · have hl := load_piece HR2.out
    simp only [results, Tryz.f43]
    simp [asAddr, hl]
  refine ⟨?_, HB2.out⟩
  rw [HDD.out]
end Go.Proofs.YtnalppgjbllehaaGreatDoor
