/- The types of the translation as a table, the functions that are called, and what is known of them. -/
import Derived.Test.YtbaaecphcjhdjaaProg
import Derived.Test.YtbaaecphcjhdjaaSxI
namespace Go.Proofs.Ytbaaecphcjhdjaa
open Go.Sx
set_option maxRecDepth 100000
noncomputable def tab : Tab := [
  (0, ⟨Try.t0.desc, Try.t0.size, Try.t0.bytes, Try.t0.zero.getD undef⟩),
  (1, ⟨Try.t1.desc, Try.t1.size, Try.t1.bytes, Try.t1.zero.getD undef⟩),
  (2, ⟨Try.t2.desc, Try.t2.size, Try.t2.bytes, Try.t2.zero.getD undef⟩),
  (3, ⟨Try.t3.desc, Try.t3.size, Try.t3.bytes, Try.t3.zero.getD undef⟩),
  (4, ⟨Try.t4.desc, Try.t4.size, Try.t4.bytes, Try.t4.zero.getD undef⟩),
  (5, ⟨Try.t5.desc, Try.t5.size, Try.t5.bytes, Try.t5.zero.getD undef⟩),
  (6, ⟨Try.t5.desc, Try.t6.size, Try.t6.bytes, Try.t6.zero.getD undef⟩),
  (7, ⟨Try.t7.desc, Try.t7.size, Try.t7.bytes, Try.t7.zero.getD undef⟩),
  (8, ⟨Try.t7.desc, Try.t8.size, Try.t8.bytes, Try.t8.zero.getD undef⟩),
  (9, ⟨Try.t9.desc, Try.t9.size, Try.t9.bytes, Try.t9.zero.getD undef⟩),
  (10, ⟨Try.t9.desc, Try.t10.size, Try.t10.bytes, Try.t10.zero.getD undef⟩),
  (11, ⟨Try.t9.desc, Try.t11.size, Try.t11.bytes, Try.t11.zero.getD undef⟩),
  (12, ⟨Try.t12.desc, Try.t12.size, Try.t12.bytes, Try.t12.zero.getD undef⟩),
  (13, ⟨Try.t13.desc, Try.t13.size, Try.t13.bytes, Try.t13.zero.getD undef⟩),
  (14, ⟨Try.t13.desc, Try.t14.size, Try.t14.bytes, Try.t14.zero.getD undef⟩),
  (15, ⟨Try.t15.desc, Try.t15.size, Try.t15.bytes, Try.t15.zero.getD undef⟩),
  (16, ⟨Try.t16.desc, Try.t16.size, Try.t16.bytes, Try.t16.zero.getD undef⟩),
  (17, ⟨Try.t17.desc, Try.t17.size, Try.t17.bytes, Try.t17.zero.getD undef⟩),
  (18, ⟨Try.t18.desc, Try.t18.size, Try.t18.bytes, Try.t18.zero.getD undef⟩),
  (19, ⟨Try.t18.desc, Try.t19.size, Try.t19.bytes, Try.t19.zero.getD undef⟩),
  (20, ⟨Try.t20.desc, Try.t20.size, Try.t20.bytes, Try.t20.zero.getD undef⟩),
  (21, ⟨Try.t21.desc, Try.t21.size, Try.t21.bytes, Try.t21.zero.getD undef⟩),
  (22, ⟨Try.t22.desc, Try.t22.size, Try.t22.bytes, Try.t22.zero.getD undef⟩),
  (23, ⟨Try.t3.desc, Try.t23.size, Try.t23.bytes, Try.t23.zero.getD undef⟩),
  (24, ⟨Try.t24.desc, Try.t24.size, Try.t24.bytes, Try.t24.zero.getD undef⟩),
  (25, ⟨Try.t25.desc, Try.t25.size, Try.t25.bytes, Try.t25.zero.getD undef⟩),
  (26, ⟨Try.t26.desc, Try.t26.size, Try.t26.bytes, Try.t26.zero.getD undef⟩),
  (27, ⟨Try.t26.desc, Try.t27.size, Try.t27.bytes, Try.t27.zero.getD undef⟩),
  (28, ⟨Try.t28.desc, Try.t28.size, Try.t28.bytes, Try.t28.zero.getD undef⟩),
  (29, ⟨Try.t29.desc, Try.t29.size, Try.t29.bytes, Try.t29.zero.getD undef⟩),
  (30, ⟨Try.t29.desc, Try.t30.size, Try.t30.bytes, Try.t30.zero.getD undef⟩),
  (31, ⟨Try.t31.desc, Try.t31.size, Try.t31.bytes, Try.t31.zero.getD undef⟩),
  (32, ⟨Try.t32.desc, Try.t32.size, Try.t32.bytes, Try.t32.zero.getD undef⟩),
  (33, ⟨Try.t33.desc, Try.t33.size, Try.t33.bytes, Try.t33.zero.getD undef⟩),
  (34, ⟨Try.t34.desc, Try.t34.size, Try.t34.bytes, Try.t34.zero.getD undef⟩),
  (35, ⟨Try.t35.desc, Try.t35.size, Try.t35.bytes, Try.t35.zero.getD undef⟩),
  (36, ⟨Try.t36.desc, Try.t36.size, Try.t36.bytes, Try.t36.zero.getD undef⟩),
  (37, ⟨Try.t36.desc, Try.t37.size, Try.t37.bytes, Try.t37.zero.getD undef⟩),
  (38, ⟨Try.t38.desc, Try.t38.size, Try.t38.bytes, Try.t38.zero.getD undef⟩),
  (39, ⟨Try.t39.desc, Try.t39.size, Try.t39.bytes, Try.t39.zero.getD undef⟩),
  (40, ⟨Try.t40.desc, Try.t40.size, Try.t40.bytes, Try.t40.zero.getD undef⟩),
  (41, ⟨Try.t41.desc, Try.t41.size, Try.t41.bytes, Try.t41.zero.getD undef⟩),
  (42, ⟨Try.t42.desc, Try.t42.size, Try.t42.bytes, Try.t42.zero.getD undef⟩),
  (43, ⟨Try.t43.desc, Try.t43.size, Try.t43.bytes, Try.t43.zero.getD undef⟩),
  (44, ⟨Try.t43.desc, Try.t44.size, Try.t44.bytes, Try.t44.zero.getD undef⟩),
  (45, ⟨Try.t45.desc, Try.t45.size, Try.t45.bytes, Try.t45.zero.getD undef⟩),
  (46, ⟨Try.t46.desc, Try.t46.size, Try.t46.bytes, Try.t46.zero.getD undef⟩),
  (47, ⟨Try.t47.desc, Try.t47.size, Try.t47.bytes, Try.t47.zero.getD undef⟩),
  (48, ⟨Try.t48.desc, Try.t48.size, Try.t48.bytes, Try.t48.zero.getD undef⟩),
  (49, ⟨Try.t49.desc, Try.t49.size, Try.t49.bytes, Try.t49.zero.getD undef⟩),
  (50, ⟨Try.t50.desc, Try.t50.size, Try.t50.bytes, Try.t50.zero.getD undef⟩),
  (51, ⟨Try.t51.desc, Try.t51.size, Try.t51.bytes, Try.t51.zero.getD undef⟩),
  (52, ⟨Try.t51.desc, Try.t52.size, Try.t52.bytes, Try.t52.zero.getD undef⟩),
  (53, ⟨Try.t53.desc, Try.t53.size, Try.t53.bytes, Try.t53.zero.getD undef⟩),
  (54, ⟨Try.t54.desc, Try.t54.size, Try.t54.bytes, Try.t54.zero.getD undef⟩),
  (55, ⟨Try.t55.desc, Try.t55.size, Try.t55.bytes, Try.t55.zero.getD undef⟩),
  (56, ⟨Try.t56.desc, Try.t56.size, Try.t56.bytes, Try.t56.zero.getD undef⟩),
  (57, ⟨Try.t57.desc, Try.t57.size, Try.t57.bytes, Try.t57.zero.getD undef⟩),
  (58, ⟨Try.t58.desc, Try.t58.size, Try.t58.bytes, Try.t58.zero.getD undef⟩),
  (59, ⟨Try.t59.desc, Try.t59.size, Try.t59.bytes, Try.t59.zero.getD undef⟩),
  (60, ⟨Try.t60.desc, Try.t60.size, Try.t60.bytes, Try.t60.zero.getD undef⟩),
  (61, ⟨Try.t61.desc, Try.t61.size, Try.t61.bytes, Try.t61.zero.getD undef⟩),
  (62, ⟨Try.t62.desc, Try.t62.size, Try.t62.bytes, Try.t62.zero.getD undef⟩),
  (63, ⟨Try.t63.desc, Try.t63.size, Try.t63.bytes, Try.t63.zero.getD undef⟩),
  (64, ⟨Try.t64.desc, Try.t64.size, Try.t64.bytes, Try.t64.zero.getD undef⟩),
  (65, ⟨Try.t65.desc, Try.t65.size, Try.t65.bytes, Try.t65.zero.getD undef⟩),
  (66, ⟨Try.t66.desc, Try.t66.size, Try.t66.bytes, Try.t66.zero.getD undef⟩),
  (67, ⟨Try.t67.desc, Try.t67.size, Try.t67.bytes, Try.t67.zero.getD undef⟩),
  (68, ⟨Try.t68.desc, Try.t68.size, Try.t68.bytes, Try.t68.zero.getD undef⟩),
  (69, ⟨Try.t69.desc, Try.t69.size, Try.t69.bytes, Try.t69.zero.getD undef⟩),
  (70, ⟨Try.t70.desc, Try.t70.size, Try.t70.bytes, Try.t70.zero.getD undef⟩),
  (71, ⟨Try.t71.desc, Try.t71.size, Try.t71.bytes, Try.t71.zero.getD undef⟩),
  (72, ⟨Try.t72.desc, Try.t72.size, Try.t72.bytes, Try.t72.zero.getD undef⟩),
  (73, ⟨Try.t73.desc, Try.t73.size, Try.t73.bytes, Try.t73.zero.getD undef⟩),
  (74, ⟨Try.t73.desc, Try.t74.size, Try.t74.bytes, Try.t74.zero.getD undef⟩),
  (75, ⟨Try.t75.desc, Try.t75.size, Try.t75.bytes, Try.t75.zero.getD undef⟩),
  (76, ⟨Try.t76.desc, Try.t76.size, Try.t76.bytes, Try.t76.zero.getD undef⟩),
  (77, ⟨Try.t77.desc, Try.t77.size, Try.t77.bytes, Try.t77.zero.getD undef⟩),
  (78, ⟨Try.t78.desc, Try.t78.size, Try.t78.bytes, Try.t78.zero.getD undef⟩),
  (79, ⟨Try.t79.desc, Try.t79.size, Try.t79.bytes, Try.t79.zero.getD undef⟩),
  (80, ⟨Try.t80.desc, Try.t80.size, Try.t80.bytes, Try.t80.zero.getD undef⟩),
  (81, ⟨Try.t80.desc, Try.t81.size, Try.t81.bytes, Try.t81.zero.getD undef⟩),
  (82, ⟨Try.t82.desc, Try.t82.size, Try.t82.bytes, Try.t82.zero.getD undef⟩),
  (83, ⟨Try.t83.desc, Try.t83.size, Try.t83.bytes, Try.t83.zero.getD undef⟩),
  (84, ⟨Try.t84.desc, Try.t84.size, Try.t84.bytes, Try.t84.zero.getD undef⟩),
  (85, ⟨Try.t85.desc, Try.t85.size, Try.t85.bytes, Try.t85.zero.getD undef⟩),
  (86, ⟨Try.t86.desc, Try.t86.size, Try.t86.bytes, Try.t86.zero.getD undef⟩),
  (87, ⟨Try.t87.desc, Try.t87.size, Try.t87.bytes, Try.t87.zero.getD undef⟩),
  (88, ⟨Try.t88.desc, Try.t88.size, Try.t88.bytes, Try.t88.zero.getD undef⟩),
  (89, ⟨Try.t89.desc, Try.t89.size, Try.t89.bytes, Try.t89.zero.getD undef⟩),
  (90, ⟨Try.t90.desc, Try.t90.size, Try.t90.bytes, Try.t90.zero.getD undef⟩),
  (91, ⟨Try.t91.desc, Try.t91.size, Try.t91.bytes, Try.t91.zero.getD undef⟩),
  (92, ⟨Try.t92.desc, Try.t92.size, Try.t92.bytes, Try.t92.zero.getD undef⟩),
  (93, ⟨Try.t93.desc, Try.t93.size, Try.t93.bytes, Try.t93.zero.getD undef⟩),
  (94, ⟨Try.t94.desc, Try.t94.size, Try.t94.bytes, Try.t94.zero.getD undef⟩),
  (95, ⟨Try.t95.desc, Try.t95.size, Try.t95.bytes, Try.t95.zero.getD undef⟩),
  (96, ⟨Try.t96.desc, Try.t96.size, Try.t96.bytes, Try.t96.zero.getD undef⟩),
  (97, ⟨Try.t97.desc, Try.t97.size, Try.t97.bytes, Try.t97.zero.getD undef⟩),
  (98, ⟨Try.t98.desc, Try.t98.size, Try.t98.bytes, Try.t98.zero.getD undef⟩),
  (99, ⟨Try.t99.desc, Try.t99.size, Try.t99.bytes, Try.t99.zero.getD undef⟩),
  (100, ⟨Try.t100.desc, Try.t100.size, Try.t100.bytes, Try.t100.zero.getD undef⟩),
  (101, ⟨Try.t101.desc, Try.t101.size, Try.t101.bytes, Try.t101.zero.getD undef⟩),
  (102, ⟨Try.t102.desc, Try.t102.size, Try.t102.bytes, Try.t102.zero.getD undef⟩),
  (103, ⟨Try.t103.desc, Try.t103.size, Try.t103.bytes, Try.t103.zero.getD undef⟩),
  (104, ⟨Try.t104.desc, Try.t104.size, Try.t104.bytes, Try.t104.zero.getD undef⟩),
  (105, ⟨Try.t105.desc, Try.t105.size, Try.t105.bytes, Try.t105.zero.getD undef⟩),
  (106, ⟨Try.t106.desc, Try.t106.size, Try.t106.bytes, Try.t106.zero.getD undef⟩),
  (107, ⟨Try.t107.desc, Try.t107.size, Try.t107.bytes, Try.t107.zero.getD undef⟩),
  (108, ⟨Try.t108.desc, Try.t108.size, Try.t108.bytes, Try.t108.zero.getD undef⟩),
  (109, ⟨Try.t109.desc, Try.t109.size, Try.t109.bytes, Try.t109.zero.getD undef⟩),
  (110, ⟨Try.t3.desc, Try.t110.size, Try.t110.bytes, Try.t110.zero.getD undef⟩),
  (111, ⟨Try.t111.desc, Try.t111.size, Try.t111.bytes, Try.t111.zero.getD undef⟩),
  (112, ⟨Try.t112.desc, Try.t112.size, Try.t112.bytes, Try.t112.zero.getD undef⟩),
  (113, ⟨Try.t113.desc, Try.t113.size, Try.t113.bytes, Try.t113.zero.getD undef⟩),
  (114, ⟨Try.t114.desc, Try.t114.size, Try.t114.bytes, Try.t114.zero.getD undef⟩),
  (115, ⟨Try.t115.desc, Try.t115.size, Try.t115.bytes, Try.t115.zero.getD undef⟩),
  (116, ⟨Try.t116.desc, Try.t116.size, Try.t116.bytes, Try.t116.zero.getD undef⟩),
  (117, ⟨Try.t117.desc, Try.t117.size, Try.t117.bytes, Try.t117.zero.getD undef⟩),
  (118, ⟨Try.t118.desc, Try.t118.size, Try.t118.bytes, Try.t118.zero.getD undef⟩),
  (119, ⟨Try.t119.desc, Try.t119.size, Try.t119.bytes, Try.t119.zero.getD undef⟩),
  (120, ⟨Try.t35.desc, Try.t120.size, Try.t120.bytes, Try.t120.zero.getD undef⟩),
  (121, ⟨Try.t121.desc, Try.t121.size, Try.t121.bytes, Try.t121.zero.getD undef⟩),
  (122, ⟨Try.t122.desc, Try.t122.size, Try.t122.bytes, Try.t122.zero.getD undef⟩),
  (123, ⟨Try.t123.desc, Try.t123.size, Try.t123.bytes, Try.t123.zero.getD undef⟩),
  (124, ⟨Try.t124.desc, Try.t124.size, Try.t124.bytes, Try.t124.zero.getD undef⟩),
  (125, ⟨Try.t125.desc, Try.t125.size, Try.t125.bytes, Try.t125.zero.getD undef⟩),
  (126, ⟨Try.t126.desc, Try.t126.size, Try.t126.bytes, Try.t126.zero.getD undef⟩),
  (127, ⟨Try.t127.desc, Try.t127.size, Try.t127.bytes, Try.t127.zero.getD undef⟩),
  (128, ⟨Try.t128.desc, Try.t128.size, Try.t128.bytes, Try.t128.zero.getD undef⟩),
  (129, ⟨Try.t129.desc, Try.t129.size, Try.t129.bytes, Try.t129.zero.getD undef⟩),
  (130, ⟨Try.t130.desc, Try.t130.size, Try.t130.bytes, Try.t130.zero.getD undef⟩),
  (131, ⟨Try.t130.desc, Try.t131.size, Try.t131.bytes, Try.t131.zero.getD undef⟩),
  (132, ⟨Try.t132.desc, Try.t132.size, Try.t132.bytes, Try.t132.zero.getD undef⟩),
  (133, ⟨Try.t133.desc, Try.t133.size, Try.t133.bytes, Try.t133.zero.getD undef⟩),
  (134, ⟨Try.t133.desc, Try.t134.size, Try.t134.bytes, Try.t134.zero.getD undef⟩),
  (135, ⟨Try.t5.desc, Try.t135.size, Try.t135.bytes, Try.t135.zero.getD undef⟩),
  (136, ⟨Try.t5.desc, Try.t136.size, Try.t136.bytes, Try.t136.zero.getD undef⟩),
  (137, ⟨Try.t137.desc, Try.t137.size, Try.t137.bytes, Try.t137.zero.getD undef⟩),
  (138, ⟨Try.t138.desc, Try.t138.size, Try.t138.bytes, Try.t138.zero.getD undef⟩),
  (139, ⟨Try.t21.desc, Try.t139.size, Try.t139.bytes, Try.t139.zero.getD undef⟩),
  (140, ⟨Try.t21.desc, Try.t140.size, Try.t140.bytes, Try.t140.zero.getD undef⟩),
  (141, ⟨Try.t141.desc, Try.t141.size, Try.t141.bytes, Try.t141.zero.getD undef⟩),
  (142, ⟨Try.t141.desc, Try.t142.size, Try.t142.bytes, Try.t142.zero.getD undef⟩),
  (143, ⟨Try.t143.desc, Try.t143.size, Try.t143.bytes, Try.t143.zero.getD undef⟩)]
def fns : List FuncId := [2, 3, 4, 5, 6, 7, 8, 9, 10, 11, 12, 13, 14, 15, 16, 17, 18, 19, 20, 21, 22, 23, 24, 25, 26, 27, 28, 29, 30, 31, 32, 33, 34, 35, 36, 37, 38, 39, 40, 42, 43, 44, 45, 46, 47, 48, 49, 50, 51, 52, 53, 54, 55, 56, 57, 58, 59, 60, 61, 62, 63, 64, 65, 66, 67, 68, 69, 70, 71, 72, 73, 74, 75, 76, 77]
theorem te0 : TE.ok Try.prog 0 ⟨Try.t0.desc, Try.t0.size, Try.t0.bytes, Try.t0.zero.getD undef⟩ := ⟨Try.underlying0, Try.runUnderlying0, Try.sizeOf0, Try.zeroValue0, Try.isAgg0, fun w => ⟨_, Try.typeInfo0 w, rfl, rfl⟩, ⟨Try.t0, by kernel_rfl, rfl, rfl, rfl⟩⟩
theorem te1 : TE.ok Try.prog 1 ⟨Try.t1.desc, Try.t1.size, Try.t1.bytes, Try.t1.zero.getD undef⟩ := ⟨Try.underlying1, Try.runUnderlying1, Try.sizeOf1, Try.zeroValue1, Try.isAgg1, fun w => ⟨_, Try.typeInfo1 w, rfl, rfl⟩, ⟨Try.t1, by kernel_rfl, rfl, rfl, rfl⟩⟩
theorem te2 : TE.ok Try.prog 2 ⟨Try.t2.desc, Try.t2.size, Try.t2.bytes, Try.t2.zero.getD undef⟩ := ⟨Try.underlying2, Try.runUnderlying2, Try.sizeOf2, Try.zeroValue2, Try.isAgg2, fun w => ⟨_, Try.typeInfo2 w, rfl, rfl⟩, ⟨Try.t2, by kernel_rfl, rfl, rfl, rfl⟩⟩
theorem te3 : TE.ok Try.prog 3 ⟨Try.t3.desc, Try.t3.size, Try.t3.bytes, Try.t3.zero.getD undef⟩ := ⟨Try.underlying3, Try.runUnderlying3, Try.sizeOf3, Try.zeroValue3, Try.isAgg3, fun w => ⟨_, Try.typeInfo3 w, rfl, rfl⟩, ⟨Try.t3, by kernel_rfl, rfl, rfl, rfl⟩⟩
theorem te4 : TE.ok Try.prog 4 ⟨Try.t4.desc, Try.t4.size, Try.t4.bytes, Try.t4.zero.getD undef⟩ := ⟨Try.underlying4, Try.runUnderlying4, Try.sizeOf4, Try.zeroValue4, Try.isAgg4, fun w => ⟨_, Try.typeInfo4 w, rfl, rfl⟩, ⟨Try.t4, by kernel_rfl, rfl, rfl, rfl⟩⟩
theorem te5 : TE.ok Try.prog 5 ⟨Try.t5.desc, Try.t5.size, Try.t5.bytes, Try.t5.zero.getD undef⟩ := ⟨Try.underlying5, Try.runUnderlying5, Try.sizeOf5, Try.zeroValue5, Try.isAgg5, fun w => ⟨_, Try.typeInfo5 w, rfl, rfl⟩, ⟨Try.t5, by kernel_rfl, rfl, rfl, rfl⟩⟩
theorem te6 : TE.ok Try.prog 6 ⟨Try.t5.desc, Try.t6.size, Try.t6.bytes, Try.t6.zero.getD undef⟩ := ⟨Try.underlying6, Try.runUnderlying6, Try.sizeOf6, Try.zeroValue6, Try.isAgg6, fun w => ⟨_, Try.typeInfo6 w, rfl, rfl⟩, ⟨Try.t6, by kernel_rfl, rfl, rfl, rfl⟩⟩
theorem te7 : TE.ok Try.prog 7 ⟨Try.t7.desc, Try.t7.size, Try.t7.bytes, Try.t7.zero.getD undef⟩ := ⟨Try.underlying7, Try.runUnderlying7, Try.sizeOf7, Try.zeroValue7, Try.isAgg7, fun w => ⟨_, Try.typeInfo7 w, rfl, rfl⟩, ⟨Try.t7, by kernel_rfl, rfl, rfl, rfl⟩⟩
theorem te8 : TE.ok Try.prog 8 ⟨Try.t7.desc, Try.t8.size, Try.t8.bytes, Try.t8.zero.getD undef⟩ := ⟨Try.underlying8, Try.runUnderlying8, Try.sizeOf8, Try.zeroValue8, Try.isAgg8, fun w => ⟨_, Try.typeInfo8 w, rfl, rfl⟩, ⟨Try.t8, by kernel_rfl, rfl, rfl, rfl⟩⟩
theorem te9 : TE.ok Try.prog 9 ⟨Try.t9.desc, Try.t9.size, Try.t9.bytes, Try.t9.zero.getD undef⟩ := ⟨Try.underlying9, Try.runUnderlying9, Try.sizeOf9, Try.zeroValue9, Try.isAgg9, fun w => ⟨_, Try.typeInfo9 w, rfl, rfl⟩, ⟨Try.t9, by kernel_rfl, rfl, rfl, rfl⟩⟩
theorem te10 : TE.ok Try.prog 10 ⟨Try.t9.desc, Try.t10.size, Try.t10.bytes, Try.t10.zero.getD undef⟩ := ⟨Try.underlying10, Try.runUnderlying10, Try.sizeOf10, Try.zeroValue10, Try.isAgg10, fun w => ⟨_, Try.typeInfo10 w, rfl, rfl⟩, ⟨Try.t10, by kernel_rfl, rfl, rfl, rfl⟩⟩
theorem te11 : TE.ok Try.prog 11 ⟨Try.t9.desc, Try.t11.size, Try.t11.bytes, Try.t11.zero.getD undef⟩ := ⟨Try.underlying11, Try.runUnderlying11, Try.sizeOf11, Try.zeroValue11, Try.isAgg11, fun w => ⟨_, Try.typeInfo11 w, rfl, rfl⟩, ⟨Try.t11, by kernel_rfl, rfl, rfl, rfl⟩⟩
theorem te12 : TE.ok Try.prog 12 ⟨Try.t12.desc, Try.t12.size, Try.t12.bytes, Try.t12.zero.getD undef⟩ := ⟨Try.underlying12, Try.runUnderlying12, Try.sizeOf12, Try.zeroValue12, Try.isAgg12, fun w => ⟨_, Try.typeInfo12 w, rfl, rfl⟩, ⟨Try.t12, by kernel_rfl, rfl, rfl, rfl⟩⟩
theorem te13 : TE.ok Try.prog 13 ⟨Try.t13.desc, Try.t13.size, Try.t13.bytes, Try.t13.zero.getD undef⟩ := ⟨Try.underlying13, Try.runUnderlying13, Try.sizeOf13, Try.zeroValue13, Try.isAgg13, fun w => ⟨_, Try.typeInfo13 w, rfl, rfl⟩, ⟨Try.t13, by kernel_rfl, rfl, rfl, rfl⟩⟩
theorem te14 : TE.ok Try.prog 14 ⟨Try.t13.desc, Try.t14.size, Try.t14.bytes, Try.t14.zero.getD undef⟩ := ⟨Try.underlying14, Try.runUnderlying14, Try.sizeOf14, Try.zeroValue14, Try.isAgg14, fun w => ⟨_, Try.typeInfo14 w, rfl, rfl⟩, ⟨Try.t14, by kernel_rfl, rfl, rfl, rfl⟩⟩
theorem te15 : TE.ok Try.prog 15 ⟨Try.t15.desc, Try.t15.size, Try.t15.bytes, Try.t15.zero.getD undef⟩ := ⟨Try.underlying15, Try.runUnderlying15, Try.sizeOf15, Try.zeroValue15, Try.isAgg15, fun w => ⟨_, Try.typeInfo15 w, rfl, rfl⟩, ⟨Try.t15, by kernel_rfl, rfl, rfl, rfl⟩⟩
theorem te16 : TE.ok Try.prog 16 ⟨Try.t16.desc, Try.t16.size, Try.t16.bytes, Try.t16.zero.getD undef⟩ := ⟨Try.underlying16, Try.runUnderlying16, Try.sizeOf16, Try.zeroValue16, Try.isAgg16, fun w => ⟨_, Try.typeInfo16 w, rfl, rfl⟩, ⟨Try.t16, by kernel_rfl, rfl, rfl, rfl⟩⟩
theorem te17 : TE.ok Try.prog 17 ⟨Try.t17.desc, Try.t17.size, Try.t17.bytes, Try.t17.zero.getD undef⟩ := ⟨Try.underlying17, Try.runUnderlying17, Try.sizeOf17, Try.zeroValue17, Try.isAgg17, fun w => ⟨_, Try.typeInfo17 w, rfl, rfl⟩, ⟨Try.t17, by kernel_rfl, rfl, rfl, rfl⟩⟩
theorem te18 : TE.ok Try.prog 18 ⟨Try.t18.desc, Try.t18.size, Try.t18.bytes, Try.t18.zero.getD undef⟩ := ⟨Try.underlying18, Try.runUnderlying18, Try.sizeOf18, Try.zeroValue18, Try.isAgg18, fun w => ⟨_, Try.typeInfo18 w, rfl, rfl⟩, ⟨Try.t18, by kernel_rfl, rfl, rfl, rfl⟩⟩
theorem te19 : TE.ok Try.prog 19 ⟨Try.t18.desc, Try.t19.size, Try.t19.bytes, Try.t19.zero.getD undef⟩ := ⟨Try.underlying19, Try.runUnderlying19, Try.sizeOf19, Try.zeroValue19, Try.isAgg19, fun w => ⟨_, Try.typeInfo19 w, rfl, rfl⟩, ⟨Try.t19, by kernel_rfl, rfl, rfl, rfl⟩⟩
theorem te20 : TE.ok Try.prog 20 ⟨Try.t20.desc, Try.t20.size, Try.t20.bytes, Try.t20.zero.getD undef⟩ := ⟨Try.underlying20, Try.runUnderlying20, Try.sizeOf20, Try.zeroValue20, Try.isAgg20, fun w => ⟨_, Try.typeInfo20 w, rfl, rfl⟩, ⟨Try.t20, by kernel_rfl, rfl, rfl, rfl⟩⟩
theorem te21 : TE.ok Try.prog 21 ⟨Try.t21.desc, Try.t21.size, Try.t21.bytes, Try.t21.zero.getD undef⟩ := ⟨Try.underlying21, Try.runUnderlying21, Try.sizeOf21, Try.zeroValue21, Try.isAgg21, fun w => ⟨_, Try.typeInfo21 w, rfl, rfl⟩, ⟨Try.t21, by kernel_rfl, rfl, rfl, rfl⟩⟩
theorem te22 : TE.ok Try.prog 22 ⟨Try.t22.desc, Try.t22.size, Try.t22.bytes, Try.t22.zero.getD undef⟩ := ⟨Try.underlying22, Try.runUnderlying22, Try.sizeOf22, Try.zeroValue22, Try.isAgg22, fun w => ⟨_, Try.typeInfo22 w, rfl, rfl⟩, ⟨Try.t22, by kernel_rfl, rfl, rfl, rfl⟩⟩
theorem te23 : TE.ok Try.prog 23 ⟨Try.t3.desc, Try.t23.size, Try.t23.bytes, Try.t23.zero.getD undef⟩ := ⟨Try.underlying23, Try.runUnderlying23, Try.sizeOf23, Try.zeroValue23, Try.isAgg23, fun w => ⟨_, Try.typeInfo23 w, rfl, rfl⟩, ⟨Try.t23, by kernel_rfl, rfl, rfl, rfl⟩⟩
theorem te24 : TE.ok Try.prog 24 ⟨Try.t24.desc, Try.t24.size, Try.t24.bytes, Try.t24.zero.getD undef⟩ := ⟨Try.underlying24, Try.runUnderlying24, Try.sizeOf24, Try.zeroValue24, Try.isAgg24, fun w => ⟨_, Try.typeInfo24 w, rfl, rfl⟩, ⟨Try.t24, by kernel_rfl, rfl, rfl, rfl⟩⟩
theorem te25 : TE.ok Try.prog 25 ⟨Try.t25.desc, Try.t25.size, Try.t25.bytes, Try.t25.zero.getD undef⟩ := ⟨Try.underlying25, Try.runUnderlying25, Try.sizeOf25, Try.zeroValue25, Try.isAgg25, fun w => ⟨_, Try.typeInfo25 w, rfl, rfl⟩, ⟨Try.t25, by kernel_rfl, rfl, rfl, rfl⟩⟩
theorem te26 : TE.ok Try.prog 26 ⟨Try.t26.desc, Try.t26.size, Try.t26.bytes, Try.t26.zero.getD undef⟩ := ⟨Try.underlying26, Try.runUnderlying26, Try.sizeOf26, Try.zeroValue26, Try.isAgg26, fun w => ⟨_, Try.typeInfo26 w, rfl, rfl⟩, ⟨Try.t26, by kernel_rfl, rfl, rfl, rfl⟩⟩
theorem te27 : TE.ok Try.prog 27 ⟨Try.t26.desc, Try.t27.size, Try.t27.bytes, Try.t27.zero.getD undef⟩ := ⟨Try.underlying27, Try.runUnderlying27, Try.sizeOf27, Try.zeroValue27, Try.isAgg27, fun w => ⟨_, Try.typeInfo27 w, rfl, rfl⟩, ⟨Try.t27, by kernel_rfl, rfl, rfl, rfl⟩⟩
theorem te28 : TE.ok Try.prog 28 ⟨Try.t28.desc, Try.t28.size, Try.t28.bytes, Try.t28.zero.getD undef⟩ := ⟨Try.underlying28, Try.runUnderlying28, Try.sizeOf28, Try.zeroValue28, Try.isAgg28, fun w => ⟨_, Try.typeInfo28 w, rfl, rfl⟩, ⟨Try.t28, by kernel_rfl, rfl, rfl, rfl⟩⟩
theorem te29 : TE.ok Try.prog 29 ⟨Try.t29.desc, Try.t29.size, Try.t29.bytes, Try.t29.zero.getD undef⟩ := ⟨Try.underlying29, Try.runUnderlying29, Try.sizeOf29, Try.zeroValue29, Try.isAgg29, fun w => ⟨_, Try.typeInfo29 w, rfl, rfl⟩, ⟨Try.t29, by kernel_rfl, rfl, rfl, rfl⟩⟩
theorem te30 : TE.ok Try.prog 30 ⟨Try.t29.desc, Try.t30.size, Try.t30.bytes, Try.t30.zero.getD undef⟩ := ⟨Try.underlying30, Try.runUnderlying30, Try.sizeOf30, Try.zeroValue30, Try.isAgg30, fun w => ⟨_, Try.typeInfo30 w, rfl, rfl⟩, ⟨Try.t30, by kernel_rfl, rfl, rfl, rfl⟩⟩
theorem te31 : TE.ok Try.prog 31 ⟨Try.t31.desc, Try.t31.size, Try.t31.bytes, Try.t31.zero.getD undef⟩ := ⟨Try.underlying31, Try.runUnderlying31, Try.sizeOf31, Try.zeroValue31, Try.isAgg31, fun w => ⟨_, Try.typeInfo31 w, rfl, rfl⟩, ⟨Try.t31, by kernel_rfl, rfl, rfl, rfl⟩⟩
theorem te32 : TE.ok Try.prog 32 ⟨Try.t32.desc, Try.t32.size, Try.t32.bytes, Try.t32.zero.getD undef⟩ := ⟨Try.underlying32, Try.runUnderlying32, Try.sizeOf32, Try.zeroValue32, Try.isAgg32, fun w => ⟨_, Try.typeInfo32 w, rfl, rfl⟩, ⟨Try.t32, by kernel_rfl, rfl, rfl, rfl⟩⟩
theorem te33 : TE.ok Try.prog 33 ⟨Try.t33.desc, Try.t33.size, Try.t33.bytes, Try.t33.zero.getD undef⟩ := ⟨Try.underlying33, Try.runUnderlying33, Try.sizeOf33, Try.zeroValue33, Try.isAgg33, fun w => ⟨_, Try.typeInfo33 w, rfl, rfl⟩, ⟨Try.t33, by kernel_rfl, rfl, rfl, rfl⟩⟩
theorem te34 : TE.ok Try.prog 34 ⟨Try.t34.desc, Try.t34.size, Try.t34.bytes, Try.t34.zero.getD undef⟩ := ⟨Try.underlying34, Try.runUnderlying34, Try.sizeOf34, Try.zeroValue34, Try.isAgg34, fun w => ⟨_, Try.typeInfo34 w, rfl, rfl⟩, ⟨Try.t34, by kernel_rfl, rfl, rfl, rfl⟩⟩
theorem te35 : TE.ok Try.prog 35 ⟨Try.t35.desc, Try.t35.size, Try.t35.bytes, Try.t35.zero.getD undef⟩ := ⟨Try.underlying35, Try.runUnderlying35, Try.sizeOf35, Try.zeroValue35, Try.isAgg35, fun w => ⟨_, Try.typeInfo35 w, rfl, rfl⟩, ⟨Try.t35, by kernel_rfl, rfl, rfl, rfl⟩⟩
theorem te36 : TE.ok Try.prog 36 ⟨Try.t36.desc, Try.t36.size, Try.t36.bytes, Try.t36.zero.getD undef⟩ := ⟨Try.underlying36, Try.runUnderlying36, Try.sizeOf36, Try.zeroValue36, Try.isAgg36, fun w => ⟨_, Try.typeInfo36 w, rfl, rfl⟩, ⟨Try.t36, by kernel_rfl, rfl, rfl, rfl⟩⟩
theorem te37 : TE.ok Try.prog 37 ⟨Try.t36.desc, Try.t37.size, Try.t37.bytes, Try.t37.zero.getD undef⟩ := ⟨Try.underlying37, Try.runUnderlying37, Try.sizeOf37, Try.zeroValue37, Try.isAgg37, fun w => ⟨_, Try.typeInfo37 w, rfl, rfl⟩, ⟨Try.t37, by kernel_rfl, rfl, rfl, rfl⟩⟩
theorem te38 : TE.ok Try.prog 38 ⟨Try.t38.desc, Try.t38.size, Try.t38.bytes, Try.t38.zero.getD undef⟩ := ⟨Try.underlying38, Try.runUnderlying38, Try.sizeOf38, Try.zeroValue38, Try.isAgg38, fun w => ⟨_, Try.typeInfo38 w, rfl, rfl⟩, ⟨Try.t38, by kernel_rfl, rfl, rfl, rfl⟩⟩
theorem te39 : TE.ok Try.prog 39 ⟨Try.t39.desc, Try.t39.size, Try.t39.bytes, Try.t39.zero.getD undef⟩ := ⟨Try.underlying39, Try.runUnderlying39, Try.sizeOf39, Try.zeroValue39, Try.isAgg39, fun w => ⟨_, Try.typeInfo39 w, rfl, rfl⟩, ⟨Try.t39, by kernel_rfl, rfl, rfl, rfl⟩⟩
theorem te40 : TE.ok Try.prog 40 ⟨Try.t40.desc, Try.t40.size, Try.t40.bytes, Try.t40.zero.getD undef⟩ := ⟨Try.underlying40, Try.runUnderlying40, Try.sizeOf40, Try.zeroValue40, Try.isAgg40, fun w => ⟨_, Try.typeInfo40 w, rfl, rfl⟩, ⟨Try.t40, by kernel_rfl, rfl, rfl, rfl⟩⟩
theorem te41 : TE.ok Try.prog 41 ⟨Try.t41.desc, Try.t41.size, Try.t41.bytes, Try.t41.zero.getD undef⟩ := ⟨Try.underlying41, Try.runUnderlying41, Try.sizeOf41, Try.zeroValue41, Try.isAgg41, fun w => ⟨_, Try.typeInfo41 w, rfl, rfl⟩, ⟨Try.t41, by kernel_rfl, rfl, rfl, rfl⟩⟩
theorem te42 : TE.ok Try.prog 42 ⟨Try.t42.desc, Try.t42.size, Try.t42.bytes, Try.t42.zero.getD undef⟩ := ⟨Try.underlying42, Try.runUnderlying42, Try.sizeOf42, Try.zeroValue42, Try.isAgg42, fun w => ⟨_, Try.typeInfo42 w, rfl, rfl⟩, ⟨Try.t42, by kernel_rfl, rfl, rfl, rfl⟩⟩
theorem te43 : TE.ok Try.prog 43 ⟨Try.t43.desc, Try.t43.size, Try.t43.bytes, Try.t43.zero.getD undef⟩ := ⟨Try.underlying43, Try.runUnderlying43, Try.sizeOf43, Try.zeroValue43, Try.isAgg43, fun w => ⟨_, Try.typeInfo43 w, rfl, rfl⟩, ⟨Try.t43, by kernel_rfl, rfl, rfl, rfl⟩⟩
theorem te44 : TE.ok Try.prog 44 ⟨Try.t43.desc, Try.t44.size, Try.t44.bytes, Try.t44.zero.getD undef⟩ := ⟨Try.underlying44, Try.runUnderlying44, Try.sizeOf44, Try.zeroValue44, Try.isAgg44, fun w => ⟨_, Try.typeInfo44 w, rfl, rfl⟩, ⟨Try.t44, by kernel_rfl, rfl, rfl, rfl⟩⟩
theorem te45 : TE.ok Try.prog 45 ⟨Try.t45.desc, Try.t45.size, Try.t45.bytes, Try.t45.zero.getD undef⟩ := ⟨Try.underlying45, Try.runUnderlying45, Try.sizeOf45, Try.zeroValue45, Try.isAgg45, fun w => ⟨_, Try.typeInfo45 w, rfl, rfl⟩, ⟨Try.t45, by kernel_rfl, rfl, rfl, rfl⟩⟩
theorem te46 : TE.ok Try.prog 46 ⟨Try.t46.desc, Try.t46.size, Try.t46.bytes, Try.t46.zero.getD undef⟩ := ⟨Try.underlying46, Try.runUnderlying46, Try.sizeOf46, Try.zeroValue46, Try.isAgg46, fun w => ⟨_, Try.typeInfo46 w, rfl, rfl⟩, ⟨Try.t46, by kernel_rfl, rfl, rfl, rfl⟩⟩
theorem te47 : TE.ok Try.prog 47 ⟨Try.t47.desc, Try.t47.size, Try.t47.bytes, Try.t47.zero.getD undef⟩ := ⟨Try.underlying47, Try.runUnderlying47, Try.sizeOf47, Try.zeroValue47, Try.isAgg47, fun w => ⟨_, Try.typeInfo47 w, rfl, rfl⟩, ⟨Try.t47, by kernel_rfl, rfl, rfl, rfl⟩⟩
theorem te48 : TE.ok Try.prog 48 ⟨Try.t48.desc, Try.t48.size, Try.t48.bytes, Try.t48.zero.getD undef⟩ := ⟨Try.underlying48, Try.runUnderlying48, Try.sizeOf48, Try.zeroValue48, Try.isAgg48, fun w => ⟨_, Try.typeInfo48 w, rfl, rfl⟩, ⟨Try.t48, by kernel_rfl, rfl, rfl, rfl⟩⟩
theorem te49 : TE.ok Try.prog 49 ⟨Try.t49.desc, Try.t49.size, Try.t49.bytes, Try.t49.zero.getD undef⟩ := ⟨Try.underlying49, Try.runUnderlying49, Try.sizeOf49, Try.zeroValue49, Try.isAgg49, fun w => ⟨_, Try.typeInfo49 w, rfl, rfl⟩, ⟨Try.t49, by kernel_rfl, rfl, rfl, rfl⟩⟩
theorem te50 : TE.ok Try.prog 50 ⟨Try.t50.desc, Try.t50.size, Try.t50.bytes, Try.t50.zero.getD undef⟩ := ⟨Try.underlying50, Try.runUnderlying50, Try.sizeOf50, Try.zeroValue50, Try.isAgg50, fun w => ⟨_, Try.typeInfo50 w, rfl, rfl⟩, ⟨Try.t50, by kernel_rfl, rfl, rfl, rfl⟩⟩
theorem te51 : TE.ok Try.prog 51 ⟨Try.t51.desc, Try.t51.size, Try.t51.bytes, Try.t51.zero.getD undef⟩ := ⟨Try.underlying51, Try.runUnderlying51, Try.sizeOf51, Try.zeroValue51, Try.isAgg51, fun w => ⟨_, Try.typeInfo51 w, rfl, rfl⟩, ⟨Try.t51, by kernel_rfl, rfl, rfl, rfl⟩⟩
theorem te52 : TE.ok Try.prog 52 ⟨Try.t51.desc, Try.t52.size, Try.t52.bytes, Try.t52.zero.getD undef⟩ := ⟨Try.underlying52, Try.runUnderlying52, Try.sizeOf52, Try.zeroValue52, Try.isAgg52, fun w => ⟨_, Try.typeInfo52 w, rfl, rfl⟩, ⟨Try.t52, by kernel_rfl, rfl, rfl, rfl⟩⟩
theorem te53 : TE.ok Try.prog 53 ⟨Try.t53.desc, Try.t53.size, Try.t53.bytes, Try.t53.zero.getD undef⟩ := ⟨Try.underlying53, Try.runUnderlying53, Try.sizeOf53, Try.zeroValue53, Try.isAgg53, fun w => ⟨_, Try.typeInfo53 w, rfl, rfl⟩, ⟨Try.t53, by kernel_rfl, rfl, rfl, rfl⟩⟩
theorem te54 : TE.ok Try.prog 54 ⟨Try.t54.desc, Try.t54.size, Try.t54.bytes, Try.t54.zero.getD undef⟩ := ⟨Try.underlying54, Try.runUnderlying54, Try.sizeOf54, Try.zeroValue54, Try.isAgg54, fun w => ⟨_, Try.typeInfo54 w, rfl, rfl⟩, ⟨Try.t54, by kernel_rfl, rfl, rfl, rfl⟩⟩
theorem te55 : TE.ok Try.prog 55 ⟨Try.t55.desc, Try.t55.size, Try.t55.bytes, Try.t55.zero.getD undef⟩ := ⟨Try.underlying55, Try.runUnderlying55, Try.sizeOf55, Try.zeroValue55, Try.isAgg55, fun w => ⟨_, Try.typeInfo55 w, rfl, rfl⟩, ⟨Try.t55, by kernel_rfl, rfl, rfl, rfl⟩⟩
theorem te56 : TE.ok Try.prog 56 ⟨Try.t56.desc, Try.t56.size, Try.t56.bytes, Try.t56.zero.getD undef⟩ := ⟨Try.underlying56, Try.runUnderlying56, Try.sizeOf56, Try.zeroValue56, Try.isAgg56, fun w => ⟨_, Try.typeInfo56 w, rfl, rfl⟩, ⟨Try.t56, by kernel_rfl, rfl, rfl, rfl⟩⟩
theorem te57 : TE.ok Try.prog 57 ⟨Try.t57.desc, Try.t57.size, Try.t57.bytes, Try.t57.zero.getD undef⟩ := ⟨Try.underlying57, Try.runUnderlying57, Try.sizeOf57, Try.zeroValue57, Try.isAgg57, fun w => ⟨_, Try.typeInfo57 w, rfl, rfl⟩, ⟨Try.t57, by kernel_rfl, rfl, rfl, rfl⟩⟩
theorem te58 : TE.ok Try.prog 58 ⟨Try.t58.desc, Try.t58.size, Try.t58.bytes, Try.t58.zero.getD undef⟩ := ⟨Try.underlying58, Try.runUnderlying58, Try.sizeOf58, Try.zeroValue58, Try.isAgg58, fun w => ⟨_, Try.typeInfo58 w, rfl, rfl⟩, ⟨Try.t58, by kernel_rfl, rfl, rfl, rfl⟩⟩
theorem te59 : TE.ok Try.prog 59 ⟨Try.t59.desc, Try.t59.size, Try.t59.bytes, Try.t59.zero.getD undef⟩ := ⟨Try.underlying59, Try.runUnderlying59, Try.sizeOf59, Try.zeroValue59, Try.isAgg59, fun w => ⟨_, Try.typeInfo59 w, rfl, rfl⟩, ⟨Try.t59, by kernel_rfl, rfl, rfl, rfl⟩⟩
theorem te60 : TE.ok Try.prog 60 ⟨Try.t60.desc, Try.t60.size, Try.t60.bytes, Try.t60.zero.getD undef⟩ := ⟨Try.underlying60, Try.runUnderlying60, Try.sizeOf60, Try.zeroValue60, Try.isAgg60, fun w => ⟨_, Try.typeInfo60 w, rfl, rfl⟩, ⟨Try.t60, by kernel_rfl, rfl, rfl, rfl⟩⟩
theorem te61 : TE.ok Try.prog 61 ⟨Try.t61.desc, Try.t61.size, Try.t61.bytes, Try.t61.zero.getD undef⟩ := ⟨Try.underlying61, Try.runUnderlying61, Try.sizeOf61, Try.zeroValue61, Try.isAgg61, fun w => ⟨_, Try.typeInfo61 w, rfl, rfl⟩, ⟨Try.t61, by kernel_rfl, rfl, rfl, rfl⟩⟩
theorem te62 : TE.ok Try.prog 62 ⟨Try.t62.desc, Try.t62.size, Try.t62.bytes, Try.t62.zero.getD undef⟩ := ⟨Try.underlying62, Try.runUnderlying62, Try.sizeOf62, Try.zeroValue62, Try.isAgg62, fun w => ⟨_, Try.typeInfo62 w, rfl, rfl⟩, ⟨Try.t62, by kernel_rfl, rfl, rfl, rfl⟩⟩
theorem te63 : TE.ok Try.prog 63 ⟨Try.t63.desc, Try.t63.size, Try.t63.bytes, Try.t63.zero.getD undef⟩ := ⟨Try.underlying63, Try.runUnderlying63, Try.sizeOf63, Try.zeroValue63, Try.isAgg63, fun w => ⟨_, Try.typeInfo63 w, rfl, rfl⟩, ⟨Try.t63, by kernel_rfl, rfl, rfl, rfl⟩⟩
theorem te64 : TE.ok Try.prog 64 ⟨Try.t64.desc, Try.t64.size, Try.t64.bytes, Try.t64.zero.getD undef⟩ := ⟨Try.underlying64, Try.runUnderlying64, Try.sizeOf64, Try.zeroValue64, Try.isAgg64, fun w => ⟨_, Try.typeInfo64 w, rfl, rfl⟩, ⟨Try.t64, by kernel_rfl, rfl, rfl, rfl⟩⟩
theorem te65 : TE.ok Try.prog 65 ⟨Try.t65.desc, Try.t65.size, Try.t65.bytes, Try.t65.zero.getD undef⟩ := ⟨Try.underlying65, Try.runUnderlying65, Try.sizeOf65, Try.zeroValue65, Try.isAgg65, fun w => ⟨_, Try.typeInfo65 w, rfl, rfl⟩, ⟨Try.t65, by kernel_rfl, rfl, rfl, rfl⟩⟩
theorem te66 : TE.ok Try.prog 66 ⟨Try.t66.desc, Try.t66.size, Try.t66.bytes, Try.t66.zero.getD undef⟩ := ⟨Try.underlying66, Try.runUnderlying66, Try.sizeOf66, Try.zeroValue66, Try.isAgg66, fun w => ⟨_, Try.typeInfo66 w, rfl, rfl⟩, ⟨Try.t66, by kernel_rfl, rfl, rfl, rfl⟩⟩
theorem te67 : TE.ok Try.prog 67 ⟨Try.t67.desc, Try.t67.size, Try.t67.bytes, Try.t67.zero.getD undef⟩ := ⟨Try.underlying67, Try.runUnderlying67, Try.sizeOf67, Try.zeroValue67, Try.isAgg67, fun w => ⟨_, Try.typeInfo67 w, rfl, rfl⟩, ⟨Try.t67, by kernel_rfl, rfl, rfl, rfl⟩⟩
theorem te68 : TE.ok Try.prog 68 ⟨Try.t68.desc, Try.t68.size, Try.t68.bytes, Try.t68.zero.getD undef⟩ := ⟨Try.underlying68, Try.runUnderlying68, Try.sizeOf68, Try.zeroValue68, Try.isAgg68, fun w => ⟨_, Try.typeInfo68 w, rfl, rfl⟩, ⟨Try.t68, by kernel_rfl, rfl, rfl, rfl⟩⟩
theorem te69 : TE.ok Try.prog 69 ⟨Try.t69.desc, Try.t69.size, Try.t69.bytes, Try.t69.zero.getD undef⟩ := ⟨Try.underlying69, Try.runUnderlying69, Try.sizeOf69, Try.zeroValue69, Try.isAgg69, fun w => ⟨_, Try.typeInfo69 w, rfl, rfl⟩, ⟨Try.t69, by kernel_rfl, rfl, rfl, rfl⟩⟩
theorem te70 : TE.ok Try.prog 70 ⟨Try.t70.desc, Try.t70.size, Try.t70.bytes, Try.t70.zero.getD undef⟩ := ⟨Try.underlying70, Try.runUnderlying70, Try.sizeOf70, Try.zeroValue70, Try.isAgg70, fun w => ⟨_, Try.typeInfo70 w, rfl, rfl⟩, ⟨Try.t70, by kernel_rfl, rfl, rfl, rfl⟩⟩
theorem te71 : TE.ok Try.prog 71 ⟨Try.t71.desc, Try.t71.size, Try.t71.bytes, Try.t71.zero.getD undef⟩ := ⟨Try.underlying71, Try.runUnderlying71, Try.sizeOf71, Try.zeroValue71, Try.isAgg71, fun w => ⟨_, Try.typeInfo71 w, rfl, rfl⟩, ⟨Try.t71, by kernel_rfl, rfl, rfl, rfl⟩⟩
theorem te72 : TE.ok Try.prog 72 ⟨Try.t72.desc, Try.t72.size, Try.t72.bytes, Try.t72.zero.getD undef⟩ := ⟨Try.underlying72, Try.runUnderlying72, Try.sizeOf72, Try.zeroValue72, Try.isAgg72, fun w => ⟨_, Try.typeInfo72 w, rfl, rfl⟩, ⟨Try.t72, by kernel_rfl, rfl, rfl, rfl⟩⟩
theorem te73 : TE.ok Try.prog 73 ⟨Try.t73.desc, Try.t73.size, Try.t73.bytes, Try.t73.zero.getD undef⟩ := ⟨Try.underlying73, Try.runUnderlying73, Try.sizeOf73, Try.zeroValue73, Try.isAgg73, fun w => ⟨_, Try.typeInfo73 w, rfl, rfl⟩, ⟨Try.t73, by kernel_rfl, rfl, rfl, rfl⟩⟩
theorem te74 : TE.ok Try.prog 74 ⟨Try.t73.desc, Try.t74.size, Try.t74.bytes, Try.t74.zero.getD undef⟩ := ⟨Try.underlying74, Try.runUnderlying74, Try.sizeOf74, Try.zeroValue74, Try.isAgg74, fun w => ⟨_, Try.typeInfo74 w, rfl, rfl⟩, ⟨Try.t74, by kernel_rfl, rfl, rfl, rfl⟩⟩
theorem te75 : TE.ok Try.prog 75 ⟨Try.t75.desc, Try.t75.size, Try.t75.bytes, Try.t75.zero.getD undef⟩ := ⟨Try.underlying75, Try.runUnderlying75, Try.sizeOf75, Try.zeroValue75, Try.isAgg75, fun w => ⟨_, Try.typeInfo75 w, rfl, rfl⟩, ⟨Try.t75, by kernel_rfl, rfl, rfl, rfl⟩⟩
theorem te76 : TE.ok Try.prog 76 ⟨Try.t76.desc, Try.t76.size, Try.t76.bytes, Try.t76.zero.getD undef⟩ := ⟨Try.underlying76, Try.runUnderlying76, Try.sizeOf76, Try.zeroValue76, Try.isAgg76, fun w => ⟨_, Try.typeInfo76 w, rfl, rfl⟩, ⟨Try.t76, by kernel_rfl, rfl, rfl, rfl⟩⟩
theorem te77 : TE.ok Try.prog 77 ⟨Try.t77.desc, Try.t77.size, Try.t77.bytes, Try.t77.zero.getD undef⟩ := ⟨Try.underlying77, Try.runUnderlying77, Try.sizeOf77, Try.zeroValue77, Try.isAgg77, fun w => ⟨_, Try.typeInfo77 w, rfl, rfl⟩, ⟨Try.t77, by kernel_rfl, rfl, rfl, rfl⟩⟩
theorem te78 : TE.ok Try.prog 78 ⟨Try.t78.desc, Try.t78.size, Try.t78.bytes, Try.t78.zero.getD undef⟩ := ⟨Try.underlying78, Try.runUnderlying78, Try.sizeOf78, Try.zeroValue78, Try.isAgg78, fun w => ⟨_, Try.typeInfo78 w, rfl, rfl⟩, ⟨Try.t78, by kernel_rfl, rfl, rfl, rfl⟩⟩
theorem te79 : TE.ok Try.prog 79 ⟨Try.t79.desc, Try.t79.size, Try.t79.bytes, Try.t79.zero.getD undef⟩ := ⟨Try.underlying79, Try.runUnderlying79, Try.sizeOf79, Try.zeroValue79, Try.isAgg79, fun w => ⟨_, Try.typeInfo79 w, rfl, rfl⟩, ⟨Try.t79, by kernel_rfl, rfl, rfl, rfl⟩⟩
theorem te80 : TE.ok Try.prog 80 ⟨Try.t80.desc, Try.t80.size, Try.t80.bytes, Try.t80.zero.getD undef⟩ := ⟨Try.underlying80, Try.runUnderlying80, Try.sizeOf80, Try.zeroValue80, Try.isAgg80, fun w => ⟨_, Try.typeInfo80 w, rfl, rfl⟩, ⟨Try.t80, by kernel_rfl, rfl, rfl, rfl⟩⟩
theorem te81 : TE.ok Try.prog 81 ⟨Try.t80.desc, Try.t81.size, Try.t81.bytes, Try.t81.zero.getD undef⟩ := ⟨Try.underlying81, Try.runUnderlying81, Try.sizeOf81, Try.zeroValue81, Try.isAgg81, fun w => ⟨_, Try.typeInfo81 w, rfl, rfl⟩, ⟨Try.t81, by kernel_rfl, rfl, rfl, rfl⟩⟩
theorem te82 : TE.ok Try.prog 82 ⟨Try.t82.desc, Try.t82.size, Try.t82.bytes, Try.t82.zero.getD undef⟩ := ⟨Try.underlying82, Try.runUnderlying82, Try.sizeOf82, Try.zeroValue82, Try.isAgg82, fun w => ⟨_, Try.typeInfo82 w, rfl, rfl⟩, ⟨Try.t82, by kernel_rfl, rfl, rfl, rfl⟩⟩
theorem te83 : TE.ok Try.prog 83 ⟨Try.t83.desc, Try.t83.size, Try.t83.bytes, Try.t83.zero.getD undef⟩ := ⟨Try.underlying83, Try.runUnderlying83, Try.sizeOf83, Try.zeroValue83, Try.isAgg83, fun w => ⟨_, Try.typeInfo83 w, rfl, rfl⟩, ⟨Try.t83, by kernel_rfl, rfl, rfl, rfl⟩⟩
theorem te84 : TE.ok Try.prog 84 ⟨Try.t84.desc, Try.t84.size, Try.t84.bytes, Try.t84.zero.getD undef⟩ := ⟨Try.underlying84, Try.runUnderlying84, Try.sizeOf84, Try.zeroValue84, Try.isAgg84, fun w => ⟨_, Try.typeInfo84 w, rfl, rfl⟩, ⟨Try.t84, by kernel_rfl, rfl, rfl, rfl⟩⟩
theorem te85 : TE.ok Try.prog 85 ⟨Try.t85.desc, Try.t85.size, Try.t85.bytes, Try.t85.zero.getD undef⟩ := ⟨Try.underlying85, Try.runUnderlying85, Try.sizeOf85, Try.zeroValue85, Try.isAgg85, fun w => ⟨_, Try.typeInfo85 w, rfl, rfl⟩, ⟨Try.t85, by kernel_rfl, rfl, rfl, rfl⟩⟩
theorem te86 : TE.ok Try.prog 86 ⟨Try.t86.desc, Try.t86.size, Try.t86.bytes, Try.t86.zero.getD undef⟩ := ⟨Try.underlying86, Try.runUnderlying86, Try.sizeOf86, Try.zeroValue86, Try.isAgg86, fun w => ⟨_, Try.typeInfo86 w, rfl, rfl⟩, ⟨Try.t86, by kernel_rfl, rfl, rfl, rfl⟩⟩
theorem te87 : TE.ok Try.prog 87 ⟨Try.t87.desc, Try.t87.size, Try.t87.bytes, Try.t87.zero.getD undef⟩ := ⟨Try.underlying87, Try.runUnderlying87, Try.sizeOf87, Try.zeroValue87, Try.isAgg87, fun w => ⟨_, Try.typeInfo87 w, rfl, rfl⟩, ⟨Try.t87, by kernel_rfl, rfl, rfl, rfl⟩⟩
theorem te88 : TE.ok Try.prog 88 ⟨Try.t88.desc, Try.t88.size, Try.t88.bytes, Try.t88.zero.getD undef⟩ := ⟨Try.underlying88, Try.runUnderlying88, Try.sizeOf88, Try.zeroValue88, Try.isAgg88, fun w => ⟨_, Try.typeInfo88 w, rfl, rfl⟩, ⟨Try.t88, by kernel_rfl, rfl, rfl, rfl⟩⟩
theorem te89 : TE.ok Try.prog 89 ⟨Try.t89.desc, Try.t89.size, Try.t89.bytes, Try.t89.zero.getD undef⟩ := ⟨Try.underlying89, Try.runUnderlying89, Try.sizeOf89, Try.zeroValue89, Try.isAgg89, fun w => ⟨_, Try.typeInfo89 w, rfl, rfl⟩, ⟨Try.t89, by kernel_rfl, rfl, rfl, rfl⟩⟩
theorem te90 : TE.ok Try.prog 90 ⟨Try.t90.desc, Try.t90.size, Try.t90.bytes, Try.t90.zero.getD undef⟩ := ⟨Try.underlying90, Try.runUnderlying90, Try.sizeOf90, Try.zeroValue90, Try.isAgg90, fun w => ⟨_, Try.typeInfo90 w, rfl, rfl⟩, ⟨Try.t90, by kernel_rfl, rfl, rfl, rfl⟩⟩
theorem te91 : TE.ok Try.prog 91 ⟨Try.t91.desc, Try.t91.size, Try.t91.bytes, Try.t91.zero.getD undef⟩ := ⟨Try.underlying91, Try.runUnderlying91, Try.sizeOf91, Try.zeroValue91, Try.isAgg91, fun w => ⟨_, Try.typeInfo91 w, rfl, rfl⟩, ⟨Try.t91, by kernel_rfl, rfl, rfl, rfl⟩⟩
theorem te92 : TE.ok Try.prog 92 ⟨Try.t92.desc, Try.t92.size, Try.t92.bytes, Try.t92.zero.getD undef⟩ := ⟨Try.underlying92, Try.runUnderlying92, Try.sizeOf92, Try.zeroValue92, Try.isAgg92, fun w => ⟨_, Try.typeInfo92 w, rfl, rfl⟩, ⟨Try.t92, by kernel_rfl, rfl, rfl, rfl⟩⟩
theorem te93 : TE.ok Try.prog 93 ⟨Try.t93.desc, Try.t93.size, Try.t93.bytes, Try.t93.zero.getD undef⟩ := ⟨Try.underlying93, Try.runUnderlying93, Try.sizeOf93, Try.zeroValue93, Try.isAgg93, fun w => ⟨_, Try.typeInfo93 w, rfl, rfl⟩, ⟨Try.t93, by kernel_rfl, rfl, rfl, rfl⟩⟩
theorem te94 : TE.ok Try.prog 94 ⟨Try.t94.desc, Try.t94.size, Try.t94.bytes, Try.t94.zero.getD undef⟩ := ⟨Try.underlying94, Try.runUnderlying94, Try.sizeOf94, Try.zeroValue94, Try.isAgg94, fun w => ⟨_, Try.typeInfo94 w, rfl, rfl⟩, ⟨Try.t94, by kernel_rfl, rfl, rfl, rfl⟩⟩
theorem te95 : TE.ok Try.prog 95 ⟨Try.t95.desc, Try.t95.size, Try.t95.bytes, Try.t95.zero.getD undef⟩ := ⟨Try.underlying95, Try.runUnderlying95, Try.sizeOf95, Try.zeroValue95, Try.isAgg95, fun w => ⟨_, Try.typeInfo95 w, rfl, rfl⟩, ⟨Try.t95, by kernel_rfl, rfl, rfl, rfl⟩⟩
theorem te96 : TE.ok Try.prog 96 ⟨Try.t96.desc, Try.t96.size, Try.t96.bytes, Try.t96.zero.getD undef⟩ := ⟨Try.underlying96, Try.runUnderlying96, Try.sizeOf96, Try.zeroValue96, Try.isAgg96, fun w => ⟨_, Try.typeInfo96 w, rfl, rfl⟩, ⟨Try.t96, by kernel_rfl, rfl, rfl, rfl⟩⟩
theorem te97 : TE.ok Try.prog 97 ⟨Try.t97.desc, Try.t97.size, Try.t97.bytes, Try.t97.zero.getD undef⟩ := ⟨Try.underlying97, Try.runUnderlying97, Try.sizeOf97, Try.zeroValue97, Try.isAgg97, fun w => ⟨_, Try.typeInfo97 w, rfl, rfl⟩, ⟨Try.t97, by kernel_rfl, rfl, rfl, rfl⟩⟩
theorem te98 : TE.ok Try.prog 98 ⟨Try.t98.desc, Try.t98.size, Try.t98.bytes, Try.t98.zero.getD undef⟩ := ⟨Try.underlying98, Try.runUnderlying98, Try.sizeOf98, Try.zeroValue98, Try.isAgg98, fun w => ⟨_, Try.typeInfo98 w, rfl, rfl⟩, ⟨Try.t98, by kernel_rfl, rfl, rfl, rfl⟩⟩
theorem te99 : TE.ok Try.prog 99 ⟨Try.t99.desc, Try.t99.size, Try.t99.bytes, Try.t99.zero.getD undef⟩ := ⟨Try.underlying99, Try.runUnderlying99, Try.sizeOf99, Try.zeroValue99, Try.isAgg99, fun w => ⟨_, Try.typeInfo99 w, rfl, rfl⟩, ⟨Try.t99, by kernel_rfl, rfl, rfl, rfl⟩⟩
theorem te100 : TE.ok Try.prog 100 ⟨Try.t100.desc, Try.t100.size, Try.t100.bytes, Try.t100.zero.getD undef⟩ := ⟨Try.underlying100, Try.runUnderlying100, Try.sizeOf100, Try.zeroValue100, Try.isAgg100, fun w => ⟨_, Try.typeInfo100 w, rfl, rfl⟩, ⟨Try.t100, by kernel_rfl, rfl, rfl, rfl⟩⟩
theorem te101 : TE.ok Try.prog 101 ⟨Try.t101.desc, Try.t101.size, Try.t101.bytes, Try.t101.zero.getD undef⟩ := ⟨Try.underlying101, Try.runUnderlying101, Try.sizeOf101, Try.zeroValue101, Try.isAgg101, fun w => ⟨_, Try.typeInfo101 w, rfl, rfl⟩, ⟨Try.t101, by kernel_rfl, rfl, rfl, rfl⟩⟩
theorem te102 : TE.ok Try.prog 102 ⟨Try.t102.desc, Try.t102.size, Try.t102.bytes, Try.t102.zero.getD undef⟩ := ⟨Try.underlying102, Try.runUnderlying102, Try.sizeOf102, Try.zeroValue102, Try.isAgg102, fun w => ⟨_, Try.typeInfo102 w, rfl, rfl⟩, ⟨Try.t102, by kernel_rfl, rfl, rfl, rfl⟩⟩
theorem te103 : TE.ok Try.prog 103 ⟨Try.t103.desc, Try.t103.size, Try.t103.bytes, Try.t103.zero.getD undef⟩ := ⟨Try.underlying103, Try.runUnderlying103, Try.sizeOf103, Try.zeroValue103, Try.isAgg103, fun w => ⟨_, Try.typeInfo103 w, rfl, rfl⟩, ⟨Try.t103, by kernel_rfl, rfl, rfl, rfl⟩⟩
theorem te104 : TE.ok Try.prog 104 ⟨Try.t104.desc, Try.t104.size, Try.t104.bytes, Try.t104.zero.getD undef⟩ := ⟨Try.underlying104, Try.runUnderlying104, Try.sizeOf104, Try.zeroValue104, Try.isAgg104, fun w => ⟨_, Try.typeInfo104 w, rfl, rfl⟩, ⟨Try.t104, by kernel_rfl, rfl, rfl, rfl⟩⟩
theorem te105 : TE.ok Try.prog 105 ⟨Try.t105.desc, Try.t105.size, Try.t105.bytes, Try.t105.zero.getD undef⟩ := ⟨Try.underlying105, Try.runUnderlying105, Try.sizeOf105, Try.zeroValue105, Try.isAgg105, fun w => ⟨_, Try.typeInfo105 w, rfl, rfl⟩, ⟨Try.t105, by kernel_rfl, rfl, rfl, rfl⟩⟩
theorem te106 : TE.ok Try.prog 106 ⟨Try.t106.desc, Try.t106.size, Try.t106.bytes, Try.t106.zero.getD undef⟩ := ⟨Try.underlying106, Try.runUnderlying106, Try.sizeOf106, Try.zeroValue106, Try.isAgg106, fun w => ⟨_, Try.typeInfo106 w, rfl, rfl⟩, ⟨Try.t106, by kernel_rfl, rfl, rfl, rfl⟩⟩
theorem te107 : TE.ok Try.prog 107 ⟨Try.t107.desc, Try.t107.size, Try.t107.bytes, Try.t107.zero.getD undef⟩ := ⟨Try.underlying107, Try.runUnderlying107, Try.sizeOf107, Try.zeroValue107, Try.isAgg107, fun w => ⟨_, Try.typeInfo107 w, rfl, rfl⟩, ⟨Try.t107, by kernel_rfl, rfl, rfl, rfl⟩⟩
theorem te108 : TE.ok Try.prog 108 ⟨Try.t108.desc, Try.t108.size, Try.t108.bytes, Try.t108.zero.getD undef⟩ := ⟨Try.underlying108, Try.runUnderlying108, Try.sizeOf108, Try.zeroValue108, Try.isAgg108, fun w => ⟨_, Try.typeInfo108 w, rfl, rfl⟩, ⟨Try.t108, by kernel_rfl, rfl, rfl, rfl⟩⟩
theorem te109 : TE.ok Try.prog 109 ⟨Try.t109.desc, Try.t109.size, Try.t109.bytes, Try.t109.zero.getD undef⟩ := ⟨Try.underlying109, Try.runUnderlying109, Try.sizeOf109, Try.zeroValue109, Try.isAgg109, fun w => ⟨_, Try.typeInfo109 w, rfl, rfl⟩, ⟨Try.t109, by kernel_rfl, rfl, rfl, rfl⟩⟩
theorem te110 : TE.ok Try.prog 110 ⟨Try.t3.desc, Try.t110.size, Try.t110.bytes, Try.t110.zero.getD undef⟩ := ⟨Try.underlying110, Try.runUnderlying110, Try.sizeOf110, Try.zeroValue110, Try.isAgg110, fun w => ⟨_, Try.typeInfo110 w, rfl, rfl⟩, ⟨Try.t110, by kernel_rfl, rfl, rfl, rfl⟩⟩
theorem te111 : TE.ok Try.prog 111 ⟨Try.t111.desc, Try.t111.size, Try.t111.bytes, Try.t111.zero.getD undef⟩ := ⟨Try.underlying111, Try.runUnderlying111, Try.sizeOf111, Try.zeroValue111, Try.isAgg111, fun w => ⟨_, Try.typeInfo111 w, rfl, rfl⟩, ⟨Try.t111, by kernel_rfl, rfl, rfl, rfl⟩⟩
theorem te112 : TE.ok Try.prog 112 ⟨Try.t112.desc, Try.t112.size, Try.t112.bytes, Try.t112.zero.getD undef⟩ := ⟨Try.underlying112, Try.runUnderlying112, Try.sizeOf112, Try.zeroValue112, Try.isAgg112, fun w => ⟨_, Try.typeInfo112 w, rfl, rfl⟩, ⟨Try.t112, by kernel_rfl, rfl, rfl, rfl⟩⟩
theorem te113 : TE.ok Try.prog 113 ⟨Try.t113.desc, Try.t113.size, Try.t113.bytes, Try.t113.zero.getD undef⟩ := ⟨Try.underlying113, Try.runUnderlying113, Try.sizeOf113, Try.zeroValue113, Try.isAgg113, fun w => ⟨_, Try.typeInfo113 w, rfl, rfl⟩, ⟨Try.t113, by kernel_rfl, rfl, rfl, rfl⟩⟩
theorem te114 : TE.ok Try.prog 114 ⟨Try.t114.desc, Try.t114.size, Try.t114.bytes, Try.t114.zero.getD undef⟩ := ⟨Try.underlying114, Try.runUnderlying114, Try.sizeOf114, Try.zeroValue114, Try.isAgg114, fun w => ⟨_, Try.typeInfo114 w, rfl, rfl⟩, ⟨Try.t114, by kernel_rfl, rfl, rfl, rfl⟩⟩
theorem te115 : TE.ok Try.prog 115 ⟨Try.t115.desc, Try.t115.size, Try.t115.bytes, Try.t115.zero.getD undef⟩ := ⟨Try.underlying115, Try.runUnderlying115, Try.sizeOf115, Try.zeroValue115, Try.isAgg115, fun w => ⟨_, Try.typeInfo115 w, rfl, rfl⟩, ⟨Try.t115, by kernel_rfl, rfl, rfl, rfl⟩⟩
theorem te116 : TE.ok Try.prog 116 ⟨Try.t116.desc, Try.t116.size, Try.t116.bytes, Try.t116.zero.getD undef⟩ := ⟨Try.underlying116, Try.runUnderlying116, Try.sizeOf116, Try.zeroValue116, Try.isAgg116, fun w => ⟨_, Try.typeInfo116 w, rfl, rfl⟩, ⟨Try.t116, by kernel_rfl, rfl, rfl, rfl⟩⟩
theorem te117 : TE.ok Try.prog 117 ⟨Try.t117.desc, Try.t117.size, Try.t117.bytes, Try.t117.zero.getD undef⟩ := ⟨Try.underlying117, Try.runUnderlying117, Try.sizeOf117, Try.zeroValue117, Try.isAgg117, fun w => ⟨_, Try.typeInfo117 w, rfl, rfl⟩, ⟨Try.t117, by kernel_rfl, rfl, rfl, rfl⟩⟩
theorem te118 : TE.ok Try.prog 118 ⟨Try.t118.desc, Try.t118.size, Try.t118.bytes, Try.t118.zero.getD undef⟩ := ⟨Try.underlying118, Try.runUnderlying118, Try.sizeOf118, Try.zeroValue118, Try.isAgg118, fun w => ⟨_, Try.typeInfo118 w, rfl, rfl⟩, ⟨Try.t118, by kernel_rfl, rfl, rfl, rfl⟩⟩
theorem te119 : TE.ok Try.prog 119 ⟨Try.t119.desc, Try.t119.size, Try.t119.bytes, Try.t119.zero.getD undef⟩ := ⟨Try.underlying119, Try.runUnderlying119, Try.sizeOf119, Try.zeroValue119, Try.isAgg119, fun w => ⟨_, Try.typeInfo119 w, rfl, rfl⟩, ⟨Try.t119, by kernel_rfl, rfl, rfl, rfl⟩⟩
theorem te120 : TE.ok Try.prog 120 ⟨Try.t35.desc, Try.t120.size, Try.t120.bytes, Try.t120.zero.getD undef⟩ := ⟨Try.underlying120, Try.runUnderlying120, Try.sizeOf120, Try.zeroValue120, Try.isAgg120, fun w => ⟨_, Try.typeInfo120 w, rfl, rfl⟩, ⟨Try.t120, by kernel_rfl, rfl, rfl, rfl⟩⟩
theorem te121 : TE.ok Try.prog 121 ⟨Try.t121.desc, Try.t121.size, Try.t121.bytes, Try.t121.zero.getD undef⟩ := ⟨Try.underlying121, Try.runUnderlying121, Try.sizeOf121, Try.zeroValue121, Try.isAgg121, fun w => ⟨_, Try.typeInfo121 w, rfl, rfl⟩, ⟨Try.t121, by kernel_rfl, rfl, rfl, rfl⟩⟩
theorem te122 : TE.ok Try.prog 122 ⟨Try.t122.desc, Try.t122.size, Try.t122.bytes, Try.t122.zero.getD undef⟩ := ⟨Try.underlying122, Try.runUnderlying122, Try.sizeOf122, Try.zeroValue122, Try.isAgg122, fun w => ⟨_, Try.typeInfo122 w, rfl, rfl⟩, ⟨Try.t122, by kernel_rfl, rfl, rfl, rfl⟩⟩
theorem te123 : TE.ok Try.prog 123 ⟨Try.t123.desc, Try.t123.size, Try.t123.bytes, Try.t123.zero.getD undef⟩ := ⟨Try.underlying123, Try.runUnderlying123, Try.sizeOf123, Try.zeroValue123, Try.isAgg123, fun w => ⟨_, Try.typeInfo123 w, rfl, rfl⟩, ⟨Try.t123, by kernel_rfl, rfl, rfl, rfl⟩⟩
theorem te124 : TE.ok Try.prog 124 ⟨Try.t124.desc, Try.t124.size, Try.t124.bytes, Try.t124.zero.getD undef⟩ := ⟨Try.underlying124, Try.runUnderlying124, Try.sizeOf124, Try.zeroValue124, Try.isAgg124, fun w => ⟨_, Try.typeInfo124 w, rfl, rfl⟩, ⟨Try.t124, by kernel_rfl, rfl, rfl, rfl⟩⟩
theorem te125 : TE.ok Try.prog 125 ⟨Try.t125.desc, Try.t125.size, Try.t125.bytes, Try.t125.zero.getD undef⟩ := ⟨Try.underlying125, Try.runUnderlying125, Try.sizeOf125, Try.zeroValue125, Try.isAgg125, fun w => ⟨_, Try.typeInfo125 w, rfl, rfl⟩, ⟨Try.t125, by kernel_rfl, rfl, rfl, rfl⟩⟩
theorem te126 : TE.ok Try.prog 126 ⟨Try.t126.desc, Try.t126.size, Try.t126.bytes, Try.t126.zero.getD undef⟩ := ⟨Try.underlying126, Try.runUnderlying126, Try.sizeOf126, Try.zeroValue126, Try.isAgg126, fun w => ⟨_, Try.typeInfo126 w, rfl, rfl⟩, ⟨Try.t126, by kernel_rfl, rfl, rfl, rfl⟩⟩
theorem te127 : TE.ok Try.prog 127 ⟨Try.t127.desc, Try.t127.size, Try.t127.bytes, Try.t127.zero.getD undef⟩ := ⟨Try.underlying127, Try.runUnderlying127, Try.sizeOf127, Try.zeroValue127, Try.isAgg127, fun w => ⟨_, Try.typeInfo127 w, rfl, rfl⟩, ⟨Try.t127, by kernel_rfl, rfl, rfl, rfl⟩⟩
theorem te128 : TE.ok Try.prog 128 ⟨Try.t128.desc, Try.t128.size, Try.t128.bytes, Try.t128.zero.getD undef⟩ := ⟨Try.underlying128, Try.runUnderlying128, Try.sizeOf128, Try.zeroValue128, Try.isAgg128, fun w => ⟨_, Try.typeInfo128 w, rfl, rfl⟩, ⟨Try.t128, by kernel_rfl, rfl, rfl, rfl⟩⟩
theorem te129 : TE.ok Try.prog 129 ⟨Try.t129.desc, Try.t129.size, Try.t129.bytes, Try.t129.zero.getD undef⟩ := ⟨Try.underlying129, Try.runUnderlying129, Try.sizeOf129, Try.zeroValue129, Try.isAgg129, fun w => ⟨_, Try.typeInfo129 w, rfl, rfl⟩, ⟨Try.t129, by kernel_rfl, rfl, rfl, rfl⟩⟩
theorem te130 : TE.ok Try.prog 130 ⟨Try.t130.desc, Try.t130.size, Try.t130.bytes, Try.t130.zero.getD undef⟩ := ⟨Try.underlying130, Try.runUnderlying130, Try.sizeOf130, Try.zeroValue130, Try.isAgg130, fun w => ⟨_, Try.typeInfo130 w, rfl, rfl⟩, ⟨Try.t130, by kernel_rfl, rfl, rfl, rfl⟩⟩
theorem te131 : TE.ok Try.prog 131 ⟨Try.t130.desc, Try.t131.size, Try.t131.bytes, Try.t131.zero.getD undef⟩ := ⟨Try.underlying131, Try.runUnderlying131, Try.sizeOf131, Try.zeroValue131, Try.isAgg131, fun w => ⟨_, Try.typeInfo131 w, rfl, rfl⟩, ⟨Try.t131, by kernel_rfl, rfl, rfl, rfl⟩⟩
theorem te132 : TE.ok Try.prog 132 ⟨Try.t132.desc, Try.t132.size, Try.t132.bytes, Try.t132.zero.getD undef⟩ := ⟨Try.underlying132, Try.runUnderlying132, Try.sizeOf132, Try.zeroValue132, Try.isAgg132, fun w => ⟨_, Try.typeInfo132 w, rfl, rfl⟩, ⟨Try.t132, by kernel_rfl, rfl, rfl, rfl⟩⟩
theorem te133 : TE.ok Try.prog 133 ⟨Try.t133.desc, Try.t133.size, Try.t133.bytes, Try.t133.zero.getD undef⟩ := ⟨Try.underlying133, Try.runUnderlying133, Try.sizeOf133, Try.zeroValue133, Try.isAgg133, fun w => ⟨_, Try.typeInfo133 w, rfl, rfl⟩, ⟨Try.t133, by kernel_rfl, rfl, rfl, rfl⟩⟩
theorem te134 : TE.ok Try.prog 134 ⟨Try.t133.desc, Try.t134.size, Try.t134.bytes, Try.t134.zero.getD undef⟩ := ⟨Try.underlying134, Try.runUnderlying134, Try.sizeOf134, Try.zeroValue134, Try.isAgg134, fun w => ⟨_, Try.typeInfo134 w, rfl, rfl⟩, ⟨Try.t134, by kernel_rfl, rfl, rfl, rfl⟩⟩
theorem te135 : TE.ok Try.prog 135 ⟨Try.t5.desc, Try.t135.size, Try.t135.bytes, Try.t135.zero.getD undef⟩ := ⟨Try.underlying135, Try.runUnderlying135, Try.sizeOf135, Try.zeroValue135, Try.isAgg135, fun w => ⟨_, Try.typeInfo135 w, rfl, rfl⟩, ⟨Try.t135, by kernel_rfl, rfl, rfl, rfl⟩⟩
theorem te136 : TE.ok Try.prog 136 ⟨Try.t5.desc, Try.t136.size, Try.t136.bytes, Try.t136.zero.getD undef⟩ := ⟨Try.underlying136, Try.runUnderlying136, Try.sizeOf136, Try.zeroValue136, Try.isAgg136, fun w => ⟨_, Try.typeInfo136 w, rfl, rfl⟩, ⟨Try.t136, by kernel_rfl, rfl, rfl, rfl⟩⟩
theorem te137 : TE.ok Try.prog 137 ⟨Try.t137.desc, Try.t137.size, Try.t137.bytes, Try.t137.zero.getD undef⟩ := ⟨Try.underlying137, Try.runUnderlying137, Try.sizeOf137, Try.zeroValue137, Try.isAgg137, fun w => ⟨_, Try.typeInfo137 w, rfl, rfl⟩, ⟨Try.t137, by kernel_rfl, rfl, rfl, rfl⟩⟩
theorem te138 : TE.ok Try.prog 138 ⟨Try.t138.desc, Try.t138.size, Try.t138.bytes, Try.t138.zero.getD undef⟩ := ⟨Try.underlying138, Try.runUnderlying138, Try.sizeOf138, Try.zeroValue138, Try.isAgg138, fun w => ⟨_, Try.typeInfo138 w, rfl, rfl⟩, ⟨Try.t138, by kernel_rfl, rfl, rfl, rfl⟩⟩
theorem te139 : TE.ok Try.prog 139 ⟨Try.t21.desc, Try.t139.size, Try.t139.bytes, Try.t139.zero.getD undef⟩ := ⟨Try.underlying139, Try.runUnderlying139, Try.sizeOf139, Try.zeroValue139, Try.isAgg139, fun w => ⟨_, Try.typeInfo139 w, rfl, rfl⟩, ⟨Try.t139, by kernel_rfl, rfl, rfl, rfl⟩⟩
theorem te140 : TE.ok Try.prog 140 ⟨Try.t21.desc, Try.t140.size, Try.t140.bytes, Try.t140.zero.getD undef⟩ := ⟨Try.underlying140, Try.runUnderlying140, Try.sizeOf140, Try.zeroValue140, Try.isAgg140, fun w => ⟨_, Try.typeInfo140 w, rfl, rfl⟩, ⟨Try.t140, by kernel_rfl, rfl, rfl, rfl⟩⟩
theorem te141 : TE.ok Try.prog 141 ⟨Try.t141.desc, Try.t141.size, Try.t141.bytes, Try.t141.zero.getD undef⟩ := ⟨Try.underlying141, Try.runUnderlying141, Try.sizeOf141, Try.zeroValue141, Try.isAgg141, fun w => ⟨_, Try.typeInfo141 w, rfl, rfl⟩, ⟨Try.t141, by kernel_rfl, rfl, rfl, rfl⟩⟩
theorem te142 : TE.ok Try.prog 142 ⟨Try.t141.desc, Try.t142.size, Try.t142.bytes, Try.t142.zero.getD undef⟩ := ⟨Try.underlying142, Try.runUnderlying142, Try.sizeOf142, Try.zeroValue142, Try.isAgg142, fun w => ⟨_, Try.typeInfo142 w, rfl, rfl⟩, ⟨Try.t142, by kernel_rfl, rfl, rfl, rfl⟩⟩
theorem te143 : TE.ok Try.prog 143 ⟨Try.t143.desc, Try.t143.size, Try.t143.bytes, Try.t143.zero.getD undef⟩ := ⟨Try.underlying143, Try.runUnderlying143, Try.sizeOf143, Try.zeroValue143, Try.isAgg143, fun w => ⟨_, Try.typeInfo143 w, rfl, rfl⟩, ⟨Try.t143, by kernel_rfl, rfl, rfl, rfl⟩⟩
theorem tab_ok : Tab.ok Try.prog tab := ⟨te0, te1, te2, te3, te4, te5, te6, te7, te8, te9, te10, te11, te12, te13, te14, te15, te16, te17, te18, te19, te20, te21, te22, te23, te24, te25, te26, te27, te28, te29, te30, te31, te32, te33, te34, te35, te36, te37, te38, te39, te40, te41, te42, te43, te44, te45, te46, te47, te48, te49, te50, te51, te52, te53, te54, te55, te56, te57, te58, te59, te60, te61, te62, te63, te64, te65, te66, te67, te68, te69, te70, te71, te72, te73, te74, te75, te76, te77, te78, te79, te80, te81, te82, te83, te84, te85, te86, te87, te88, te89, te90, te91, te92, te93, te94, te95, te96, te97, te98, te99, te100, te101, te102, te103, te104, te105, te106, te107, te108, te109, te110, te111, te112, te113, te114, te115, te116, te117, te118, te119, te120, te121, te122, te123, te124, te125, te126, te127, te128, te129, te130, te131, te132, te133, te134, te135, te136, te137, te138, te139, te140, te141, te142, te143, trivial⟩
theorem fns_ok : FnsOk Try.prog fns := ⟨Try.call2, Try.call3, Try.call4, Try.call5, Try.call6, Try.call7, Try.call8, Try.call9, Try.call10, Try.call11, Try.call12, Try.call13, Try.call14, Try.call15, Try.call16, Try.call17, Try.call18, Try.call19, Try.call20, Try.call21, Try.call22, Try.call23, Try.call24, Try.call25, Try.call26, Try.call27, Try.call28, Try.call29, Try.call30, Try.call31, Try.call32, Try.call33, Try.call34, Try.call35, Try.call36, Try.call37, Try.call38, Try.call39, Try.call40, Try.call42, Try.call43, Try.call44, Try.call45, Try.call46, Try.call47, Try.call48, Try.call49, Try.call50, Try.call51, Try.call52, Try.call53, Try.call54, Try.call55, Try.call56, Try.call57, Try.call58, Try.call59, Try.call60, Try.call61, Try.call62, Try.call63, Try.call64, Try.call65, Try.call66, Try.call67, Try.call68, Try.call69, Try.call70, Try.call71, Try.call72, Try.call73, Try.call74, Try.call75, Try.call76, Try.call77, trivial⟩
theorem mixed_ok : Try.prog.follows .mixedOrders = true := by kernel_rfl
noncomputable def env (cs : List (Nat × CallHint)) (opq : List Nat) (ls cuts : List (Nat × LoopHint)) : Env := { P := Try.prog, T := tab, fns := fns, calls := cs, opq := opq, loops := ls, cuts := cuts }
theorem env_ok (cs : List (Nat × CallHint)) (opq : List Nat) (ls cuts : List (Nat × LoopHint)) : (env cs opq ls cuts).ok := ⟨tab_ok, fns_ok.call, mixed_ok⟩
end Go.Proofs.Ytbaaecphcjhdjaa
